import Derived.Test.YtanljnpjkokmcaaTab
import Derived.Test.YtanljnpjkokmcaaML
set_option linter.unusedVariables false
namespace Go.Sh.Ytanljnpjkokmcaa
open Go.Proofs Go.Sh


theorem take1_ok (a : Ln) : Spec Try.prog 76 [.ptr 0 0, .int .i64 0] [(0, .cells (setC [a]))] 1 fun v H' _ => (∀ ρ, v.val ρ = (SV.tup []).val ρ) ∧ subH [(0, .cells (setC []))] H' := by
  refine Spec.of_body tabOk Try.func76 rfl (ent Try.func76 rfl (by kernel_rfl)) Try.ntmps76 rfl (by kernel_rfl) (Nat.le_of_ble_eq_true rfl) ?_
  conv => whnf
  refine CodeL.draw tabOk Try.checked.mixed 15 (by kernel_rfl) rfl ?_
  conv => whnf
  refine VL.qop rfl (VL.slice tabOk ?_)
  conv => whnf
  refine ⟨0, 2, 2, rfl, rfl, rfl, rfl, by decide, by decide, by decide, ?_⟩
  conv => whnf
  refine VL.qop rfl (VL.slice tabOk ?_)
  conv => whnf
  refine ⟨0 + 1, 1, 2, rfl, rfl, rfl, rfl, by decide, by decide, by decide, ?_⟩
  conv => whnf
  refine OpL.copy tabOk ?_
  conv => whnf
  refine ⟨.cells (setC [a]), fun _ => [], ?_, fun _ => ⟨rfl, rfl⟩, fun N _ _ => closed_Ins rfl N, rfl, rfl, rfl, fun ρ => ⟨by show _ ≤ 33; decide, rfl⟩⟩
  conv => whnf
  refine CodeL.draw tabOk Try.checked.mixed 9 (by kernel_rfl) rfl ?_
  conv => whnf
  refine .here (1 - 1) rfl (by decide) ?_
  conv => whnf
  exact ⟨fun _ => rfl, rfl, trivial⟩
theorem take20_ok (a b : Ln) : Spec Try.prog 76 [.ptr 0 0, .int .i64 0] [(0, .cells (setC [a, b]))] 1 fun v H' _ => (∀ ρ, v.val ρ = (SV.tup []).val ρ) ∧ subH [(0, .cells (setC [b]))] H' := by
  refine Spec.of_body tabOk Try.func76 rfl (ent Try.func76 rfl (by kernel_rfl)) Try.ntmps76 rfl (by kernel_rfl) (Nat.le_of_ble_eq_true rfl) ?_
  conv => whnf
  refine CodeL.draw tabOk Try.checked.mixed 15 (by kernel_rfl) rfl ?_
  conv => whnf
  refine VL.qop rfl (VL.slice tabOk ?_)
  conv => whnf
  refine ⟨0, 2, 2, rfl, rfl, rfl, rfl, by decide, by decide, by decide, ?_⟩
  conv => whnf
  refine VL.qop rfl (VL.slice tabOk ?_)
  conv => whnf
  refine ⟨0 + 1, 2, 2, rfl, rfl, rfl, rfl, by decide, by decide, by decide, ?_⟩
  conv => whnf
  refine OpL.copy tabOk ?_
  conv => whnf
  refine ⟨.cells (setC [b, b]), fun _ => lnV b, ?_, fun _ => ⟨rfl, rfl⟩, fun N _ _ => closed_Ins rfl N, rfl, rfl, rfl, fun ρ => ⟨by show _ ≤ 33; decide, rfl⟩⟩
  conv => whnf
  refine CodeL.draw tabOk Try.checked.mixed 9 (by kernel_rfl) rfl ?_
  conv => whnf
  refine .here (2 - 1) rfl (by decide) ?_
  conv => whnf
  exact ⟨fun _ => rfl, rfl, trivial⟩
theorem take21_ok (a b : Ln) : Spec Try.prog 76 [.ptr 0 0, .int .i64 1] [(0, .cells (setC [a, b]))] 1 fun v H' _ => (∀ ρ, v.val ρ = (SV.tup []).val ρ) ∧ subH [(0, .cells (setC [a]))] H' := by
  refine Spec.of_body tabOk Try.func76 rfl (ent Try.func76 rfl (by kernel_rfl)) Try.ntmps76 rfl (by kernel_rfl) (Nat.le_of_ble_eq_true rfl) ?_
  conv => whnf
  refine CodeL.draw tabOk Try.checked.mixed 15 (by kernel_rfl) rfl ?_
  conv => whnf
  refine VL.qop rfl (VL.slice tabOk ?_)
  conv => whnf
  refine ⟨1, 2, 2, rfl, rfl, rfl, rfl, by decide, by decide, by decide, ?_⟩
  conv => whnf
  refine VL.qop rfl (VL.slice tabOk ?_)
  conv => whnf
  refine ⟨1 + 1, 2, 2, rfl, rfl, rfl, rfl, by decide, by decide, by decide, ?_⟩
  conv => whnf
  refine OpL.copy tabOk ?_
  conv => whnf
  refine ⟨.cells (setC [a, b]), fun _ => [], ?_, fun _ => ⟨rfl, rfl⟩, fun N _ _ => closed_Ins rfl N, rfl, rfl, rfl, fun ρ => ⟨by show _ ≤ 33; decide, rfl⟩⟩
  conv => whnf
  refine CodeL.draw tabOk Try.checked.mixed 9 (by kernel_rfl) rfl ?_
  conv => whnf
  refine .here (2 - 1) rfl (by decide) ?_
  conv => whnf
  exact ⟨fun _ => rfl, rfl, trivial⟩
end Go.Sh.Ytanljnpjkokmcaa

set_option linter.unusedVariables false
namespace Go.Sh.Ytanljnpjkokmcaa
open Go.Proofs Go.Sh

theorem pageq_ok (a n : Int) (l : Ln) : Spec Try.prog 83 [.agg (lnC l), .ptr 0 0, .ptr 1 0] [(0, .view [.int .u64 a]), (1, .view [.int .u64 n])] 2 fun v _ _ => ∀ ρ, v.val ρ = (SV.bool (isP a n l)).val ρ := by
  refine Spec.of_body tabOk Try.func83 rfl (ent Try.func83 rfl (by kernel_rfl)) Try.ntmps83 rfl (by kernel_rfl) (Nat.le_of_ble_eq_true rfl) ?_
  conv => whnf
  refine ⟨.int .u64 a, ?_, rfl, rfl⟩
  conv => whnf
  refine ⟨fun h => ?_, fun h => ?_⟩
  · conv => whnf
    refine ⟨.int .u64 n, ?_, rfl, rfl⟩
    conv => whnf
    intro ρ
    show Value.bool _ = Value.bool (isP a n l)
    rw [isP, h]; rfl
  · conv => whnf
    intro ρ
    show Value.bool _ = Value.bool (isP a n l)
    rw [isP, h]; rfl
theorem flushq_ok (a : Int) (l : Ln) : Spec Try.prog 50 [.agg (lnC l), .ptr 0 0] [(0, .view [.int .u64 a])] 1 fun v _ _ => ∀ ρ, v.val ρ = (SV.bool (isA a l)).val ρ := by
  refine Spec.of_body tabOk Try.func50 rfl (ent Try.func50 rfl (by kernel_rfl)) Try.ntmps50 rfl (by kernel_rfl) (Nat.le_of_ble_eq_true rfl) ?_
  conv => whnf
  refine ⟨.int .u64 a, ?_, rfl, rfl⟩
  conv => whnf
  intro ρ
  rfl
theorem clearq_ok (l : Ln) : Spec Try.prog 63 [.agg (lnC l)] [] 0 fun v _ _ => ∀ ρ, v.val ρ = (SV.bool true).val ρ := by
  refine Spec.of_body tabOk Try.func63 rfl (ent Try.func63 rfl (by kernel_rfl)) Try.ntmps63 rfl (by kernel_rfl) (Nat.le_of_ble_eq_true rfl) ?_
  conv => whnf
  intro ρ
  rfl

theorem dropPage_ok (a n : Int) (l : List Ln) (hl : l.length ≤ 2) : Spec Try.prog 61 [.ptr 0 0, .func 83 [.ptr 1 0, .ptr 2 0]] [(0, .cells (setC l)), (1, .view [.int .u64 a]), (2, .view [.int .u64 n])] 3 fun v H' _ => (∀ ρ, v.val ρ = (SV.tup []).val ρ) ∧ subH [(0, .cells (setC (l.filter fun x => !isP a n x)))] H' := by
  refine Spec.of_body tabOk Try.func61 rfl (ent Try.func61 rfl (by kernel_rfl)) Try.ntmps61 rfl (by kernel_rfl) (Nat.le_of_ble_eq_true rfl) ?_
  rcases le2 hl with rfl | ⟨x, rfl⟩ | ⟨x, y, rfl⟩
  · conv => whnf
    refine CodeL.loop tabOk (fun s : Nat × List Ln => ([(0, .ptr 0 0), (1, .func 83 [.ptr 1 0, .ptr 2 0]), (4, .int .i64 ((s.1 : Int) - 1))], (0, .cells (setC s.2)) :: [(1, .view [.int .u64 a]), (2, .view [.int .u64 n])])) (fun s => s.1) (fun s => s.1 ≤ 0 ∧ s.2 = []) rfl (fun s => ⟨rfl, wfH_set rfl rfl⟩) (0, []) ⟨by decide, rfl⟩ ⟨⟨rfl, rfl, rfl, trivial⟩, ⟨rfl, ⟨rfl, rfl, trivial⟩⟩⟩ ?_
    rintro ⟨k, l⟩ ⟨hk, rfl⟩
    have hk : k ≤ 0 := hk
    have : k = 0 := by omega
    subst this
    conv => whnf
    refine .f rfl ?_
    conv => whnf
    exact ⟨fun _ => rfl, rfl, trivial⟩
  · conv => whnf
    refine CodeL.loop tabOk (fun s : Nat × List Ln => ([(0, .ptr 0 0), (1, .func 83 [.ptr 1 0, .ptr 2 0]), (4, .int .i64 ((s.1 : Int) - 1))], (0, .cells (setC s.2)) :: [(1, .view [.int .u64 a]), (2, .view [.int .u64 n])])) (fun s => s.1) (fun s => s.1 ≤ 1 ∧ s.2 = [x].take s.1 ++ ([x].drop s.1).filter fun x => !isP a n x) rfl (fun s => ⟨rfl, wfH_set rfl rfl⟩) (1, [x]) ⟨Nat.le_refl _, rfl⟩ ⟨⟨rfl, rfl, rfl, trivial⟩, ⟨rfl, ⟨rfl, rfl, trivial⟩⟩⟩ ?_
    rintro ⟨k, l⟩ hs
    have hk : k ≤ 1 := hs.1
    have hs : l = [x].take k ++ ([x].drop k).filter fun x => !isP a n x := hs.2
    subst hs
    have : k = 0 ∨ k = 1 := by omega
    rcases this with rfl | rfl
    · conv => whnf
      refine .f rfl ?_
      conv => whnf
      exact ⟨fun _ => rfl, rfl, trivial⟩
    · conv => whnf
      refine .t rfl ?_
      conv => whnf
      refine .here 0 rfl (by decide) ?_
      conv => whnf
      refine Spec.fn (Fun.read (pageq_ok a n x) rfl) [1, 2] rfl rfl (fun _ => rfl) rfl ⟨⟨by decide, rfl, rfl, _, rfl, fun _ => rfl, Nat.le_refl _, fun _ => Nat.le_refl _, id⟩, ⟨by decide, rfl, rfl, _, rfl, fun _ => rfl, Nat.le_refl _, fun _ => Nat.le_refl _, id⟩, trivial⟩ (fun _ _ => ⟨rfl, rfl, rfl, rfl, trivial⟩) (fun _ _ => ?_)
      conv => whnf
      refine ⟨fun (hp : isP a n x = true) => ?_, fun (hp : isP a n x = false) => ?_⟩
      · conv => whnf
        refine Spec.frame (fun i => (i, 0)) (H1 := [(0, .cells (setC ([])))]) (H2 := (0, .cells (setC ([]))) :: [(1, .view [.int .u64 a]), (2, .view [.int .u64 n])]) (take1_ok x) (fun _ => rfl) rfl (Part.lists ⟨⟨by decide, rfl, _, Lies.whole rfl (fun _ => rfl) (Nat.le_refl _) (fun _ => Nat.le_refl _) id⟩, trivial⟩ (fun i j _ _ h => h)) rfl (keptL_out ⟨Kept.set (lek rfl) (lek rfl) rfl rfl rfl rfl, ⟨.far rfl (farL_out ⟨fun _ => by decide, trivial⟩), .far rfl (farL_out ⟨fun _ => by decide, trivial⟩), trivial⟩⟩) rfl ?_
        conv => whnf
        refine ⟨(0, []), ⟨lek rfl, by simp [hp]⟩, ltk rfl, ⟨rfl, rfl, rfl, trivial⟩, ⟨rfl, ⟨rfl, rfl, trivial⟩⟩⟩
      · conv => whnf
        refine ⟨(0, [x]), ⟨lek rfl, by simp [hp]⟩, ltk rfl, ⟨rfl, rfl, rfl, trivial⟩, ⟨rfl, ⟨rfl, rfl, trivial⟩⟩⟩
  · conv => whnf
    refine CodeL.loop tabOk (fun s : Nat × List Ln => ([(0, .ptr 0 0), (1, .func 83 [.ptr 1 0, .ptr 2 0]), (4, .int .i64 ((s.1 : Int) - 1))], (0, .cells (setC s.2)) :: [(1, .view [.int .u64 a]), (2, .view [.int .u64 n])])) (fun s => s.1) (fun s => s.1 ≤ 2 ∧ s.2 = [x, y].take s.1 ++ ([x, y].drop s.1).filter fun x => !isP a n x) rfl (fun s => ⟨rfl, wfH_set rfl rfl⟩) (2, [x, y]) ⟨Nat.le_refl _, rfl⟩ ⟨⟨rfl, rfl, rfl, trivial⟩, ⟨rfl, ⟨rfl, rfl, trivial⟩⟩⟩ ?_
    rintro ⟨k, l⟩ hs
    have hk : k ≤ 2 := hs.1
    have hs : l = [x, y].take k ++ ([x, y].drop k).filter fun x => !isP a n x := hs.2
    subst hs
    have : k = 0 ∨ k = 1 ∨ k = 2 := by omega
    rcases this with rfl | rfl | rfl
    · conv => whnf
      refine .f rfl ?_
      conv => whnf
      exact ⟨fun _ => rfl, rfl, trivial⟩
    · cases hy : isP a n y
      · have e : [x, y].take 1 ++ ([x, y].drop 1).filter (fun x => !isP a n x) = [x, y] := by simp [hy]
        rw [e]
        conv => whnf
        refine .t rfl ?_
        conv => whnf
        refine .here 0 rfl (by decide) ?_
        conv => whnf
        refine Spec.fn (Fun.read (pageq_ok a n x) rfl) [1, 2] rfl rfl (fun _ => rfl) rfl ⟨⟨by decide, rfl, rfl, _, rfl, fun _ => rfl, Nat.le_refl _, fun _ => Nat.le_refl _, id⟩, ⟨by decide, rfl, rfl, _, rfl, fun _ => rfl, Nat.le_refl _, fun _ => Nat.le_refl _, id⟩, trivial⟩ (fun _ _ => ⟨rfl, rfl, rfl, rfl, trivial⟩) (fun _ _ => ?_)
        conv => whnf
        refine ⟨fun (hp : isP a n x = true) => ?_, fun (hp : isP a n x = false) => ?_⟩
        · conv => whnf
          refine Spec.frame (fun i => (i, 0)) (H1 := [(0, .cells (setC ([y])))]) (H2 := (0, .cells (setC ([y]))) :: [(1, .view [.int .u64 a]), (2, .view [.int .u64 n])]) (take20_ok x y) (fun _ => rfl) rfl (Part.lists ⟨⟨by decide, rfl, _, Lies.whole rfl (fun _ => rfl) (Nat.le_refl _) (fun _ => Nat.le_refl _) id⟩, trivial⟩ (fun i j _ _ h => h)) rfl (keptL_out ⟨Kept.set (lek rfl) (lek rfl) rfl rfl rfl rfl, ⟨.far rfl (farL_out ⟨fun _ => by decide, trivial⟩), .far rfl (farL_out ⟨fun _ => by decide, trivial⟩), trivial⟩⟩) rfl ?_
          conv => whnf
          refine ⟨(0, [y]), ⟨lek rfl, by simp [hp, hy]⟩, ltk rfl, ⟨rfl, rfl, rfl, trivial⟩, ⟨rfl, ⟨rfl, rfl, trivial⟩⟩⟩
        · conv => whnf
          refine ⟨(0, [x, y]), ⟨lek rfl, by simp [hp, hy]⟩, ltk rfl, ⟨rfl, rfl, rfl, trivial⟩, ⟨rfl, ⟨rfl, rfl, trivial⟩⟩⟩
      · have e : [x, y].take 1 ++ ([x, y].drop 1).filter (fun x => !isP a n x) = [x] := by simp [hy]
        rw [e]
        conv => whnf
        refine .t rfl ?_
        conv => whnf
        refine .here 0 rfl (by decide) ?_
        conv => whnf
        refine Spec.fn (Fun.read (pageq_ok a n x) rfl) [1, 2] rfl rfl (fun _ => rfl) rfl ⟨⟨by decide, rfl, rfl, _, rfl, fun _ => rfl, Nat.le_refl _, fun _ => Nat.le_refl _, id⟩, ⟨by decide, rfl, rfl, _, rfl, fun _ => rfl, Nat.le_refl _, fun _ => Nat.le_refl _, id⟩, trivial⟩ (fun _ _ => ⟨rfl, rfl, rfl, rfl, trivial⟩) (fun _ _ => ?_)
        conv => whnf
        refine ⟨fun (hp : isP a n x = true) => ?_, fun (hp : isP a n x = false) => ?_⟩
        · conv => whnf
          refine Spec.frame (fun i => (i, 0)) (H1 := [(0, .cells (setC ([])))]) (H2 := (0, .cells (setC ([]))) :: [(1, .view [.int .u64 a]), (2, .view [.int .u64 n])]) (take1_ok x) (fun _ => rfl) rfl (Part.lists ⟨⟨by decide, rfl, _, Lies.whole rfl (fun _ => rfl) (Nat.le_refl _) (fun _ => Nat.le_refl _) id⟩, trivial⟩ (fun i j _ _ h => h)) rfl (keptL_out ⟨Kept.set (lek rfl) (lek rfl) rfl rfl rfl rfl, ⟨.far rfl (farL_out ⟨fun _ => by decide, trivial⟩), .far rfl (farL_out ⟨fun _ => by decide, trivial⟩), trivial⟩⟩) rfl ?_
          conv => whnf
          refine ⟨(0, []), ⟨lek rfl, by simp [hp, hy]⟩, ltk rfl, ⟨rfl, rfl, rfl, trivial⟩, ⟨rfl, ⟨rfl, rfl, trivial⟩⟩⟩
        · conv => whnf
          refine ⟨(0, [x]), ⟨lek rfl, by simp [hp, hy]⟩, ltk rfl, ⟨rfl, rfl, rfl, trivial⟩, ⟨rfl, ⟨rfl, rfl, trivial⟩⟩⟩
    · conv => whnf
      refine .t rfl ?_
      conv => whnf
      refine .here 1 rfl (by decide) ?_
      conv => whnf
      refine Spec.fn (Fun.read (pageq_ok a n y) rfl) [1, 2] rfl rfl (fun _ => rfl) rfl ⟨⟨by decide, rfl, rfl, _, rfl, fun _ => rfl, Nat.le_refl _, fun _ => Nat.le_refl _, id⟩, ⟨by decide, rfl, rfl, _, rfl, fun _ => rfl, Nat.le_refl _, fun _ => Nat.le_refl _, id⟩, trivial⟩ (fun _ _ => ⟨rfl, rfl, rfl, rfl, trivial⟩) (fun _ _ => ?_)
      conv => whnf
      refine ⟨fun (hp : isP a n y = true) => ?_, fun (hp : isP a n y = false) => ?_⟩
      · conv => whnf
        refine Spec.frame (fun i => (i, 0)) (H1 := [(0, .cells (setC ([x])))]) (H2 := (0, .cells (setC ([x]))) :: [(1, .view [.int .u64 a]), (2, .view [.int .u64 n])]) (take21_ok x y) (fun _ => rfl) rfl (Part.lists ⟨⟨by decide, rfl, _, Lies.whole rfl (fun _ => rfl) (Nat.le_refl _) (fun _ => Nat.le_refl _) id⟩, trivial⟩ (fun i j _ _ h => h)) rfl (keptL_out ⟨Kept.set (lek rfl) (lek rfl) rfl rfl rfl rfl, ⟨.far rfl (farL_out ⟨fun _ => by decide, trivial⟩), .far rfl (farL_out ⟨fun _ => by decide, trivial⟩), trivial⟩⟩) rfl ?_
        conv => whnf
        refine ⟨(1, [x]), ⟨lek rfl, by simp [hp]⟩, ltk rfl, ⟨rfl, rfl, rfl, trivial⟩, ⟨rfl, ⟨rfl, rfl, trivial⟩⟩⟩
      · conv => whnf
        refine ⟨(1, [x, y]), ⟨lek rfl, by simp [hp]⟩, ltk rfl, ⟨rfl, rfl, rfl, trivial⟩, ⟨rfl, ⟨rfl, rfl, trivial⟩⟩⟩
theorem dropFlush_ok (a : Int) (l : List Ln) (hl : l.length ≤ 2) : Spec Try.prog 61 [.ptr 0 0, .func 50 [.ptr 1 0]] [(0, .cells (setC l)), (1, .view [.int .u64 a])] 2 fun v H' _ => (∀ ρ, v.val ρ = (SV.tup []).val ρ) ∧ subH [(0, .cells (setC (l.filter fun x => !isA a x)))] H' := by
  refine Spec.of_body tabOk Try.func61 rfl (ent Try.func61 rfl (by kernel_rfl)) Try.ntmps61 rfl (by kernel_rfl) (Nat.le_of_ble_eq_true rfl) ?_
  rcases le2 hl with rfl | ⟨x, rfl⟩ | ⟨x, y, rfl⟩
  · conv => whnf
    refine CodeL.loop tabOk (fun s : Nat × List Ln => ([(0, .ptr 0 0), (1, .func 50 [.ptr 1 0]), (4, .int .i64 ((s.1 : Int) - 1))], (0, .cells (setC s.2)) :: [(1, .view [.int .u64 a])])) (fun s => s.1) (fun s => s.1 ≤ 0 ∧ s.2 = []) rfl (fun s => ⟨rfl, wfH_set rfl rfl⟩) (0, []) ⟨by decide, rfl⟩ ⟨⟨rfl, rfl, rfl, trivial⟩, ⟨rfl, ⟨rfl, trivial⟩⟩⟩ ?_
    rintro ⟨k, l⟩ ⟨hk, rfl⟩
    have hk : k ≤ 0 := hk
    have : k = 0 := by omega
    subst this
    conv => whnf
    refine .f rfl ?_
    conv => whnf
    exact ⟨fun _ => rfl, rfl, trivial⟩
  · conv => whnf
    refine CodeL.loop tabOk (fun s : Nat × List Ln => ([(0, .ptr 0 0), (1, .func 50 [.ptr 1 0]), (4, .int .i64 ((s.1 : Int) - 1))], (0, .cells (setC s.2)) :: [(1, .view [.int .u64 a])])) (fun s => s.1) (fun s => s.1 ≤ 1 ∧ s.2 = [x].take s.1 ++ ([x].drop s.1).filter fun x => !isA a x) rfl (fun s => ⟨rfl, wfH_set rfl rfl⟩) (1, [x]) ⟨Nat.le_refl _, rfl⟩ ⟨⟨rfl, rfl, rfl, trivial⟩, ⟨rfl, ⟨rfl, trivial⟩⟩⟩ ?_
    rintro ⟨k, l⟩ hs
    have hk : k ≤ 1 := hs.1
    have hs : l = [x].take k ++ ([x].drop k).filter fun x => !isA a x := hs.2
    subst hs
    have : k = 0 ∨ k = 1 := by omega
    rcases this with rfl | rfl
    · conv => whnf
      refine .f rfl ?_
      conv => whnf
      exact ⟨fun _ => rfl, rfl, trivial⟩
    · conv => whnf
      refine .t rfl ?_
      conv => whnf
      refine .here 0 rfl (by decide) ?_
      conv => whnf
      refine Spec.fn (Fun.read (flushq_ok a x) rfl) [1] rfl rfl (fun _ => rfl) rfl ⟨⟨by decide, rfl, rfl, _, rfl, fun _ => rfl, Nat.le_refl _, fun _ => Nat.le_refl _, id⟩, trivial⟩ (fun _ _ => ⟨rfl, rfl, rfl, trivial⟩) (fun _ _ => ?_)
      conv => whnf
      refine ⟨fun (hp : isA a x = true) => ?_, fun (hp : isA a x = false) => ?_⟩
      · conv => whnf
        refine Spec.frame (fun i => (i, 0)) (H1 := [(0, .cells (setC ([])))]) (H2 := (0, .cells (setC ([]))) :: [(1, .view [.int .u64 a])]) (take1_ok x) (fun _ => rfl) rfl (Part.lists ⟨⟨by decide, rfl, _, Lies.whole rfl (fun _ => rfl) (Nat.le_refl _) (fun _ => Nat.le_refl _) id⟩, trivial⟩ (fun i j _ _ h => h)) rfl (keptL_out ⟨Kept.set (lek rfl) (lek rfl) rfl rfl rfl rfl, ⟨.far rfl (farL_out ⟨fun _ => by decide, trivial⟩), trivial⟩⟩) rfl ?_
        conv => whnf
        refine ⟨(0, []), ⟨lek rfl, by simp [hp]⟩, ltk rfl, ⟨rfl, rfl, rfl, trivial⟩, ⟨rfl, ⟨rfl, trivial⟩⟩⟩
      · conv => whnf
        refine ⟨(0, [x]), ⟨lek rfl, by simp [hp]⟩, ltk rfl, ⟨rfl, rfl, rfl, trivial⟩, ⟨rfl, ⟨rfl, trivial⟩⟩⟩
  · conv => whnf
    refine CodeL.loop tabOk (fun s : Nat × List Ln => ([(0, .ptr 0 0), (1, .func 50 [.ptr 1 0]), (4, .int .i64 ((s.1 : Int) - 1))], (0, .cells (setC s.2)) :: [(1, .view [.int .u64 a])])) (fun s => s.1) (fun s => s.1 ≤ 2 ∧ s.2 = [x, y].take s.1 ++ ([x, y].drop s.1).filter fun x => !isA a x) rfl (fun s => ⟨rfl, wfH_set rfl rfl⟩) (2, [x, y]) ⟨Nat.le_refl _, rfl⟩ ⟨⟨rfl, rfl, rfl, trivial⟩, ⟨rfl, ⟨rfl, trivial⟩⟩⟩ ?_
    rintro ⟨k, l⟩ hs
    have hk : k ≤ 2 := hs.1
    have hs : l = [x, y].take k ++ ([x, y].drop k).filter fun x => !isA a x := hs.2
    subst hs
    have : k = 0 ∨ k = 1 ∨ k = 2 := by omega
    rcases this with rfl | rfl | rfl
    · conv => whnf
      refine .f rfl ?_
      conv => whnf
      exact ⟨fun _ => rfl, rfl, trivial⟩
    · cases hy : isA a y
      · have e : [x, y].take 1 ++ ([x, y].drop 1).filter (fun x => !isA a x) = [x, y] := by simp [hy]
        rw [e]
        conv => whnf
        refine .t rfl ?_
        conv => whnf
        refine .here 0 rfl (by decide) ?_
        conv => whnf
        refine Spec.fn (Fun.read (flushq_ok a x) rfl) [1] rfl rfl (fun _ => rfl) rfl ⟨⟨by decide, rfl, rfl, _, rfl, fun _ => rfl, Nat.le_refl _, fun _ => Nat.le_refl _, id⟩, trivial⟩ (fun _ _ => ⟨rfl, rfl, rfl, trivial⟩) (fun _ _ => ?_)
        conv => whnf
        refine ⟨fun (hp : isA a x = true) => ?_, fun (hp : isA a x = false) => ?_⟩
        · conv => whnf
          refine Spec.frame (fun i => (i, 0)) (H1 := [(0, .cells (setC ([y])))]) (H2 := (0, .cells (setC ([y]))) :: [(1, .view [.int .u64 a])]) (take20_ok x y) (fun _ => rfl) rfl (Part.lists ⟨⟨by decide, rfl, _, Lies.whole rfl (fun _ => rfl) (Nat.le_refl _) (fun _ => Nat.le_refl _) id⟩, trivial⟩ (fun i j _ _ h => h)) rfl (keptL_out ⟨Kept.set (lek rfl) (lek rfl) rfl rfl rfl rfl, ⟨.far rfl (farL_out ⟨fun _ => by decide, trivial⟩), trivial⟩⟩) rfl ?_
          conv => whnf
          refine ⟨(0, [y]), ⟨lek rfl, by simp [hp, hy]⟩, ltk rfl, ⟨rfl, rfl, rfl, trivial⟩, ⟨rfl, ⟨rfl, trivial⟩⟩⟩
        · conv => whnf
          refine ⟨(0, [x, y]), ⟨lek rfl, by simp [hp, hy]⟩, ltk rfl, ⟨rfl, rfl, rfl, trivial⟩, ⟨rfl, ⟨rfl, trivial⟩⟩⟩
      · have e : [x, y].take 1 ++ ([x, y].drop 1).filter (fun x => !isA a x) = [x] := by simp [hy]
        rw [e]
        conv => whnf
        refine .t rfl ?_
        conv => whnf
        refine .here 0 rfl (by decide) ?_
        conv => whnf
        refine Spec.fn (Fun.read (flushq_ok a x) rfl) [1] rfl rfl (fun _ => rfl) rfl ⟨⟨by decide, rfl, rfl, _, rfl, fun _ => rfl, Nat.le_refl _, fun _ => Nat.le_refl _, id⟩, trivial⟩ (fun _ _ => ⟨rfl, rfl, rfl, trivial⟩) (fun _ _ => ?_)
        conv => whnf
        refine ⟨fun (hp : isA a x = true) => ?_, fun (hp : isA a x = false) => ?_⟩
        · conv => whnf
          refine Spec.frame (fun i => (i, 0)) (H1 := [(0, .cells (setC ([])))]) (H2 := (0, .cells (setC ([]))) :: [(1, .view [.int .u64 a])]) (take1_ok x) (fun _ => rfl) rfl (Part.lists ⟨⟨by decide, rfl, _, Lies.whole rfl (fun _ => rfl) (Nat.le_refl _) (fun _ => Nat.le_refl _) id⟩, trivial⟩ (fun i j _ _ h => h)) rfl (keptL_out ⟨Kept.set (lek rfl) (lek rfl) rfl rfl rfl rfl, ⟨.far rfl (farL_out ⟨fun _ => by decide, trivial⟩), trivial⟩⟩) rfl ?_
          conv => whnf
          refine ⟨(0, []), ⟨lek rfl, by simp [hp, hy]⟩, ltk rfl, ⟨rfl, rfl, rfl, trivial⟩, ⟨rfl, ⟨rfl, trivial⟩⟩⟩
        · conv => whnf
          refine ⟨(0, [x]), ⟨lek rfl, by simp [hp, hy]⟩, ltk rfl, ⟨rfl, rfl, rfl, trivial⟩, ⟨rfl, ⟨rfl, trivial⟩⟩⟩
    · conv => whnf
      refine .t rfl ?_
      conv => whnf
      refine .here 1 rfl (by decide) ?_
      conv => whnf
      refine Spec.fn (Fun.read (flushq_ok a y) rfl) [1] rfl rfl (fun _ => rfl) rfl ⟨⟨by decide, rfl, rfl, _, rfl, fun _ => rfl, Nat.le_refl _, fun _ => Nat.le_refl _, id⟩, trivial⟩ (fun _ _ => ⟨rfl, rfl, rfl, trivial⟩) (fun _ _ => ?_)
      conv => whnf
      refine ⟨fun (hp : isA a y = true) => ?_, fun (hp : isA a y = false) => ?_⟩
      · conv => whnf
        refine Spec.frame (fun i => (i, 0)) (H1 := [(0, .cells (setC ([x])))]) (H2 := (0, .cells (setC ([x]))) :: [(1, .view [.int .u64 a])]) (take21_ok x y) (fun _ => rfl) rfl (Part.lists ⟨⟨by decide, rfl, _, Lies.whole rfl (fun _ => rfl) (Nat.le_refl _) (fun _ => Nat.le_refl _) id⟩, trivial⟩ (fun i j _ _ h => h)) rfl (keptL_out ⟨Kept.set (lek rfl) (lek rfl) rfl rfl rfl rfl, ⟨.far rfl (farL_out ⟨fun _ => by decide, trivial⟩), trivial⟩⟩) rfl ?_
        conv => whnf
        refine ⟨(1, [x]), ⟨lek rfl, by simp [hp]⟩, ltk rfl, ⟨rfl, rfl, rfl, trivial⟩, ⟨rfl, ⟨rfl, trivial⟩⟩⟩
      · conv => whnf
        refine ⟨(1, [x, y]), ⟨lek rfl, by simp [hp]⟩, ltk rfl, ⟨rfl, rfl, rfl, trivial⟩, ⟨rfl, ⟨rfl, trivial⟩⟩⟩
theorem dropClear_ok (l : List Ln) (hl : l.length ≤ 2) : Spec Try.prog 61 [.ptr 0 0, .func 63 []] [(0, .cells (setC l))] 1 fun v H' _ => (∀ ρ, v.val ρ = (SV.tup []).val ρ) ∧ subH [(0, .cells (setC (l.filter fun x => !isT x)))] H' := by
  refine Spec.of_body tabOk Try.func61 rfl (ent Try.func61 rfl (by kernel_rfl)) Try.ntmps61 rfl (by kernel_rfl) (Nat.le_of_ble_eq_true rfl) ?_
  rcases le2 hl with rfl | ⟨x, rfl⟩ | ⟨x, y, rfl⟩
  · conv => whnf
    refine CodeL.loop tabOk (fun s : Nat × List Ln => ([(0, .ptr 0 0), (1, .func 63 []), (4, .int .i64 ((s.1 : Int) - 1))], (0, .cells (setC s.2)) :: [])) (fun s => s.1) (fun s => s.1 ≤ 0 ∧ s.2 = []) rfl (fun s => ⟨rfl, wfH_set rfl rfl⟩) (0, []) ⟨by decide, rfl⟩ ⟨⟨rfl, rfl, rfl, trivial⟩, ⟨rfl, trivial⟩⟩ ?_
    rintro ⟨k, l⟩ ⟨hk, rfl⟩
    have hk : k ≤ 0 := hk
    have : k = 0 := by omega
    subst this
    conv => whnf
    refine .f rfl ?_
    conv => whnf
    exact ⟨fun _ => rfl, rfl, trivial⟩
  · conv => whnf
    refine CodeL.loop tabOk (fun s : Nat × List Ln => ([(0, .ptr 0 0), (1, .func 63 []), (4, .int .i64 ((s.1 : Int) - 1))], (0, .cells (setC s.2)) :: [])) (fun s => s.1) (fun s => s.1 ≤ 1 ∧ s.2 = [x].take s.1 ++ ([x].drop s.1).filter fun x => !isT x) rfl (fun s => ⟨rfl, wfH_set rfl rfl⟩) (1, [x]) ⟨Nat.le_refl _, rfl⟩ ⟨⟨rfl, rfl, rfl, trivial⟩, ⟨rfl, trivial⟩⟩ ?_
    rintro ⟨k, l⟩ hs
    have hk : k ≤ 1 := hs.1
    have hs : l = [x].take k ++ ([x].drop k).filter fun x => !isT x := hs.2
    subst hs
    have : k = 0 ∨ k = 1 := by omega
    rcases this with rfl | rfl
    · conv => whnf
      refine .f rfl ?_
      conv => whnf
      exact ⟨fun _ => rfl, rfl, trivial⟩
    · conv => whnf
      refine .t rfl ?_
      conv => whnf
      refine .here 0 rfl (by decide) ?_
      conv => whnf
      refine Spec.fn (Fun.read (clearq_ok x) rfl) [] rfl rfl (fun _ => rfl) rfl trivial (fun _ _ => ⟨rfl, rfl, trivial⟩) (fun _ _ => ?_)
      conv => whnf
      refine ⟨fun (hp : isT x = true) => ?_, fun (hp : isT x = false) => ?_⟩
      · conv => whnf
        refine Spec.frame (fun i => (i, 0)) (H1 := [(0, .cells (setC ([])))]) (H2 := (0, .cells (setC ([]))) :: []) (take1_ok x) (fun _ => rfl) rfl (Part.lists ⟨⟨by decide, rfl, _, Lies.whole rfl (fun _ => rfl) (Nat.le_refl _) (fun _ => Nat.le_refl _) id⟩, trivial⟩ (fun i j _ _ h => h)) rfl (keptL_out ⟨Kept.set (lek rfl) (lek rfl) rfl rfl rfl rfl, trivial⟩) rfl ?_
        conv => whnf
        refine ⟨(0, []), ⟨lek rfl, by simp [hp]⟩, ltk rfl, ⟨rfl, rfl, rfl, trivial⟩, ⟨rfl, trivial⟩⟩
      · conv => whnf
        refine ⟨(0, [x]), ⟨lek rfl, by simp [hp]⟩, ltk rfl, ⟨rfl, rfl, rfl, trivial⟩, ⟨rfl, trivial⟩⟩
  · conv => whnf
    refine CodeL.loop tabOk (fun s : Nat × List Ln => ([(0, .ptr 0 0), (1, .func 63 []), (4, .int .i64 ((s.1 : Int) - 1))], (0, .cells (setC s.2)) :: [])) (fun s => s.1) (fun s => s.1 ≤ 2 ∧ s.2 = [x, y].take s.1 ++ ([x, y].drop s.1).filter fun x => !isT x) rfl (fun s => ⟨rfl, wfH_set rfl rfl⟩) (2, [x, y]) ⟨Nat.le_refl _, rfl⟩ ⟨⟨rfl, rfl, rfl, trivial⟩, ⟨rfl, trivial⟩⟩ ?_
    rintro ⟨k, l⟩ hs
    have hk : k ≤ 2 := hs.1
    have hs : l = [x, y].take k ++ ([x, y].drop k).filter fun x => !isT x := hs.2
    subst hs
    have : k = 0 ∨ k = 1 ∨ k = 2 := by omega
    rcases this with rfl | rfl | rfl
    · conv => whnf
      refine .f rfl ?_
      conv => whnf
      exact ⟨fun _ => rfl, rfl, trivial⟩
    · cases hy : isT y
      · have e : [x, y].take 1 ++ ([x, y].drop 1).filter (fun x => !isT x) = [x, y] := by simp [hy]
        rw [e]
        conv => whnf
        refine .t rfl ?_
        conv => whnf
        refine .here 0 rfl (by decide) ?_
        conv => whnf
        refine Spec.fn (Fun.read (clearq_ok x) rfl) [] rfl rfl (fun _ => rfl) rfl trivial (fun _ _ => ⟨rfl, rfl, trivial⟩) (fun _ _ => ?_)
        conv => whnf
        refine ⟨fun (hp : isT x = true) => ?_, fun (hp : isT x = false) => ?_⟩
        · conv => whnf
          refine Spec.frame (fun i => (i, 0)) (H1 := [(0, .cells (setC ([y])))]) (H2 := (0, .cells (setC ([y]))) :: []) (take20_ok x y) (fun _ => rfl) rfl (Part.lists ⟨⟨by decide, rfl, _, Lies.whole rfl (fun _ => rfl) (Nat.le_refl _) (fun _ => Nat.le_refl _) id⟩, trivial⟩ (fun i j _ _ h => h)) rfl (keptL_out ⟨Kept.set (lek rfl) (lek rfl) rfl rfl rfl rfl, trivial⟩) rfl ?_
          conv => whnf
          refine ⟨(0, [y]), ⟨lek rfl, by simp [hp, hy]⟩, ltk rfl, ⟨rfl, rfl, rfl, trivial⟩, ⟨rfl, trivial⟩⟩
        · conv => whnf
          refine ⟨(0, [x, y]), ⟨lek rfl, by simp [hp, hy]⟩, ltk rfl, ⟨rfl, rfl, rfl, trivial⟩, ⟨rfl, trivial⟩⟩
      · have e : [x, y].take 1 ++ ([x, y].drop 1).filter (fun x => !isT x) = [x] := by simp [hy]
        rw [e]
        conv => whnf
        refine .t rfl ?_
        conv => whnf
        refine .here 0 rfl (by decide) ?_
        conv => whnf
        refine Spec.fn (Fun.read (clearq_ok x) rfl) [] rfl rfl (fun _ => rfl) rfl trivial (fun _ _ => ⟨rfl, rfl, trivial⟩) (fun _ _ => ?_)
        conv => whnf
        refine ⟨fun (hp : isT x = true) => ?_, fun (hp : isT x = false) => ?_⟩
        · conv => whnf
          refine Spec.frame (fun i => (i, 0)) (H1 := [(0, .cells (setC ([])))]) (H2 := (0, .cells (setC ([]))) :: []) (take1_ok x) (fun _ => rfl) rfl (Part.lists ⟨⟨by decide, rfl, _, Lies.whole rfl (fun _ => rfl) (Nat.le_refl _) (fun _ => Nat.le_refl _) id⟩, trivial⟩ (fun i j _ _ h => h)) rfl (keptL_out ⟨Kept.set (lek rfl) (lek rfl) rfl rfl rfl rfl, trivial⟩) rfl ?_
          conv => whnf
          refine ⟨(0, []), ⟨lek rfl, by simp [hp, hy]⟩, ltk rfl, ⟨rfl, rfl, rfl, trivial⟩, ⟨rfl, trivial⟩⟩
        · conv => whnf
          refine ⟨(0, [x]), ⟨lek rfl, by simp [hp, hy]⟩, ltk rfl, ⟨rfl, rfl, rfl, trivial⟩, ⟨rfl, trivial⟩⟩
    · conv => whnf
      refine .t rfl ?_
      conv => whnf
      refine .here 1 rfl (by decide) ?_
      conv => whnf
      refine Spec.fn (Fun.read (clearq_ok y) rfl) [] rfl rfl (fun _ => rfl) rfl trivial (fun _ _ => ⟨rfl, rfl, trivial⟩) (fun _ _ => ?_)
      conv => whnf
      refine ⟨fun (hp : isT y = true) => ?_, fun (hp : isT y = false) => ?_⟩
      · conv => whnf
        refine Spec.frame (fun i => (i, 0)) (H1 := [(0, .cells (setC ([x])))]) (H2 := (0, .cells (setC ([x]))) :: []) (take21_ok x y) (fun _ => rfl) rfl (Part.lists ⟨⟨by decide, rfl, _, Lies.whole rfl (fun _ => rfl) (Nat.le_refl _) (fun _ => Nat.le_refl _) id⟩, trivial⟩ (fun i j _ _ h => h)) rfl (keptL_out ⟨Kept.set (lek rfl) (lek rfl) rfl rfl rfl rfl, trivial⟩) rfl ?_
        conv => whnf
        refine ⟨(1, [x]), ⟨lek rfl, by simp [hp]⟩, ltk rfl, ⟨rfl, rfl, rfl, trivial⟩, ⟨rfl, trivial⟩⟩
      · conv => whnf
        refine ⟨(1, [x, y]), ⟨lek rfl, by simp [hp]⟩, ltk rfl, ⟨rfl, rfl, rfl, trivial⟩, ⟨rfl, trivial⟩⟩
end Go.Sh.Ytanljnpjkokmcaa

set_option linter.unusedVariables false
namespace Go.Sh.Ytanljnpjkokmcaa
open Go.Proofs Go.Sh

theorem drop_ok (s : Nat → List Ln) (rest : List Value) (hs : okT s) (a n : Int) (hn : 0 ≤ n) : Spec Try.prog 19 [.ptr 0 0, .int .u64 a, .int .u64 n] [(0, .row (tlbC s rest))] 1 fun v H' _ => (∀ ρ, v.val ρ = (SV.tup []).val ρ) ∧ subH [(0, .row (tlbC (fset s (q4 n) ((s (q4 n)).filter fun x => !isP a n x)) rest))] H' := by
  refine Spec.of_body tabOk Try.func19 rfl (ent Try.func19 rfl (by kernel_rfl)) Try.ntmps19 rfl (by kernel_rfl) (Nat.le_of_ble_eq_true rfl) ?_
  conv => whnf
  refine Spec.of_body tabOk Try.func60 rfl (ent Try.func60 rfl (by kernel_rfl)) Try.ntmps60 rfl (by kernel_rfl) (Nat.le_of_ble_eq_true rfl) ?_
  conv => whnf
  refine .there (q4 n) (q4_eq hn) (q4_lt n) ?_
  conv => whnf
  refine Spec.of_body tabOk Try.func62 rfl (ent Try.func62 rfl (by kernel_rfl)) Try.ntmps62 rfl (by kernel_rfl) (Nat.le_of_ble_eq_true rfl) ?_
  conv => whnf
  refine Spec.set (q := q4 n) (dropPage_ok a n (s (q4 n)) (hs _)) [(1, 0), (2, 0)] hs (q4_lt n) (Nat.le_trans (List.length_filter_le _ _) (hs _)) rfl (noWr_out rfl) (fun ρ => ha_at (by show 0 + 0 + q4 n * 33 = 33 * q4 n; omega)) rfl ⟨⟨by decide, rfl, _, Lies.one rfl fun _ => rfl⟩, ⟨by decide, rfl, _, Lies.one rfl fun _ => rfl⟩, trivial⟩ rfl rfl ?_
  conv => whnf
  exact ⟨fun _ => rfl, rfl, trivial⟩

theorem put_ok (s : Nat → List Ln) (rest : List Value) (hs : okT s) (l : Ln) (hn : 0 ≤ l.num) : Spec Try.prog 47 [.ptr 0 0, .agg (lnC l)] [(0, .row (tlbC s rest))] 1 fun v H' _ => (∀ ρ, v.val ρ = (SV.tup []).val ρ) ∧ subH [(0, .row (tlbC (putS s l) rest))] H' := by
  have hq := q4_lt l.num
  have hfl : ((s (q4 l.num)).filter fun x => !isP l.asid l.num x).length ≤ 2 := Nat.le_trans (List.length_filter_le _ _) (hs _)
  unfold putS
  refine Spec.of_body tabOk Try.func47 rfl (ent Try.func47 rfl (by kernel_rfl)) Try.ntmps47 rfl (by kernel_rfl) (Nat.le_of_ble_eq_true rfl) ?_
  conv => whnf
  refine Spec.of_body tabOk Try.func60 rfl (ent Try.func60 rfl (by kernel_rfl)) Try.ntmps60 rfl (by kernel_rfl) (Nat.le_of_ble_eq_true rfl) ?_
  conv => whnf
  refine .there (q4 l.num) (q4_eq hn) (q4_lt l.num) ?_
  conv => whnf
  refine Spec.of_body tabOk Try.func62 rfl (ent Try.func62 rfl (by kernel_rfl)) Try.ntmps62 rfl (by kernel_rfl) (Nat.le_of_ble_eq_true rfl) ?_
  conv => whnf
  refine Spec.set (q := q4 l.num) (dropPage_ok l.asid l.num (s (q4 l.num)) (hs _)) [(2, 0), (3, 0)] hs (q4_lt l.num) hfl rfl (noWr_out rfl) (fun ρ => ha_at (by show 0 + 0 + q4 l.num * 33 = 33 * q4 l.num; omega)) rfl ⟨⟨by decide, rfl, _, Lies.one rfl fun _ => rfl⟩, ⟨by decide, rfl, _, Lies.one rfl fun _ => rfl⟩, trivial⟩ rfl rfl ?_
  generalize q4 l.num = q at hq hfl
  generalize hL : (s q).filter (fun x => !isP l.asid l.num x) = L at hfl
  have hs1 : okT (fset s q L) := okT_fset hs hfl
  have e1 : fset s q L q = L := fset_same _ _ _
  conv => whnf
  refine .at1 (.int .i64 (L.length : Int)) (33 * q + 32) (by show 0 + 0 + q * 33 + 32 = _; omega) (by have := tlbC_n hs1 rest hq; rw [e1] at this; exact this) rfl ?_
  conv => whnf
  refine ⟨fun h2 => ?_, fun h2 => ?_⟩
  · have h2 : L.length = 2 := by have := of_decide_eq_true h2; omega
    obtain ⟨x, y, rfl⟩ : ∃ x y, L = [x, y] := by
      rcases le2 hfl with rfl | ⟨a, rfl⟩ | h
      · cases h2
      · cases h2
      · exact h
    conv => whnf
    refine Spec.set (q := q) (l' := [y]) (args0 := [.ptr 0 0, .int .i64 0]) (u0 := 1) (caps := []) (by rw [e1]; exact take20_ok x y) [] hs1 hq (lek rfl) rfl (noWr_out rfl) (fun ρ => ha_at (by show 0 + 0 + q * 33 = 33 * q; omega)) rfl trivial rfl rfl ?_
    rw [fset_twice]
    generalize hst' : fset s q [y] = st
    have hst : okT st := by rw [← hst']; exact okT_fset hs (lek rfl)
    have e2 : st q = [y] := by rw [← hst']; exact fset_same _ _ _
    have h1 : (st q).length ≤ 1 := by rw [e2]; exact lek rfl
    conv => whnf
    refine CodeL.draw tabOk Try.checked.mixed 9 (by kernel_rfl) rfl ?_
    conv => whnf
    refine .at1 (.int .i64 ((st q).length : Int)) (33 * q + 32) (by show 0 + 0 + q * 33 + 32 = _; omega) (tlbC_n hst rest hq) rfl ?_
    conv => whnf
    refine .there (st q).length rfl (by omega) ?_
    conv => whnf
    refine .row (tlbM st q l rest) (lnC l) (33 * q + 16 * (st q).length) (by show 0 + 0 + q * 33 + 0 + (st q).length * 16 = _; omega) (fun _ => rfl) rfl rfl rfl (by rw [tlbC_len hst]; show _ + 16 ≤ _; omega) (tlbC_mid hst rest hq h1 l) ?_
    conv => whnf
    refine .at1 (.int .i64 ((st q).length : Int)) (33 * q + 32) (by show 0 + 0 + q * 33 + 32 = _; omega) (tlbM_n hst rest hq h1 l) rfl ?_
    conv => whnf
    refine .row (tlbC (fset st q (st q ++ [l])) rest) [.int .i64 (((st q).length : Int) + 1)] (33 * q + 32) (by show 0 + 0 + q * 33 + 32 = _; omega) (fun ρ => ?_) rfl rfl rfl (by rw [tlbM_len hst rest hq h1 l, tlbC_len hst]; show _ + 1 ≤ _; omega) (tlbM_put hst rest hq h1 l) ?_
    · show [Value.int .i64 (IntKind.wrap .i64 (((st q).length : Int) + 1))] = [Value.int .i64 (((st q).length : Int) + 1)]
      rw [wrap_i64' _ (by omega) (by omega)]
    conv => whnf
    refine ⟨fun _ => rfl, ?_, trivial⟩
    · rw [e2, ← hst', fset_twice]; rfl
  · have h2 : L.length ≠ 2 := by have := of_decide_eq_false h2; omega
    generalize hst' : fset s q L = st at hs1 e1
    have hst := hs1
    have h1 : (st q).length ≤ 1 := by rw [e1]; omega
    conv => whnf
    refine CodeL.draw tabOk Try.checked.mixed 9 (by kernel_rfl) rfl ?_
    conv => whnf
    refine .at1 (.int .i64 ((st q).length : Int)) (33 * q + 32) (by show 0 + 0 + q * 33 + 32 = _; omega) (tlbC_n hst rest hq) rfl ?_
    conv => whnf
    refine .there (st q).length rfl (by omega) ?_
    conv => whnf
    refine .row (tlbM st q l rest) (lnC l) (33 * q + 16 * (st q).length) (by show 0 + 0 + q * 33 + 0 + (st q).length * 16 = _; omega) (fun _ => rfl) rfl rfl rfl (by rw [tlbC_len hst]; show _ + 16 ≤ _; omega) (tlbC_mid hst rest hq h1 l) ?_
    conv => whnf
    refine .at1 (.int .i64 ((st q).length : Int)) (33 * q + 32) (by show 0 + 0 + q * 33 + 32 = _; omega) (tlbM_n hst rest hq h1 l) rfl ?_
    conv => whnf
    refine .row (tlbC (fset st q (st q ++ [l])) rest) [.int .i64 (((st q).length : Int) + 1)] (33 * q + 32) (by show 0 + 0 + q * 33 + 32 = _; omega) (fun ρ => ?_) rfl rfl rfl (by rw [tlbM_len hst rest hq h1 l, tlbC_len hst]; show _ + 1 ≤ _; omega) (tlbM_put hst rest hq h1 l) ?_
    · show [Value.int .i64 (IntKind.wrap .i64 (((st q).length : Int) + 1))] = [Value.int .i64 (((st q).length : Int) + 1)]
      rw [wrap_i64' _ (by omega) (by omega)]
    conv => whnf
    refine ⟨fun _ => rfl, ?_, trivial⟩
    · rw [e1, ← hst', fset_twice, putL, if_neg h2]; rfl
end Go.Sh.Ytanljnpjkokmcaa

set_option linter.unusedVariables false
namespace Go.Sh.Ytanljnpjkokmcaa
open Go.Proofs Go.Sh

def lookR : Option Ln → SV
  | some x => .tup [.agg (lnC x), .tt]
  | none => .tup [.agg (lnC ln0), .ff]
theorem look_ok (s : Nat → List Ln) (rest : List Value) (hs : okT s) (a n : Int) (hn : 0 ≤ n) : Spec Try.prog 40 [.ptr 0 0, .int .u64 a, .int .u64 n] [(0, .view (tlbC s rest))] 1 fun v _ _ => ∀ ρ, v.val ρ = (lookR ((s (q4 n)).find? (isP a n))).val ρ := by
  have hq := q4_lt n
  have hl := hs (q4 n)
  refine Spec.of_body tabOk Try.func40 rfl (ent Try.func40 rfl (by kernel_rfl)) Try.ntmps40 rfl (by kernel_rfl) (Nat.le_of_ble_eq_true rfl) ?_
  conv => whnf
  refine Spec.of_body tabOk Try.func60 rfl (ent Try.func60 rfl (by kernel_rfl)) Try.ntmps60 rfl (by kernel_rfl) (Nat.le_of_ble_eq_true rfl) ?_
  conv => whnf
  refine .there (q4 n) (q4_eq hn) (q4_lt n) ?_
  conv => whnf
  refine Spec.of_body tabOk Try.func62 rfl (ent Try.func62 rfl (by kernel_rfl)) Try.ntmps62 rfl (by kernel_rfl) (Nat.le_of_ble_eq_true rfl) ?_
  conv => whnf
  generalize q4 n = q at hq hl
  refine CodeL.draw tabOk Try.checked.mixed 14 (by kernel_rfl) rfl ?_
  conv => whnf
  refine .at1 (.int .i64 ((s q).length : Int)) (33 * q + 32) (by show 0 + 0 + q * 33 + 32 = _; omega) (tlbC_n hs rest hq) rfl ?_
  conv => whnf
  refine .at1 (.int .i64 ((s q).length : Int)) (33 * q + 32) (by show 0 + 0 + q * 33 + 32 = _; omega) (tlbC_n hs rest hq) rfl ?_
  conv => whnf
  refine VL.qop rfl (VL.slice tabOk ?_)
  conv => whnf
  refine ⟨0, (s q).length, (s q).length, rfl, rfl, rfl, rfl, Nat.zero_le _, Nat.le_refl _, hl, ?_⟩
  conv => whnf
  refine CodeL.loop tabOk (fun i : Nat => ([(6, .ptr 1 0), (7, .ff), (9, .func 83 [.ptr 2 0, .ptr 3 0]), (32, .slice 0 (sOff (s q).length 0 (0 + 0 + q * 33 + 0) 16) ((s q).length - 0) ((s q).length - 0)), (33, .int .i64 ((s q).length - 0 : Nat)), (34, .int .i64 (i : Int))], [(0, .view (tlbC s rest)), (1, .cells lnZ), (2, .cells [.int .u64 a]), (3, .cells [.int .u64 n])]))
    (fun i => (s q).length - i) (fun i => i ≤ (s q).length ∧ ∀ k y, k < i → (s q)[k]? = some y → isP a n y = false) rfl (fun i => ⟨rfl, rfl⟩) 0 ⟨Nat.zero_le _, fun k y hk => absurd hk (Nat.not_lt_zero _)⟩ ⟨⟨rfl, rfl, rfl, rfl, rfl, rfl, trivial⟩, ⟨rfl, rfl, rfl, rfl, trivial⟩⟩ ?_
  rintro i ⟨hi, hno⟩
  conv => whnf
  refine ⟨fun h => ?_, fun h => ?_⟩
  · have h : i < (s q).length := by have := of_decide_eq_true h; omega
    obtain ⟨x, hx⟩ : ∃ x, (s q)[i]? = some x := ⟨_, List.getElem?_eq_getElem h⟩
    conv => whnf
    refine .there i rfl (by omega) ?_
    conv => whnf
    refine .atN (lnC x) (33 * q + i * 16) (by show sOff (s q).length 0 (0 + 0 + q * 33 + 0) 16 + i * 16 = _; rw [sOff_zero]; omega) (by rw [tlbC_len hs]; show _ + 16 ≤ _; omega) (tlbC_line hs rest hq hx) rfl ?_
    conv => whnf
    refine Spec.fn (Fun.read (pageq_ok a n x) rfl) [2, 3] rfl rfl (fun _ => rfl) rfl ⟨⟨by decide, rfl, rfl, _, rfl, fun _ => rfl, Nat.le_refl _, fun _ => Nat.le_refl _, fun h => by cases h⟩, ⟨by decide, rfl, rfl, _, rfl, fun _ => rfl, Nat.le_refl _, fun _ => Nat.le_refl _, fun h => by cases h⟩, trivial⟩ (fun _ _ => ⟨rfl, rfl, rfl, rfl, trivial⟩) (fun _ _ => ?_)
    conv => whnf
    refine ⟨fun hp => ?_, fun hp => ?_⟩
    · conv => whnf
      intro ρ
      rw [find_hit hx hp hno]
      rfl
    · conv => whnf
      exact ⟨i + 1, ⟨by omega, fun k y hk hy => by
        by_cases e : k = i
        · subst e; rw [hx] at hy; injection hy with hy; subst hy; exact hp
        · exact hno k y (by omega) hy⟩, by omega, ⟨rfl, rfl, rfl, rfl, rfl, congrArg (fun x => some (SV.int .i64 x)) (by rw [wrap_i64' _ (by omega) (by omega)]; omega), trivial⟩, ⟨rfl, rfl, rfl, rfl, trivial⟩⟩
  · have h : i = (s q).length := by have := of_decide_eq_false h; omega
    subst h
    conv => whnf
    intro ρ
    rw [find_miss hno]
    rfl
end Go.Sh.Ytanljnpjkokmcaa

set_option linter.unusedVariables false
namespace Go.Sh.Ytanljnpjkokmcaa
open Go.Proofs Go.Sh

theorem flush_ok (s : Nat → List Ln) (rest : List Value) (hs : okT s) (a : Int) : Spec Try.prog 13 [.ptr 0 0, .int .u64 a] [(0, .row (tlbC s rest))] 1 fun v H' _ => (∀ ρ, v.val ρ = (SV.tup []).val ρ) ∧ subH [(0, .row (tlbC (filtS (fun x => !isA a x) s 4) rest))] H' := by
  refine Spec.of_body tabOk Try.func13 rfl (ent Try.func13 rfl (by kernel_rfl)) Try.ntmps13 rfl (by kernel_rfl) (Nat.le_of_ble_eq_true rfl) ?_
  conv => whnf
  refine Spec.of_body tabOk Try.func49 rfl (ent Try.func49 rfl (by kernel_rfl)) Try.ntmps49 rfl (by kernel_rfl) (Nat.le_of_ble_eq_true rfl) ?_
  conv => whnf
  refine CodeL.loop tabOk (fun i : Nat => ([(0, .ptr 0 0), (1, .func 50 [.ptr 1 0]), (7, .int .i64 (i : Int))], (0, .row (tlbC (filtS (fun x => !isA a x) s i) rest)) :: [(1, .cells [.int .u64 a])])) (fun i => 4 - i) (fun i => i ≤ 4) rfl (fun i => ⟨rfl, rfl⟩) 0 (Nat.zero_le _) ⟨⟨rfl, rfl, rfl, trivial⟩, ⟨by rw [filtS_zero]; rfl, ⟨rfl, trivial⟩⟩⟩ ?_
  intro i hi
  conv => whnf
  refine ⟨fun h => ?_, fun h => ?_⟩
  · have h : i < 4 := by have := of_decide_eq_true h; omega
    have hs1 : okT (filtS (fun x => !isA a x) s i) := okT_filtS hs i
    conv => whnf
    refine .there i rfl h ?_
    conv => whnf
    refine Spec.set (q := i) (l' := (s i).filter fun x => !isA a x) (args0 := [.ptr 0 0, .func 50 [.ptr 1 0]]) (u0 := 2) (caps := [(1, .view [.int .u64 a])]) (by rw [filtS_at]; exact dropFlush_ok a (s i) (hs i)) [(1, 0)] hs1 h (Nat.le_trans (List.length_filter_le _ _) (hs i)) rfl (noWr_out rfl) (fun ρ => ha_at (by show 0 + 0 + i * 33 = 33 * i; omega)) rfl ⟨⟨by decide, rfl, _, Lies.one rfl fun _ => rfl⟩, trivial⟩ rfl rfl ?_
    rw [filtS_succ]
    conv => whnf
    exact ⟨i + 1, by omega, by omega, ⟨rfl, rfl, congrArg (fun x => some (SV.int .i64 x)) (by rw [wrap_i64' _ (by omega) (by omega)]; omega), trivial⟩, ⟨rfl, ⟨rfl, trivial⟩⟩⟩
  · have h : i = 4 := by have := of_decide_eq_false h; omega
    subst h
    conv => whnf
    exact ⟨fun _ => rfl, rfl, trivial⟩
theorem clear_ok (s : Nat → List Ln) (rest : List Value) (hs : okT s) : Spec Try.prog 22 [.ptr 0 0] [(0, .row (tlbC s rest))] 1 fun v H' _ => (∀ ρ, v.val ρ = (SV.tup []).val ρ) ∧ subH [(0, .row (tlbC (filtS (fun x => !isT x) s 4) rest))] H' := by
  refine Spec.of_body tabOk Try.func22 rfl (ent Try.func22 rfl (by kernel_rfl)) Try.ntmps22 rfl (by kernel_rfl) (Nat.le_of_ble_eq_true rfl) ?_
  conv => whnf
  refine Spec.of_body tabOk Try.func49 rfl (ent Try.func49 rfl (by kernel_rfl)) Try.ntmps49 rfl (by kernel_rfl) (Nat.le_of_ble_eq_true rfl) ?_
  conv => whnf
  refine CodeL.loop tabOk (fun i : Nat => ([(0, .ptr 0 0), (1, .func 63 []), (7, .int .i64 (i : Int))], (0, .row (tlbC (filtS (fun x => !isT x) s i) rest)) :: [])) (fun i => 4 - i) (fun i => i ≤ 4) rfl (fun i => ⟨rfl, rfl⟩) 0 (Nat.zero_le _) ⟨⟨rfl, rfl, rfl, trivial⟩, ⟨by rw [filtS_zero]; rfl, trivial⟩⟩ ?_
  intro i hi
  conv => whnf
  refine ⟨fun h => ?_, fun h => ?_⟩
  · have h : i < 4 := by have := of_decide_eq_true h; omega
    have hs1 : okT (filtS (fun x => !isT x) s i) := okT_filtS hs i
    conv => whnf
    refine .there i rfl h ?_
    conv => whnf
    refine Spec.set (q := i) (l' := (s i).filter fun x => !isT x) (args0 := [.ptr 0 0, .func 63 []]) (u0 := 1) (caps := []) (by rw [filtS_at]; exact dropClear_ok (s i) (hs i)) [] hs1 h (Nat.le_trans (List.length_filter_le _ _) (hs i)) rfl (noWr_out rfl) (fun ρ => ha_at (by show 0 + 0 + i * 33 = 33 * i; omega)) rfl trivial rfl rfl ?_
    rw [filtS_succ]
    conv => whnf
    exact ⟨i + 1, by omega, by omega, ⟨rfl, rfl, congrArg (fun x => some (SV.int .i64 x)) (by rw [wrap_i64' _ (by omega) (by omega)]; omega), trivial⟩, ⟨rfl, trivial⟩⟩
  · have h : i = 4 := by have := of_decide_eq_false h; omega
    subst h
    conv => whnf
    exact ⟨fun _ => rfl, rfl, trivial⟩

theorem lines_ok (s : Nat → List Ln) (rest : List Value) (hs : okT s) : Fun Try.prog 25 [.ptr 0 0] [(0, .view (tlbC s rest))] 1 1 (okS (preL s 4).length) (fun x => .slz x.1 1 0 (preL s 4).length x.2) (fun x => [(1, .row (linesV (preL s 4)))]) := by
  unfold Fun
  refine Spec.of_body tabOk Try.func25 rfl (ent Try.func25 rfl (by kernel_rfl)) Try.ntmps25 rfl (by kernel_rfl) (Nat.le_of_ble_eq_true rfl) ?_
  conv => whnf
  refine CodeL.loopG tabOk 2 (by decide) (fun x : Nat × Bool × Nat => ([(0, .ptr 0 0), (3, .slz x.2.1 1 0 (preL s x.1).length x.2.2), (8, .int .i64 (x.1 : Int))], [(0, .view (tlbC s rest)), (1, .vec (linesV (preL s x.1)) (x.2.2 * 16))]))
    (fun x => 4 - x.1) (fun x => x.1 ≤ 4 ∧ okS (preL s x.1).length x.2) rfl (fun x => rfl) (0, true, 0) ⟨Nat.zero_le _, Nat.le_refl _, fun _ => rfl⟩ (fun i => (i, 0)) (fun _ _ => rfl) ⟨⟨⟨_, rfl, fun _ => rfl⟩, ⟨_, rfl, fun _ => rfl⟩, ⟨_, rfl, fun _ => rfl⟩, trivial⟩,
      Part.same ⟨⟨by decide, rfl, rfl, _, rfl, fun _ => rfl, Nat.le_refl _, fun _ => Nat.le_refl _, id⟩, ⟨by decide, rfl, rfl, _, rfl, fun _ => rfl, Nat.le_refl _, fun _ => Nat.le_refl _, id⟩, trivial⟩ (fun i j _ _ h => h)⟩ ?_
  rintro ⟨i, b, c⟩ ⟨hi, hc⟩
  have hi : i ≤ 4 := hi
  have hc : okS (preL s i).length (b, c) := hc
  dsimp only
  conv => whnf
  refine ⟨fun h => ?_, fun h => ?_⟩
  · have h : i < 4 := by have := of_decide_eq_true h; omega
    have hl := hs i
    have hp := preL_len hs i
    conv => whnf
    refine .there i rfl h ?_
    conv => whnf
    refine CodeL.draw tabOk Try.checked.mixed 13 (by kernel_rfl) rfl ?_
    conv => whnf
    refine .at1 (.int .i64 ((s i).length : Int)) (33 * i + 32) (by show 0 + 0 + i * 33 + 32 = _; omega) (tlbC_n hs rest h) rfl ?_
    conv => whnf
    refine .at1 (.int .i64 ((s i).length : Int)) (33 * i + 32) (by show 0 + 0 + i * 33 + 32 = _; omega) (tlbC_n hs rest h) rfl ?_
    conv => whnf
    refine VL.qop rfl (VL.slice tabOk ?_)
    conv => whnf
    refine ⟨0, (s i).length, (s i).length, rfl, rfl, rfl, rfl, Nat.zero_le _, Nat.le_refl _, hl, ?_⟩
    conv => whnf
    refine OpL.app tabOk ?_
    conv => whnf
    refine ⟨linesV (s i), fun ρ => ?_, by rw [linesV_len, Nat.sub_zero], by rw [linesV_len], rfl, hc.1, by omega, by show ((preL s i).length + ((s i).length - 0)) * 48 ≤ 140737488355328; omega, fun b' c' hc' hb' => ?_⟩
    · show ((tlbC s rest).drop (sOff (s i).length 0 (0 + 0 + i * 33 + 0) 16)).take (((s i).length - 0) * 16) = linesV (s i)
      rw [sOff_zero, Nat.sub_zero, show 0 + 0 + i * 33 + 0 = 33 * i by omega, tlbC_lines hs rest h]
    have hlen : (preL s (i + 1)).length = (preL s i).length + ((s i).length - 0) := by simp only [preL, List.length_append, Nat.sub_zero]
    conv => whnf
    exact ⟨(i + 1, b', c'), to1 1 2, ⟨by show i + 1 ≤ 4; omega, by rw [hlen]; exact hc', fun h => (hb' h).2⟩, by simp only; omega, to1_low (by decide), ⟨⟨_, rfl, fun _ => rfl⟩, ⟨_, rfl, fun ρ => by rw [hlen]; rfl⟩, ⟨_, rfl, fun _ => congrArg (fun x => Value.int .i64 x) (by rw [wrap_i64' _ (by omega) (by omega)]; omega)⟩, trivial⟩,
      Part.same ⟨⟨by decide, rfl, rfl, _, rfl, fun _ => rfl, Nat.le_refl _, fun _ => Nat.le_refl _, id⟩, ⟨by decide, rfl, rfl, _, rfl, fun _ => by simp only [SO.vals, preL, linesV_append], Nat.le_refl _, fun _ => by show (linesV (preL s (i + 1))).length ≤ c' * 16; rw [linesV_len, hlen]; exact Nat.mul_le_mul_right _ hc', id⟩, trivial⟩ (to1_inj (.inr (by decide)))⟩
  · have h : i = 4 := by have := of_decide_eq_false h; omega
    subst h
    conv => whnf
    exact ⟨(b, c), fun i => (i, 0), hc, fun _ _ => rfl, Part.same ⟨⟨by decide, rfl, rfl, _, rfl, fun _ => rfl, by show (linesV (preL s 4)).length ≤ c * 16; rw [linesV_len]; exact Nat.mul_le_mul_right _ hc.1, fun _ => Nat.le_refl _, id⟩, trivial⟩ (fun i j _ _ h => h), fun ρ => rfl⟩
end Go.Sh.Ytanljnpjkokmcaa
