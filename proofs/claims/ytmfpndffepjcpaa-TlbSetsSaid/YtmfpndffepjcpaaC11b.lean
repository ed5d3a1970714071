import Derived.Test.YtmfpndffepjcpaaC11a
set_option linter.unusedVariables false
namespace Go.Sh.Ytmfpndffepjcpaa
open Go.Proofs Go.Sh

theorem pageq_ok (a n : Int) (l : Ln) : Spec Try.prog 28 [.agg (lnC l), .ptr 0 0, .ptr 1 0] [(0, .view [.int .u64 a]), (1, .view [.int .u64 n])] 2 fun v _ _ => ∀ ρ, v.val ρ = (SV.bool (isP a n l)).val ρ := by
  refine Spec.of_body tabOk Try.func28 rfl (ent Try.func28 rfl (by kernel_rfl)) Try.ntmps28 rfl (by kernel_rfl) (Nat.le_of_ble_eq_true rfl) ?_
  conv => whnf
  refine ⟨.int .u64 a, ?_, rfl, rfl⟩
  conv => whnf
  refine ⟨fun h => ?_, fun h => ?_⟩
  · conv => whnf
    refine ⟨.int .u64 n, ?_, rfl, rfl⟩
    conv => whnf
    intro ρ
    show Value.bool _ = Value.bool (isP a n l)
    rw [isP, h]; rfl
  · conv => whnf
    intro ρ
    show Value.bool _ = Value.bool (isP a n l)
    rw [isP, h]; rfl
theorem flushq_ok (a : Int) (l : Ln) : Spec Try.prog 26 [.agg (lnC l), .ptr 0 0] [(0, .view [.int .u64 a])] 1 fun v _ _ => ∀ ρ, v.val ρ = (SV.bool (isA a l)).val ρ := by
  refine Spec.of_body tabOk Try.func26 rfl (ent Try.func26 rfl (by kernel_rfl)) Try.ntmps26 rfl (by kernel_rfl) (Nat.le_of_ble_eq_true rfl) ?_
  conv => whnf
  refine ⟨.int .u64 a, ?_, rfl, rfl⟩
  conv => whnf
  intro ρ
  rfl
theorem clearq_ok (l : Ln) : Spec Try.prog 27 [.agg (lnC l)] [] 0 fun v _ _ => ∀ ρ, v.val ρ = (SV.bool true).val ρ := by
  refine Spec.of_body tabOk Try.func27 rfl (ent Try.func27 rfl (by kernel_rfl)) Try.ntmps27 rfl (by kernel_rfl) (Nat.le_of_ble_eq_true rfl) ?_
  conv => whnf
  intro ρ
  rfl

theorem dropPage_ok (a n : Int) (l : List Ln) (hl : l.length ≤ 2) : Spec Try.prog 22 [.ptr 0 0, .func 28 [.ptr 1 0, .ptr 2 0]] [(0, .cells (setC l)), (1, .view [.int .u64 a]), (2, .view [.int .u64 n])] 3 fun v H' _ => (∀ ρ, v.val ρ = (SV.tup []).val ρ) ∧ subH [(0, .cells (setC (l.filter fun x => !isP a n x)))] H' := by
  refine Spec.of_body tabOk Try.func22 rfl (ent Try.func22 rfl (by kernel_rfl)) Try.ntmps22 rfl (by kernel_rfl) (Nat.le_of_ble_eq_true rfl) ?_
  rcases le2 hl with rfl | ⟨x, rfl⟩ | ⟨x, y, rfl⟩
  · conv => whnf
    refine CodeL.loop tabOk (fun s : Nat × List Ln => ([(0, .ptr 0 0), (1, .func 28 [.ptr 1 0, .ptr 2 0]), (4, .int .i64 ((s.1 : Int) - 1))], (0, .cells (setC s.2)) :: [(1, .view [.int .u64 a]), (2, .view [.int .u64 n])])) (fun s => s.1) (fun s => s.1 ≤ 0 ∧ s.2 = []) rfl (fun s => ⟨rfl, wfH_set rfl rfl⟩) (0, []) ⟨by decide, rfl⟩ ⟨⟨rfl, rfl, rfl, trivial⟩, ⟨rfl, ⟨rfl, rfl, trivial⟩⟩⟩ ?_
    rintro ⟨k, l⟩ ⟨hk, rfl⟩
    have hk : k ≤ 0 := hk
    have : k = 0 := by omega
    subst this
    conv => whnf
    refine .f rfl ?_
    conv => whnf
    exact ⟨fun _ => rfl, rfl, trivial⟩
  · conv => whnf
    refine CodeL.loop tabOk (fun s : Nat × List Ln => ([(0, .ptr 0 0), (1, .func 28 [.ptr 1 0, .ptr 2 0]), (4, .int .i64 ((s.1 : Int) - 1))], (0, .cells (setC s.2)) :: [(1, .view [.int .u64 a]), (2, .view [.int .u64 n])])) (fun s => s.1) (fun s => s.1 ≤ 1 ∧ s.2 = [x].take s.1 ++ ([x].drop s.1).filter fun x => !isP a n x) rfl (fun s => ⟨rfl, wfH_set rfl rfl⟩) (1, [x]) ⟨Nat.le_refl _, rfl⟩ ⟨⟨rfl, rfl, rfl, trivial⟩, ⟨rfl, ⟨rfl, rfl, trivial⟩⟩⟩ ?_
    rintro ⟨k, l⟩ hs
    have hk : k ≤ 1 := hs.1
    have hs : l = [x].take k ++ ([x].drop k).filter fun x => !isP a n x := hs.2
    subst hs
    have : k = 0 ∨ k = 1 := by omega
    rcases this with rfl | rfl
    · conv => whnf
      refine .f rfl ?_
      conv => whnf
      exact ⟨fun _ => rfl, rfl, trivial⟩
    · conv => whnf
      refine .t rfl ?_
      conv => whnf
      refine .here 0 rfl (by decide) ?_
      conv => whnf
      refine Spec.fn (Fun.read (pageq_ok a n x) rfl) [1, 2] rfl rfl (fun _ => rfl) rfl ⟨⟨by decide, rfl, rfl, _, rfl, fun _ => rfl, Nat.le_refl _, fun _ => Nat.le_refl _, id⟩, ⟨by decide, rfl, rfl, _, rfl, fun _ => rfl, Nat.le_refl _, fun _ => Nat.le_refl _, id⟩, trivial⟩ (fun _ _ => ⟨rfl, rfl, rfl, rfl, trivial⟩) (fun _ _ => ?_)
      conv => whnf
      refine ⟨fun (hp : isP a n x = true) => ?_, fun (hp : isP a n x = false) => ?_⟩
      · conv => whnf
        refine Spec.frame (fun i => (i, 0)) (H1 := [(0, .cells (setC ([])))]) (H2 := (0, .cells (setC ([]))) :: [(1, .view [.int .u64 a]), (2, .view [.int .u64 n])]) (take1_ok x) (fun _ => rfl) rfl (Part.lists ⟨⟨by decide, rfl, _, Lies.whole rfl (fun _ => rfl) (Nat.le_refl _) (fun _ => Nat.le_refl _) id⟩, trivial⟩ (fun i j _ _ h => h)) rfl (keptL_out ⟨Kept.set (lek rfl) (lek rfl) rfl rfl rfl rfl, ⟨.far rfl (farL_out ⟨fun _ => by decide, trivial⟩), .far rfl (farL_out ⟨fun _ => by decide, trivial⟩), trivial⟩⟩) rfl ?_
        conv => whnf
        refine ⟨(0, []), ⟨lek rfl, by simp [hp]⟩, ltk rfl, ⟨rfl, rfl, rfl, trivial⟩, ⟨rfl, ⟨rfl, rfl, trivial⟩⟩⟩
      · conv => whnf
        refine ⟨(0, [x]), ⟨lek rfl, by simp [hp]⟩, ltk rfl, ⟨rfl, rfl, rfl, trivial⟩, ⟨rfl, ⟨rfl, rfl, trivial⟩⟩⟩
  · conv => whnf
    refine CodeL.loop tabOk (fun s : Nat × List Ln => ([(0, .ptr 0 0), (1, .func 28 [.ptr 1 0, .ptr 2 0]), (4, .int .i64 ((s.1 : Int) - 1))], (0, .cells (setC s.2)) :: [(1, .view [.int .u64 a]), (2, .view [.int .u64 n])])) (fun s => s.1) (fun s => s.1 ≤ 2 ∧ s.2 = [x, y].take s.1 ++ ([x, y].drop s.1).filter fun x => !isP a n x) rfl (fun s => ⟨rfl, wfH_set rfl rfl⟩) (2, [x, y]) ⟨Nat.le_refl _, rfl⟩ ⟨⟨rfl, rfl, rfl, trivial⟩, ⟨rfl, ⟨rfl, rfl, trivial⟩⟩⟩ ?_
    rintro ⟨k, l⟩ hs
    have hk : k ≤ 2 := hs.1
    have hs : l = [x, y].take k ++ ([x, y].drop k).filter fun x => !isP a n x := hs.2
    subst hs
    have : k = 0 ∨ k = 1 ∨ k = 2 := by omega
    rcases this with rfl | rfl | rfl
    · conv => whnf
      refine .f rfl ?_
      conv => whnf
      exact ⟨fun _ => rfl, rfl, trivial⟩
    · cases hy : isP a n y
      · have e : [x, y].take 1 ++ ([x, y].drop 1).filter (fun x => !isP a n x) = [x, y] := by simp [hy]
        rw [e]
        conv => whnf
        refine .t rfl ?_
        conv => whnf
        refine .here 0 rfl (by decide) ?_
        conv => whnf
        refine Spec.fn (Fun.read (pageq_ok a n x) rfl) [1, 2] rfl rfl (fun _ => rfl) rfl ⟨⟨by decide, rfl, rfl, _, rfl, fun _ => rfl, Nat.le_refl _, fun _ => Nat.le_refl _, id⟩, ⟨by decide, rfl, rfl, _, rfl, fun _ => rfl, Nat.le_refl _, fun _ => Nat.le_refl _, id⟩, trivial⟩ (fun _ _ => ⟨rfl, rfl, rfl, rfl, trivial⟩) (fun _ _ => ?_)
        conv => whnf
        refine ⟨fun (hp : isP a n x = true) => ?_, fun (hp : isP a n x = false) => ?_⟩
        · conv => whnf
          refine Spec.frame (fun i => (i, 0)) (H1 := [(0, .cells (setC ([y])))]) (H2 := (0, .cells (setC ([y]))) :: [(1, .view [.int .u64 a]), (2, .view [.int .u64 n])]) (take20_ok x y) (fun _ => rfl) rfl (Part.lists ⟨⟨by decide, rfl, _, Lies.whole rfl (fun _ => rfl) (Nat.le_refl _) (fun _ => Nat.le_refl _) id⟩, trivial⟩ (fun i j _ _ h => h)) rfl (keptL_out ⟨Kept.set (lek rfl) (lek rfl) rfl rfl rfl rfl, ⟨.far rfl (farL_out ⟨fun _ => by decide, trivial⟩), .far rfl (farL_out ⟨fun _ => by decide, trivial⟩), trivial⟩⟩) rfl ?_
          conv => whnf
          refine ⟨(0, [y]), ⟨lek rfl, by simp [hp, hy]⟩, ltk rfl, ⟨rfl, rfl, rfl, trivial⟩, ⟨rfl, ⟨rfl, rfl, trivial⟩⟩⟩
        · conv => whnf
          refine ⟨(0, [x, y]), ⟨lek rfl, by simp [hp, hy]⟩, ltk rfl, ⟨rfl, rfl, rfl, trivial⟩, ⟨rfl, ⟨rfl, rfl, trivial⟩⟩⟩
      · have e : [x, y].take 1 ++ ([x, y].drop 1).filter (fun x => !isP a n x) = [x] := by simp [hy]
        rw [e]
        conv => whnf
        refine .t rfl ?_
        conv => whnf
        refine .here 0 rfl (by decide) ?_
        conv => whnf
        refine Spec.fn (Fun.read (pageq_ok a n x) rfl) [1, 2] rfl rfl (fun _ => rfl) rfl ⟨⟨by decide, rfl, rfl, _, rfl, fun _ => rfl, Nat.le_refl _, fun _ => Nat.le_refl _, id⟩, ⟨by decide, rfl, rfl, _, rfl, fun _ => rfl, Nat.le_refl _, fun _ => Nat.le_refl _, id⟩, trivial⟩ (fun _ _ => ⟨rfl, rfl, rfl, rfl, trivial⟩) (fun _ _ => ?_)
        conv => whnf
        refine ⟨fun (hp : isP a n x = true) => ?_, fun (hp : isP a n x = false) => ?_⟩
        · conv => whnf
          refine Spec.frame (fun i => (i, 0)) (H1 := [(0, .cells (setC ([])))]) (H2 := (0, .cells (setC ([]))) :: [(1, .view [.int .u64 a]), (2, .view [.int .u64 n])]) (take1_ok x) (fun _ => rfl) rfl (Part.lists ⟨⟨by decide, rfl, _, Lies.whole rfl (fun _ => rfl) (Nat.le_refl _) (fun _ => Nat.le_refl _) id⟩, trivial⟩ (fun i j _ _ h => h)) rfl (keptL_out ⟨Kept.set (lek rfl) (lek rfl) rfl rfl rfl rfl, ⟨.far rfl (farL_out ⟨fun _ => by decide, trivial⟩), .far rfl (farL_out ⟨fun _ => by decide, trivial⟩), trivial⟩⟩) rfl ?_
          conv => whnf
          refine ⟨(0, []), ⟨lek rfl, by simp [hp, hy]⟩, ltk rfl, ⟨rfl, rfl, rfl, trivial⟩, ⟨rfl, ⟨rfl, rfl, trivial⟩⟩⟩
        · conv => whnf
          refine ⟨(0, [x]), ⟨lek rfl, by simp [hp, hy]⟩, ltk rfl, ⟨rfl, rfl, rfl, trivial⟩, ⟨rfl, ⟨rfl, rfl, trivial⟩⟩⟩
    · conv => whnf
      refine .t rfl ?_
      conv => whnf
      refine .here 1 rfl (by decide) ?_
      conv => whnf
      refine Spec.fn (Fun.read (pageq_ok a n y) rfl) [1, 2] rfl rfl (fun _ => rfl) rfl ⟨⟨by decide, rfl, rfl, _, rfl, fun _ => rfl, Nat.le_refl _, fun _ => Nat.le_refl _, id⟩, ⟨by decide, rfl, rfl, _, rfl, fun _ => rfl, Nat.le_refl _, fun _ => Nat.le_refl _, id⟩, trivial⟩ (fun _ _ => ⟨rfl, rfl, rfl, rfl, trivial⟩) (fun _ _ => ?_)
      conv => whnf
      refine ⟨fun (hp : isP a n y = true) => ?_, fun (hp : isP a n y = false) => ?_⟩
      · conv => whnf
        refine Spec.frame (fun i => (i, 0)) (H1 := [(0, .cells (setC ([x])))]) (H2 := (0, .cells (setC ([x]))) :: [(1, .view [.int .u64 a]), (2, .view [.int .u64 n])]) (take21_ok x y) (fun _ => rfl) rfl (Part.lists ⟨⟨by decide, rfl, _, Lies.whole rfl (fun _ => rfl) (Nat.le_refl _) (fun _ => Nat.le_refl _) id⟩, trivial⟩ (fun i j _ _ h => h)) rfl (keptL_out ⟨Kept.set (lek rfl) (lek rfl) rfl rfl rfl rfl, ⟨.far rfl (farL_out ⟨fun _ => by decide, trivial⟩), .far rfl (farL_out ⟨fun _ => by decide, trivial⟩), trivial⟩⟩) rfl ?_
        conv => whnf
        refine ⟨(1, [x]), ⟨lek rfl, by simp [hp]⟩, ltk rfl, ⟨rfl, rfl, rfl, trivial⟩, ⟨rfl, ⟨rfl, rfl, trivial⟩⟩⟩
      · conv => whnf
        refine ⟨(1, [x, y]), ⟨lek rfl, by simp [hp]⟩, ltk rfl, ⟨rfl, rfl, rfl, trivial⟩, ⟨rfl, ⟨rfl, rfl, trivial⟩⟩⟩
theorem dropFlush_ok (a : Int) (l : List Ln) (hl : l.length ≤ 2) : Spec Try.prog 22 [.ptr 0 0, .func 26 [.ptr 1 0]] [(0, .cells (setC l)), (1, .view [.int .u64 a])] 2 fun v H' _ => (∀ ρ, v.val ρ = (SV.tup []).val ρ) ∧ subH [(0, .cells (setC (l.filter fun x => !isA a x)))] H' := by
  refine Spec.of_body tabOk Try.func22 rfl (ent Try.func22 rfl (by kernel_rfl)) Try.ntmps22 rfl (by kernel_rfl) (Nat.le_of_ble_eq_true rfl) ?_
  rcases le2 hl with rfl | ⟨x, rfl⟩ | ⟨x, y, rfl⟩
  · conv => whnf
    refine CodeL.loop tabOk (fun s : Nat × List Ln => ([(0, .ptr 0 0), (1, .func 26 [.ptr 1 0]), (4, .int .i64 ((s.1 : Int) - 1))], (0, .cells (setC s.2)) :: [(1, .view [.int .u64 a])])) (fun s => s.1) (fun s => s.1 ≤ 0 ∧ s.2 = []) rfl (fun s => ⟨rfl, wfH_set rfl rfl⟩) (0, []) ⟨by decide, rfl⟩ ⟨⟨rfl, rfl, rfl, trivial⟩, ⟨rfl, ⟨rfl, trivial⟩⟩⟩ ?_
    rintro ⟨k, l⟩ ⟨hk, rfl⟩
    have hk : k ≤ 0 := hk
    have : k = 0 := by omega
    subst this
    conv => whnf
    refine .f rfl ?_
    conv => whnf
    exact ⟨fun _ => rfl, rfl, trivial⟩
  · conv => whnf
    refine CodeL.loop tabOk (fun s : Nat × List Ln => ([(0, .ptr 0 0), (1, .func 26 [.ptr 1 0]), (4, .int .i64 ((s.1 : Int) - 1))], (0, .cells (setC s.2)) :: [(1, .view [.int .u64 a])])) (fun s => s.1) (fun s => s.1 ≤ 1 ∧ s.2 = [x].take s.1 ++ ([x].drop s.1).filter fun x => !isA a x) rfl (fun s => ⟨rfl, wfH_set rfl rfl⟩) (1, [x]) ⟨Nat.le_refl _, rfl⟩ ⟨⟨rfl, rfl, rfl, trivial⟩, ⟨rfl, ⟨rfl, trivial⟩⟩⟩ ?_
    rintro ⟨k, l⟩ hs
    have hk : k ≤ 1 := hs.1
    have hs : l = [x].take k ++ ([x].drop k).filter fun x => !isA a x := hs.2
    subst hs
    have : k = 0 ∨ k = 1 := by omega
    rcases this with rfl | rfl
    · conv => whnf
      refine .f rfl ?_
      conv => whnf
      exact ⟨fun _ => rfl, rfl, trivial⟩
    · conv => whnf
      refine .t rfl ?_
      conv => whnf
      refine .here 0 rfl (by decide) ?_
      conv => whnf
      refine Spec.fn (Fun.read (flushq_ok a x) rfl) [1] rfl rfl (fun _ => rfl) rfl ⟨⟨by decide, rfl, rfl, _, rfl, fun _ => rfl, Nat.le_refl _, fun _ => Nat.le_refl _, id⟩, trivial⟩ (fun _ _ => ⟨rfl, rfl, rfl, trivial⟩) (fun _ _ => ?_)
      conv => whnf
      refine ⟨fun (hp : isA a x = true) => ?_, fun (hp : isA a x = false) => ?_⟩
      · conv => whnf
        refine Spec.frame (fun i => (i, 0)) (H1 := [(0, .cells (setC ([])))]) (H2 := (0, .cells (setC ([]))) :: [(1, .view [.int .u64 a])]) (take1_ok x) (fun _ => rfl) rfl (Part.lists ⟨⟨by decide, rfl, _, Lies.whole rfl (fun _ => rfl) (Nat.le_refl _) (fun _ => Nat.le_refl _) id⟩, trivial⟩ (fun i j _ _ h => h)) rfl (keptL_out ⟨Kept.set (lek rfl) (lek rfl) rfl rfl rfl rfl, ⟨.far rfl (farL_out ⟨fun _ => by decide, trivial⟩), trivial⟩⟩) rfl ?_
        conv => whnf
        refine ⟨(0, []), ⟨lek rfl, by simp [hp]⟩, ltk rfl, ⟨rfl, rfl, rfl, trivial⟩, ⟨rfl, ⟨rfl, trivial⟩⟩⟩
      · conv => whnf
        refine ⟨(0, [x]), ⟨lek rfl, by simp [hp]⟩, ltk rfl, ⟨rfl, rfl, rfl, trivial⟩, ⟨rfl, ⟨rfl, trivial⟩⟩⟩
  · conv => whnf
    refine CodeL.loop tabOk (fun s : Nat × List Ln => ([(0, .ptr 0 0), (1, .func 26 [.ptr 1 0]), (4, .int .i64 ((s.1 : Int) - 1))], (0, .cells (setC s.2)) :: [(1, .view [.int .u64 a])])) (fun s => s.1) (fun s => s.1 ≤ 2 ∧ s.2 = [x, y].take s.1 ++ ([x, y].drop s.1).filter fun x => !isA a x) rfl (fun s => ⟨rfl, wfH_set rfl rfl⟩) (2, [x, y]) ⟨Nat.le_refl _, rfl⟩ ⟨⟨rfl, rfl, rfl, trivial⟩, ⟨rfl, ⟨rfl, trivial⟩⟩⟩ ?_
    rintro ⟨k, l⟩ hs
    have hk : k ≤ 2 := hs.1
    have hs : l = [x, y].take k ++ ([x, y].drop k).filter fun x => !isA a x := hs.2
    subst hs
    have : k = 0 ∨ k = 1 ∨ k = 2 := by omega
    rcases this with rfl | rfl | rfl
    · conv => whnf
      refine .f rfl ?_
      conv => whnf
      exact ⟨fun _ => rfl, rfl, trivial⟩
    · cases hy : isA a y
      · have e : [x, y].take 1 ++ ([x, y].drop 1).filter (fun x => !isA a x) = [x, y] := by simp [hy]
        rw [e]
        conv => whnf
        refine .t rfl ?_
        conv => whnf
        refine .here 0 rfl (by decide) ?_
        conv => whnf
        refine Spec.fn (Fun.read (flushq_ok a x) rfl) [1] rfl rfl (fun _ => rfl) rfl ⟨⟨by decide, rfl, rfl, _, rfl, fun _ => rfl, Nat.le_refl _, fun _ => Nat.le_refl _, id⟩, trivial⟩ (fun _ _ => ⟨rfl, rfl, rfl, trivial⟩) (fun _ _ => ?_)
        conv => whnf
        refine ⟨fun (hp : isA a x = true) => ?_, fun (hp : isA a x = false) => ?_⟩
        · conv => whnf
          refine Spec.frame (fun i => (i, 0)) (H1 := [(0, .cells (setC ([y])))]) (H2 := (0, .cells (setC ([y]))) :: [(1, .view [.int .u64 a])]) (take20_ok x y) (fun _ => rfl) rfl (Part.lists ⟨⟨by decide, rfl, _, Lies.whole rfl (fun _ => rfl) (Nat.le_refl _) (fun _ => Nat.le_refl _) id⟩, trivial⟩ (fun i j _ _ h => h)) rfl (keptL_out ⟨Kept.set (lek rfl) (lek rfl) rfl rfl rfl rfl, ⟨.far rfl (farL_out ⟨fun _ => by decide, trivial⟩), trivial⟩⟩) rfl ?_
          conv => whnf
          refine ⟨(0, [y]), ⟨lek rfl, by simp [hp, hy]⟩, ltk rfl, ⟨rfl, rfl, rfl, trivial⟩, ⟨rfl, ⟨rfl, trivial⟩⟩⟩
        · conv => whnf
          refine ⟨(0, [x, y]), ⟨lek rfl, by simp [hp, hy]⟩, ltk rfl, ⟨rfl, rfl, rfl, trivial⟩, ⟨rfl, ⟨rfl, trivial⟩⟩⟩
      · have e : [x, y].take 1 ++ ([x, y].drop 1).filter (fun x => !isA a x) = [x] := by simp [hy]
        rw [e]
        conv => whnf
        refine .t rfl ?_
        conv => whnf
        refine .here 0 rfl (by decide) ?_
        conv => whnf
        refine Spec.fn (Fun.read (flushq_ok a x) rfl) [1] rfl rfl (fun _ => rfl) rfl ⟨⟨by decide, rfl, rfl, _, rfl, fun _ => rfl, Nat.le_refl _, fun _ => Nat.le_refl _, id⟩, trivial⟩ (fun _ _ => ⟨rfl, rfl, rfl, trivial⟩) (fun _ _ => ?_)
        conv => whnf
        refine ⟨fun (hp : isA a x = true) => ?_, fun (hp : isA a x = false) => ?_⟩
        · conv => whnf
          refine Spec.frame (fun i => (i, 0)) (H1 := [(0, .cells (setC ([])))]) (H2 := (0, .cells (setC ([]))) :: [(1, .view [.int .u64 a])]) (take1_ok x) (fun _ => rfl) rfl (Part.lists ⟨⟨by decide, rfl, _, Lies.whole rfl (fun _ => rfl) (Nat.le_refl _) (fun _ => Nat.le_refl _) id⟩, trivial⟩ (fun i j _ _ h => h)) rfl (keptL_out ⟨Kept.set (lek rfl) (lek rfl) rfl rfl rfl rfl, ⟨.far rfl (farL_out ⟨fun _ => by decide, trivial⟩), trivial⟩⟩) rfl ?_
          conv => whnf
          refine ⟨(0, []), ⟨lek rfl, by simp [hp, hy]⟩, ltk rfl, ⟨rfl, rfl, rfl, trivial⟩, ⟨rfl, ⟨rfl, trivial⟩⟩⟩
        · conv => whnf
          refine ⟨(0, [x]), ⟨lek rfl, by simp [hp, hy]⟩, ltk rfl, ⟨rfl, rfl, rfl, trivial⟩, ⟨rfl, ⟨rfl, trivial⟩⟩⟩
    · conv => whnf
      refine .t rfl ?_
      conv => whnf
      refine .here 1 rfl (by decide) ?_
      conv => whnf
      refine Spec.fn (Fun.read (flushq_ok a y) rfl) [1] rfl rfl (fun _ => rfl) rfl ⟨⟨by decide, rfl, rfl, _, rfl, fun _ => rfl, Nat.le_refl _, fun _ => Nat.le_refl _, id⟩, trivial⟩ (fun _ _ => ⟨rfl, rfl, rfl, trivial⟩) (fun _ _ => ?_)
      conv => whnf
      refine ⟨fun (hp : isA a y = true) => ?_, fun (hp : isA a y = false) => ?_⟩
      · conv => whnf
        refine Spec.frame (fun i => (i, 0)) (H1 := [(0, .cells (setC ([x])))]) (H2 := (0, .cells (setC ([x]))) :: [(1, .view [.int .u64 a])]) (take21_ok x y) (fun _ => rfl) rfl (Part.lists ⟨⟨by decide, rfl, _, Lies.whole rfl (fun _ => rfl) (Nat.le_refl _) (fun _ => Nat.le_refl _) id⟩, trivial⟩ (fun i j _ _ h => h)) rfl (keptL_out ⟨Kept.set (lek rfl) (lek rfl) rfl rfl rfl rfl, ⟨.far rfl (farL_out ⟨fun _ => by decide, trivial⟩), trivial⟩⟩) rfl ?_
        conv => whnf
        refine ⟨(1, [x]), ⟨lek rfl, by simp [hp]⟩, ltk rfl, ⟨rfl, rfl, rfl, trivial⟩, ⟨rfl, ⟨rfl, trivial⟩⟩⟩
      · conv => whnf
        refine ⟨(1, [x, y]), ⟨lek rfl, by simp [hp]⟩, ltk rfl, ⟨rfl, rfl, rfl, trivial⟩, ⟨rfl, ⟨rfl, trivial⟩⟩⟩
theorem dropClear_ok (l : List Ln) (hl : l.length ≤ 2) : Spec Try.prog 22 [.ptr 0 0, .func 27 []] [(0, .cells (setC l))] 1 fun v H' _ => (∀ ρ, v.val ρ = (SV.tup []).val ρ) ∧ subH [(0, .cells (setC (l.filter fun x => !isT x)))] H' := by
  refine Spec.of_body tabOk Try.func22 rfl (ent Try.func22 rfl (by kernel_rfl)) Try.ntmps22 rfl (by kernel_rfl) (Nat.le_of_ble_eq_true rfl) ?_
  rcases le2 hl with rfl | ⟨x, rfl⟩ | ⟨x, y, rfl⟩
  · conv => whnf
    refine CodeL.loop tabOk (fun s : Nat × List Ln => ([(0, .ptr 0 0), (1, .func 27 []), (4, .int .i64 ((s.1 : Int) - 1))], (0, .cells (setC s.2)) :: [])) (fun s => s.1) (fun s => s.1 ≤ 0 ∧ s.2 = []) rfl (fun s => ⟨rfl, wfH_set rfl rfl⟩) (0, []) ⟨by decide, rfl⟩ ⟨⟨rfl, rfl, rfl, trivial⟩, ⟨rfl, trivial⟩⟩ ?_
    rintro ⟨k, l⟩ ⟨hk, rfl⟩
    have hk : k ≤ 0 := hk
    have : k = 0 := by omega
    subst this
    conv => whnf
    refine .f rfl ?_
    conv => whnf
    exact ⟨fun _ => rfl, rfl, trivial⟩
  · conv => whnf
    refine CodeL.loop tabOk (fun s : Nat × List Ln => ([(0, .ptr 0 0), (1, .func 27 []), (4, .int .i64 ((s.1 : Int) - 1))], (0, .cells (setC s.2)) :: [])) (fun s => s.1) (fun s => s.1 ≤ 1 ∧ s.2 = [x].take s.1 ++ ([x].drop s.1).filter fun x => !isT x) rfl (fun s => ⟨rfl, wfH_set rfl rfl⟩) (1, [x]) ⟨Nat.le_refl _, rfl⟩ ⟨⟨rfl, rfl, rfl, trivial⟩, ⟨rfl, trivial⟩⟩ ?_
    rintro ⟨k, l⟩ hs
    have hk : k ≤ 1 := hs.1
    have hs : l = [x].take k ++ ([x].drop k).filter fun x => !isT x := hs.2
    subst hs
    have : k = 0 ∨ k = 1 := by omega
    rcases this with rfl | rfl
    · conv => whnf
      refine .f rfl ?_
      conv => whnf
      exact ⟨fun _ => rfl, rfl, trivial⟩
    · conv => whnf
      refine .t rfl ?_
      conv => whnf
      refine .here 0 rfl (by decide) ?_
      conv => whnf
      refine Spec.fn (Fun.read (clearq_ok x) rfl) [] rfl rfl (fun _ => rfl) rfl trivial (fun _ _ => ⟨rfl, rfl, trivial⟩) (fun _ _ => ?_)
      conv => whnf
      refine ⟨fun (hp : isT x = true) => ?_, fun (hp : isT x = false) => ?_⟩
      · conv => whnf
        refine Spec.frame (fun i => (i, 0)) (H1 := [(0, .cells (setC ([])))]) (H2 := (0, .cells (setC ([]))) :: []) (take1_ok x) (fun _ => rfl) rfl (Part.lists ⟨⟨by decide, rfl, _, Lies.whole rfl (fun _ => rfl) (Nat.le_refl _) (fun _ => Nat.le_refl _) id⟩, trivial⟩ (fun i j _ _ h => h)) rfl (keptL_out ⟨Kept.set (lek rfl) (lek rfl) rfl rfl rfl rfl, trivial⟩) rfl ?_
        conv => whnf
        refine ⟨(0, []), ⟨lek rfl, by simp [hp]⟩, ltk rfl, ⟨rfl, rfl, rfl, trivial⟩, ⟨rfl, trivial⟩⟩
      · conv => whnf
        refine ⟨(0, [x]), ⟨lek rfl, by simp [hp]⟩, ltk rfl, ⟨rfl, rfl, rfl, trivial⟩, ⟨rfl, trivial⟩⟩
  · conv => whnf
    refine CodeL.loop tabOk (fun s : Nat × List Ln => ([(0, .ptr 0 0), (1, .func 27 []), (4, .int .i64 ((s.1 : Int) - 1))], (0, .cells (setC s.2)) :: [])) (fun s => s.1) (fun s => s.1 ≤ 2 ∧ s.2 = [x, y].take s.1 ++ ([x, y].drop s.1).filter fun x => !isT x) rfl (fun s => ⟨rfl, wfH_set rfl rfl⟩) (2, [x, y]) ⟨Nat.le_refl _, rfl⟩ ⟨⟨rfl, rfl, rfl, trivial⟩, ⟨rfl, trivial⟩⟩ ?_
    rintro ⟨k, l⟩ hs
    have hk : k ≤ 2 := hs.1
    have hs : l = [x, y].take k ++ ([x, y].drop k).filter fun x => !isT x := hs.2
    subst hs
    have : k = 0 ∨ k = 1 ∨ k = 2 := by omega
    rcases this with rfl | rfl | rfl
    · conv => whnf
      refine .f rfl ?_
      conv => whnf
      exact ⟨fun _ => rfl, rfl, trivial⟩
    · cases hy : isT y
      · have e : [x, y].take 1 ++ ([x, y].drop 1).filter (fun x => !isT x) = [x, y] := by simp [hy]
        rw [e]
        conv => whnf
        refine .t rfl ?_
        conv => whnf
        refine .here 0 rfl (by decide) ?_
        conv => whnf
        refine Spec.fn (Fun.read (clearq_ok x) rfl) [] rfl rfl (fun _ => rfl) rfl trivial (fun _ _ => ⟨rfl, rfl, trivial⟩) (fun _ _ => ?_)
        conv => whnf
        refine ⟨fun (hp : isT x = true) => ?_, fun (hp : isT x = false) => ?_⟩
        · conv => whnf
          refine Spec.frame (fun i => (i, 0)) (H1 := [(0, .cells (setC ([y])))]) (H2 := (0, .cells (setC ([y]))) :: []) (take20_ok x y) (fun _ => rfl) rfl (Part.lists ⟨⟨by decide, rfl, _, Lies.whole rfl (fun _ => rfl) (Nat.le_refl _) (fun _ => Nat.le_refl _) id⟩, trivial⟩ (fun i j _ _ h => h)) rfl (keptL_out ⟨Kept.set (lek rfl) (lek rfl) rfl rfl rfl rfl, trivial⟩) rfl ?_
          conv => whnf
          refine ⟨(0, [y]), ⟨lek rfl, by simp [hp, hy]⟩, ltk rfl, ⟨rfl, rfl, rfl, trivial⟩, ⟨rfl, trivial⟩⟩
        · conv => whnf
          refine ⟨(0, [x, y]), ⟨lek rfl, by simp [hp, hy]⟩, ltk rfl, ⟨rfl, rfl, rfl, trivial⟩, ⟨rfl, trivial⟩⟩
      · have e : [x, y].take 1 ++ ([x, y].drop 1).filter (fun x => !isT x) = [x] := by simp [hy]
        rw [e]
        conv => whnf
        refine .t rfl ?_
        conv => whnf
        refine .here 0 rfl (by decide) ?_
        conv => whnf
        refine Spec.fn (Fun.read (clearq_ok x) rfl) [] rfl rfl (fun _ => rfl) rfl trivial (fun _ _ => ⟨rfl, rfl, trivial⟩) (fun _ _ => ?_)
        conv => whnf
        refine ⟨fun (hp : isT x = true) => ?_, fun (hp : isT x = false) => ?_⟩
        · conv => whnf
          refine Spec.frame (fun i => (i, 0)) (H1 := [(0, .cells (setC ([])))]) (H2 := (0, .cells (setC ([]))) :: []) (take1_ok x) (fun _ => rfl) rfl (Part.lists ⟨⟨by decide, rfl, _, Lies.whole rfl (fun _ => rfl) (Nat.le_refl _) (fun _ => Nat.le_refl _) id⟩, trivial⟩ (fun i j _ _ h => h)) rfl (keptL_out ⟨Kept.set (lek rfl) (lek rfl) rfl rfl rfl rfl, trivial⟩) rfl ?_
          conv => whnf
          refine ⟨(0, []), ⟨lek rfl, by simp [hp, hy]⟩, ltk rfl, ⟨rfl, rfl, rfl, trivial⟩, ⟨rfl, trivial⟩⟩
        · conv => whnf
          refine ⟨(0, [x]), ⟨lek rfl, by simp [hp, hy]⟩, ltk rfl, ⟨rfl, rfl, rfl, trivial⟩, ⟨rfl, trivial⟩⟩
    · conv => whnf
      refine .t rfl ?_
      conv => whnf
      refine .here 1 rfl (by decide) ?_
      conv => whnf
      refine Spec.fn (Fun.read (clearq_ok y) rfl) [] rfl rfl (fun _ => rfl) rfl trivial (fun _ _ => ⟨rfl, rfl, trivial⟩) (fun _ _ => ?_)
      conv => whnf
      refine ⟨fun (hp : isT y = true) => ?_, fun (hp : isT y = false) => ?_⟩
      · conv => whnf
        refine Spec.frame (fun i => (i, 0)) (H1 := [(0, .cells (setC ([x])))]) (H2 := (0, .cells (setC ([x]))) :: []) (take21_ok x y) (fun _ => rfl) rfl (Part.lists ⟨⟨by decide, rfl, _, Lies.whole rfl (fun _ => rfl) (Nat.le_refl _) (fun _ => Nat.le_refl _) id⟩, trivial⟩ (fun i j _ _ h => h)) rfl (keptL_out ⟨Kept.set (lek rfl) (lek rfl) rfl rfl rfl rfl, trivial⟩) rfl ?_
        conv => whnf
        refine ⟨(1, [x]), ⟨lek rfl, by simp [hp]⟩, ltk rfl, ⟨rfl, rfl, rfl, trivial⟩, ⟨rfl, trivial⟩⟩
      · conv => whnf
        refine ⟨(1, [x, y]), ⟨lek rfl, by simp [hp]⟩, ltk rfl, ⟨rfl, rfl, rfl, trivial⟩, ⟨rfl, trivial⟩⟩
end Go.Sh.Ytmfpndffepjcpaa
