import Derived.Test.YtmfpndffepjcpaaC11j
import Derived.Test.YtmfpndffepjcpaaTlb5
set_option linter.unusedVariables false
namespace Go.Sh.Ytmfpndffepjcpaa
open Go.Proofs Go.Sh Go.RowKit

theorem wrap_u64' (x : Int) (h0 : 0 ≤ x) (h1 : x < 18446744073709551616) : IntKind.wrap .u64 x = x := by
  simp [IntKind.wrap, IntKind.bits, IntKind.signed]; omega
theorem u64_succ (a : Int) (h0 : 0 ≤ a) (h1 : a < 18446744073709551616) : 0 ≤ IntKind.wrap .u64 (a + 1) ∧ q4 (IntKind.wrap .u64 (a + 1)) ≠ q4 a := by
  have : IntKind.wrap .u64 (a + 1) = (a + 1) % 18446744073709551616 := by simp [IntKind.wrap, IntKind.bits, IntKind.signed]
  rw [this]
  unfold q4
  omega

theorem sets_ok (A : List Act) (b0 : Bool) (c0 : Nat) (num : Int) (hA : A.length ≤ 9223372036854775807) (hg : ∀ a ∈ A, a.good) (hn : 0 ≤ num) (hn2 : num < 18446744073709551616) : Spec Try.prog 3 [.slz b0 0 0 A.length c0, .int .u64 num] [(0, .view (actsV A))] 1 fun v _ _ => ∀ ρ, v.val ρ = SV.tt.val ρ := by
  have hfirst : putS (fun _ => []) ⟨77, num, ent0, 0⟩ (q4 num) = [⟨77, num, ent0, 0⟩] := fset_same _ _ _
  have hsf := Inv.nil.put ⟨77, num, ent0, 0⟩ hn
  have hlf := putS_len Inv.nil ⟨77, num, ent0, 0⟩ hn []
  have hput := put_ok (fun _ => []) [] Inv.nil.len ⟨77, num, ent0, 0⟩ hn
  generalize putS (fun _ => []) ⟨77, num, ent0, 0⟩ = s0 at hfirst hsf hlf hput
  refine Spec.of_body tabOk Try.func3 rfl (ent Try.func3 rfl (by kernel_rfl)) Try.ntmps3 rfl (by kernel_rfl) (Nat.le_of_ble_eq_true rfl) ?_
  conv => whnf
  refine Spec.row (t := 1) hput rfl (fun _ => rfl) rfl rfl hlf rfl (fun _ => rfl) rfl ?_
  conv => whnf
  refine CodeL.loopN tabOk 2 (by decide) (fun x : Nat × (Nat → List Ln) => ([(0, .slz b0 0 0 A.length c0), (1, .int .u64 num), (5, .ptr 1 0), (6, .int .i64 (x.1 : Int))], [(0, .view (actsV A)), (1, .row (tlbC x.2 []))]))
    (fun x => A.length - x.1) (fun x => x.1 ≤ A.length ∧ Inv x.2 ∧ x.2 (q4 num) = [⟨77, num, ent0, 0⟩]) rfl (fun x => rfl) (0, s0) ⟨Nat.zero_le _, hsf, hfirst⟩ (fun i => (i, 0)) (fun _ _ => rfl)
    ⟨⟨⟨_, rfl, fun _ => rfl⟩, ⟨_, rfl, fun _ => rfl⟩, ⟨_, rfl, fun _ => rfl⟩, ⟨_, rfl, fun _ => rfl⟩, trivial⟩, Part.same ⟨⟨by decide, rfl, rfl, _, rfl, fun _ => rfl, Nat.le_refl _, fun _ => Nat.le_refl _, id⟩, ⟨by decide, rfl, rfl, _, rfl, fun _ => rfl, Nat.le_refl _, fun _ => Nat.le_refl _, id⟩, trivial⟩ (fun i j _ _ h => h)⟩ ?_
  rintro ⟨i, s⟩ ⟨hi, hs, h77⟩
  have hi : i ≤ A.length := hi
  have hs : Inv s := hs
  have h77 : s (q4 num) = [⟨77, num, ent0, 0⟩] := h77
  dsimp only
  have hlk := look_ok s [] hs.len 77 num hn
  have hf : (s (q4 num)).find? (isP 77 num) = some ⟨77, num, ent0, 0⟩ := by rw [h77]; simp [isP]
  rw [hf] at hlk
  conv => whnf
  refine ⟨fun h => ?_, fun h => ?_⟩
  · have h : i < A.length := by have := of_decide_eq_true h; omega
    obtain ⟨a, ha⟩ : ∃ a, A[i]? = some a := ⟨_, List.getElem?_eq_getElem h⟩
    obtain ⟨ga, gn, gn2, gw⟩ := hg a (List.mem_of_getElem? ha)
    conv => whnf
    refine ⟨fun h60 => ?_, fun h60 => ?_⟩
    · conv => whnf
      refine .there i rfl (by omega) ?_
      conv => whnf
      refine .atN (actC a) (i * 5) (by show 0 + i * 5 = _; omega) (by show _ + 5 ≤ (actsV A).length; rw [actsV_len]; omega) (actsV_get ha) rfl ?_
      conv => whnf
      refine ⟨fun hm => ?_, fun hm => ?_⟩
      · have hm : a.num.tmod 4 = num.tmod 4 := of_decide_eq_true hm
        rw [q4_eq gn, q4_eq hn] at hm
        obtain ⟨u0, u1⟩ := u64_succ a.num gn gn2
        conv => whnf
        refine .t (by rw [q4_eq u0, q4_eq hn]; simp; omega) ?_
        conv => whnf
        refine Spec.pure (line_ok (⟨a.kind, a.place, a.asid, IntKind.wrap .u64 (a.num + 1), a.what⟩)) rfl rfl (fun _ => rfl) ?_
        conv => whnf
        refine Spec.row (t := 1) (put_ok s [] hs.len (lnOf (⟨a.kind, a.place, a.asid, IntKind.wrap .u64 (a.num + 1), a.what⟩)) u0) rfl (fun _ => rfl) rfl rfl (putS_len hs (lnOf (⟨a.kind, a.place, a.asid, IntKind.wrap .u64 (a.num + 1), a.what⟩)) u0 []) rfl (fun _ => rfl) rfl ?_
        have hs2 := hs.put (lnOf (⟨a.kind, a.place, a.asid, IntKind.wrap .u64 (a.num + 1), a.what⟩)) u0
        have h77b : putS s (lnOf (⟨a.kind, a.place, a.asid, IntKind.wrap .u64 (a.num + 1), a.what⟩)) (q4 num) = [⟨77, num, ent0, 0⟩] := by rw [putS_other (lnOf (⟨a.kind, a.place, a.asid, IntKind.wrap .u64 (a.num + 1), a.what⟩)) (show q4 num ≠ q4 (IntKind.wrap .u64 (a.num + 1)) by omega)]; exact h77
        generalize putS s (lnOf (⟨a.kind, a.place, a.asid, IntKind.wrap .u64 (a.num + 1), a.what⟩)) = s2 at hs2 h77b ⊢
        have hp2 := preL_len hs2.len 4
        conv => whnf
        refine Spec.fn (lines_ok s2 [] hs2.len) [1] rfl rfl (fun _ => rfl) rfl ⟨⟨by decide, rfl, rfl, _, rfl, fun _ => rfl, Nat.le_refl _, fun _ => Nat.le_refl _, fun h => by cases h⟩, trivial⟩ (fun _ _ => ⟨rfl, rfl, rfl, trivial⟩) (fun y hy => ?_)
        conv => whnf
        refine CodeL.loopN tabOk 5 (by decide) (fun k : Nat => ([(0, .slz b0 0 0 A.length c0), (1, .int .u64 num), (5, .ptr 1 0), (6, .int .i64 (i : Int)), (8, .ptr 3 0), (9, .slz y.1 4 0 (preL s2 4).length y.2), (10, .int .i64 (k : Int))], [(0, .view (actsV A)), (1, .row (tlbC s2 [])), (3, .row (cntV (cq ((preL s2 4).take k)))), (4, .row (linesV (preL s2 4)))]))
          (fun k => (preL s2 4).length - k) (fun k => k ≤ (preL s2 4).length) rfl (fun k => rfl) 0 (Nat.zero_le _) (fun i => (i, 0)) (fun _ _ => rfl)
          ⟨⟨⟨_, rfl, fun _ => rfl⟩, ⟨_, rfl, fun _ => rfl⟩, ⟨_, rfl, fun _ => rfl⟩, ⟨_, rfl, fun _ => rfl⟩, ⟨_, rfl, fun _ => rfl⟩, ⟨_, rfl, fun _ => rfl⟩, ⟨_, rfl, fun _ => rfl⟩, trivial⟩, Part.same ⟨⟨by decide, rfl, rfl, _, rfl, fun _ => rfl, Nat.le_refl _, fun _ => Nat.le_refl _, id⟩, ⟨by decide, rfl, rfl, _, rfl, fun _ => rfl, Nat.le_refl _, fun _ => Nat.le_refl _, id⟩, ⟨by decide, rfl, rfl, _, rfl, fun _ => rfl, Nat.le_refl _, fun _ => Nat.le_refl _, id⟩, ⟨by decide, rfl, rfl, _, rfl, fun _ => rfl, Nat.le_refl _, fun _ => Nat.le_refl _, id⟩, trivial⟩ (fun i j _ _ h => h)⟩ ?_
        intro k hk
        conv => whnf
        refine ⟨fun g => ?_, fun g => ?_⟩
        · have g : k < (preL s2 4).length := by have := of_decide_eq_true g; omega
          obtain ⟨x, hx⟩ : ∃ x, (preL s2 4)[k]? = some x := ⟨_, List.getElem?_eq_getElem g⟩
          obtain ⟨qx, hqx, hxm⟩ := mem_preL.1 (List.mem_of_getElem? hx)
          have hx0 := (hs2.num qx x hxm).1
          have hcl : cq ((preL s2 4).take k) (q4 x.num) ≤ 8 := by
            refine Nat.le_trans (cq_le _ _) ?_
            rw [List.length_take]; omega
          conv => whnf
          refine .there k rfl g ?_
          conv => whnf
          refine .at1 (.int .u64 x.num) (k * 16 + 1) (by show 0 + k * 16 + 1 = _; omega) (linesV_cell hx (by decide)) rfl ?_
          conv => whnf
          refine .there (q4 x.num) (q4_eq hx0) (q4_lt _) ?_
          conv => whnf
          refine .at1 (.int .i64 (cq ((preL s2 4).take k) (q4 x.num) : Nat)) (q4 x.num) (by show 0 + q4 x.num * 1 = _; omega) (cntV_get _ (q4_lt _)) rfl ?_
          conv => whnf
          refine .there (q4 x.num) (q4_eq hx0) (q4_lt _) ?_
          conv => whnf
          refine .row (cntV (cq ((preL s2 4).take (k + 1)))) [.int .i64 ((cq ((preL s2 4).take k) (q4 x.num) : Nat) + 1 : Int)] (q4 x.num) (by show 0 + q4 x.num * 1 = _; omega) (fun ρ => ?_) rfl rfl rfl (by show q4 x.num + 1 ≤ 4; have := q4_lt x.num; omega) (by rw [cq_take hx]; exact cntV_set _ (q4_lt _)) ?_
          · show [Value.int .i64 (IntKind.wrap .i64 ((cq ((preL s2 4).take k) (q4 x.num) : Nat) + 1 : Int))] = [Value.int .i64 ((cq ((preL s2 4).take k) (q4 x.num) : Nat) + 1 : Int)]
            rw [wrap_i64' _ (by omega) (by omega)]
          conv => whnf
          refine CodeL.draw tabOk Try.checked.mixed 18 (by kernel_rfl) rfl ?_
          conv => whnf
          refine ⟨fun k0 => ?_, fun k0 => ?_⟩
          · have k0 : 0 < k := by have := of_decide_eq_true k0; omega
            obtain ⟨z, hz⟩ : ∃ z, (preL s2 4)[k - 1]? = some z := ⟨_, List.getElem?_eq_getElem (by omega)⟩
            obtain ⟨qz, hqz, hzm⟩ := mem_preL.1 (List.mem_of_getElem? hz)
            have hz0 := (hs2.num qz z hzm).1
            have hle := sorted_at (preL_sorted hs2 4) hz (y := x) (by rw [Nat.sub_add_cancel k0]; exact hx)
            conv => whnf
            refine .there k rfl g ?_
            conv => whnf
            refine .at1 (.int .u64 x.num) (k * 16 + 1) (by show 0 + k * 16 + 1 = _; omega) (linesV_cell hx (by decide)) rfl ?_
            conv => whnf
            refine .there (k - 1) (by rw [wrap_i64' _ (by omega) (by omega)]; omega) (by omega) ?_
            conv => whnf
            refine .at1 (.int .u64 z.num) ((k - 1) * 16 + 1) (by show 0 + (k - 1) * 16 + 1 = _; omega) (linesV_cell hz (by decide)) rfl ?_
            conv => whnf
            refine .f (decide_eq_false (by rw [q4_eq hx0, q4_eq hz0]; omega)) ?_
            conv => whnf
            exact ⟨k + 1, fun i => (i, 0), by omega, by omega, fun _ _ => rfl, ⟨⟨_, rfl, fun _ => rfl⟩, ⟨_, rfl, fun _ => rfl⟩, ⟨_, rfl, fun _ => rfl⟩, ⟨_, rfl, fun _ => rfl⟩, ⟨_, rfl, fun _ => rfl⟩, ⟨_, rfl, fun _ => rfl⟩, ⟨_, rfl, fun _ => congrArg (fun x => Value.int .i64 x) (by rw [wrap_i64' _ (by omega) (by omega)]; omega)⟩, trivial⟩, Part.same ⟨⟨by decide, rfl, rfl, _, rfl, fun _ => rfl, Nat.le_refl _, fun _ => Nat.le_refl _, id⟩, ⟨by decide, rfl, rfl, _, rfl, fun _ => rfl, Nat.le_refl _, fun _ => Nat.le_refl _, id⟩, ⟨by decide, rfl, rfl, _, rfl, fun _ => rfl, Nat.le_refl _, fun _ => Nat.le_refl _, id⟩, ⟨by decide, rfl, rfl, _, rfl, fun _ => rfl, Nat.le_refl _, fun _ => Nat.le_refl _, id⟩, trivial⟩ (fun i j _ _ h => h)⟩
          · conv => whnf
            exact ⟨k + 1, fun i => (i, 0), by omega, by omega, fun _ _ => rfl, ⟨⟨_, rfl, fun _ => rfl⟩, ⟨_, rfl, fun _ => rfl⟩, ⟨_, rfl, fun _ => rfl⟩, ⟨_, rfl, fun _ => rfl⟩, ⟨_, rfl, fun _ => rfl⟩, ⟨_, rfl, fun _ => rfl⟩, ⟨_, rfl, fun _ => congrArg (fun x => Value.int .i64 x) (by rw [wrap_i64' _ (by omega) (by omega)]; omega)⟩, trivial⟩, Part.same ⟨⟨by decide, rfl, rfl, _, rfl, fun _ => rfl, Nat.le_refl _, fun _ => Nat.le_refl _, id⟩, ⟨by decide, rfl, rfl, _, rfl, fun _ => rfl, Nat.le_refl _, fun _ => Nat.le_refl _, id⟩, ⟨by decide, rfl, rfl, _, rfl, fun _ => rfl, Nat.le_refl _, fun _ => Nat.le_refl _, id⟩, ⟨by decide, rfl, rfl, _, rfl, fun _ => rfl, Nat.le_refl _, fun _ => Nat.le_refl _, id⟩, trivial⟩ (fun i j _ _ h => h)⟩
        · have g : k = (preL s2 4).length := by have := of_decide_eq_false g; omega
          subst g
          rw [List.take_length]
          have c0' : cq (preL s2 4) 0 ≤ 2 := by rw [cq_preL hs2 (by decide)]; exact hs2.len 0
          have c1' : cq (preL s2 4) 1 ≤ 2 := by rw [cq_preL hs2 (by decide)]; exact hs2.len 1
          have c2' : cq (preL s2 4) 2 ≤ 2 := by rw [cq_preL hs2 (by decide)]; exact hs2.len 2
          have c3' : cq (preL s2 4) 3 ≤ 2 := by rw [cq_preL hs2 (by decide)]; exact hs2.len 3
          conv => whnf
          refine .at1 (.int .i64 (cq (preL s2 4) 0 : Nat)) 0 rfl (cntV_get _ (by decide)) rfl ?_
          conv => whnf
          refine .f (decide_eq_false (by omega)) ?_
          conv => whnf
          refine .at1 (.int .i64 (cq (preL s2 4) 1 : Nat)) 1 rfl (cntV_get _ (by decide)) rfl ?_
          conv => whnf
          refine .f (decide_eq_false (by omega)) ?_
          conv => whnf
          refine .at1 (.int .i64 (cq (preL s2 4) 2 : Nat)) 2 rfl (cntV_get _ (by decide)) rfl ?_
          conv => whnf
          refine .f (decide_eq_false (by omega)) ?_
          conv => whnf
          refine .at1 (.int .i64 (cq (preL s2 4) 3 : Nat)) 3 rfl (cntV_get _ (by decide)) rfl ?_
          conv => whnf
          refine .f (decide_eq_false (by omega)) ?_
          conv => whnf
          exact ⟨(i + 1, s2), fun i => (i, 0), ⟨by show i + 1 ≤ A.length; omega, hs2, h77b⟩, by show A.length - (i + 1) < A.length - i; omega, fun _ _ => rfl, ⟨⟨_, rfl, fun _ => rfl⟩, ⟨_, rfl, fun _ => rfl⟩, ⟨_, rfl, fun _ => rfl⟩, ⟨_, rfl, fun _ => congrArg (fun x => Value.int .i64 x) (by rw [wrap_i64' _ (by omega) (by omega)]; omega)⟩, trivial⟩,
            Part.same ⟨⟨by decide, rfl, rfl, _, rfl, fun _ => rfl, Nat.le_refl _, fun _ => Nat.le_refl _, id⟩, ⟨by decide, rfl, rfl, _, rfl, fun _ => rfl, Nat.le_refl _, fun _ => Nat.le_refl _, id⟩, trivial⟩ (fun i j _ _ h => h)⟩
      · have hm : ¬ a.num.tmod 4 = num.tmod 4 := of_decide_eq_false hm
        rw [q4_eq gn, q4_eq hn] at hm
        conv => whnf
        refine .t (by rw [q4_eq gn, q4_eq hn]; simp; omega) ?_
        conv => whnf
        refine Spec.pure (line_ok (a)) rfl rfl (fun _ => rfl) ?_
        conv => whnf
        refine Spec.row (t := 1) (put_ok s [] hs.len (lnOf (a)) gn) rfl (fun _ => rfl) rfl rfl (putS_len hs (lnOf (a)) gn []) rfl (fun _ => rfl) rfl ?_
        have hs2 := hs.put (lnOf (a)) gn
        have h77b : putS s (lnOf (a)) (q4 num) = [⟨77, num, ent0, 0⟩] := by rw [putS_other (lnOf (a)) (show q4 num ≠ q4 a.num by omega)]; exact h77
        generalize putS s (lnOf (a)) = s2 at hs2 h77b ⊢
        have hp2 := preL_len hs2.len 4
        conv => whnf
        refine Spec.fn (lines_ok s2 [] hs2.len) [1] rfl rfl (fun _ => rfl) rfl ⟨⟨by decide, rfl, rfl, _, rfl, fun _ => rfl, Nat.le_refl _, fun _ => Nat.le_refl _, fun h => by cases h⟩, trivial⟩ (fun _ _ => ⟨rfl, rfl, rfl, trivial⟩) (fun y hy => ?_)
        conv => whnf
        refine CodeL.loopN tabOk 5 (by decide) (fun k : Nat => ([(0, .slz b0 0 0 A.length c0), (1, .int .u64 num), (5, .ptr 1 0), (6, .int .i64 (i : Int)), (8, .ptr 3 0), (9, .slz y.1 4 0 (preL s2 4).length y.2), (10, .int .i64 (k : Int))], [(0, .view (actsV A)), (1, .row (tlbC s2 [])), (3, .row (cntV (cq ((preL s2 4).take k)))), (4, .row (linesV (preL s2 4)))]))
          (fun k => (preL s2 4).length - k) (fun k => k ≤ (preL s2 4).length) rfl (fun k => rfl) 0 (Nat.zero_le _) (fun i => (i, 0)) (fun _ _ => rfl)
          ⟨⟨⟨_, rfl, fun _ => rfl⟩, ⟨_, rfl, fun _ => rfl⟩, ⟨_, rfl, fun _ => rfl⟩, ⟨_, rfl, fun _ => rfl⟩, ⟨_, rfl, fun _ => rfl⟩, ⟨_, rfl, fun _ => rfl⟩, ⟨_, rfl, fun _ => rfl⟩, trivial⟩, Part.same ⟨⟨by decide, rfl, rfl, _, rfl, fun _ => rfl, Nat.le_refl _, fun _ => Nat.le_refl _, id⟩, ⟨by decide, rfl, rfl, _, rfl, fun _ => rfl, Nat.le_refl _, fun _ => Nat.le_refl _, id⟩, ⟨by decide, rfl, rfl, _, rfl, fun _ => rfl, Nat.le_refl _, fun _ => Nat.le_refl _, id⟩, ⟨by decide, rfl, rfl, _, rfl, fun _ => rfl, Nat.le_refl _, fun _ => Nat.le_refl _, id⟩, trivial⟩ (fun i j _ _ h => h)⟩ ?_
        intro k hk
        conv => whnf
        refine ⟨fun g => ?_, fun g => ?_⟩
        · have g : k < (preL s2 4).length := by have := of_decide_eq_true g; omega
          obtain ⟨x, hx⟩ : ∃ x, (preL s2 4)[k]? = some x := ⟨_, List.getElem?_eq_getElem g⟩
          obtain ⟨qx, hqx, hxm⟩ := mem_preL.1 (List.mem_of_getElem? hx)
          have hx0 := (hs2.num qx x hxm).1
          have hcl : cq ((preL s2 4).take k) (q4 x.num) ≤ 8 := by
            refine Nat.le_trans (cq_le _ _) ?_
            rw [List.length_take]; omega
          conv => whnf
          refine .there k rfl g ?_
          conv => whnf
          refine .at1 (.int .u64 x.num) (k * 16 + 1) (by show 0 + k * 16 + 1 = _; omega) (linesV_cell hx (by decide)) rfl ?_
          conv => whnf
          refine .there (q4 x.num) (q4_eq hx0) (q4_lt _) ?_
          conv => whnf
          refine .at1 (.int .i64 (cq ((preL s2 4).take k) (q4 x.num) : Nat)) (q4 x.num) (by show 0 + q4 x.num * 1 = _; omega) (cntV_get _ (q4_lt _)) rfl ?_
          conv => whnf
          refine .there (q4 x.num) (q4_eq hx0) (q4_lt _) ?_
          conv => whnf
          refine .row (cntV (cq ((preL s2 4).take (k + 1)))) [.int .i64 ((cq ((preL s2 4).take k) (q4 x.num) : Nat) + 1 : Int)] (q4 x.num) (by show 0 + q4 x.num * 1 = _; omega) (fun ρ => ?_) rfl rfl rfl (by show q4 x.num + 1 ≤ 4; have := q4_lt x.num; omega) (by rw [cq_take hx]; exact cntV_set _ (q4_lt _)) ?_
          · show [Value.int .i64 (IntKind.wrap .i64 ((cq ((preL s2 4).take k) (q4 x.num) : Nat) + 1 : Int))] = [Value.int .i64 ((cq ((preL s2 4).take k) (q4 x.num) : Nat) + 1 : Int)]
            rw [wrap_i64' _ (by omega) (by omega)]
          conv => whnf
          refine CodeL.draw tabOk Try.checked.mixed 18 (by kernel_rfl) rfl ?_
          conv => whnf
          refine ⟨fun k0 => ?_, fun k0 => ?_⟩
          · have k0 : 0 < k := by have := of_decide_eq_true k0; omega
            obtain ⟨z, hz⟩ : ∃ z, (preL s2 4)[k - 1]? = some z := ⟨_, List.getElem?_eq_getElem (by omega)⟩
            obtain ⟨qz, hqz, hzm⟩ := mem_preL.1 (List.mem_of_getElem? hz)
            have hz0 := (hs2.num qz z hzm).1
            have hle := sorted_at (preL_sorted hs2 4) hz (y := x) (by rw [Nat.sub_add_cancel k0]; exact hx)
            conv => whnf
            refine .there k rfl g ?_
            conv => whnf
            refine .at1 (.int .u64 x.num) (k * 16 + 1) (by show 0 + k * 16 + 1 = _; omega) (linesV_cell hx (by decide)) rfl ?_
            conv => whnf
            refine .there (k - 1) (by rw [wrap_i64' _ (by omega) (by omega)]; omega) (by omega) ?_
            conv => whnf
            refine .at1 (.int .u64 z.num) ((k - 1) * 16 + 1) (by show 0 + (k - 1) * 16 + 1 = _; omega) (linesV_cell hz (by decide)) rfl ?_
            conv => whnf
            refine .f (decide_eq_false (by rw [q4_eq hx0, q4_eq hz0]; omega)) ?_
            conv => whnf
            exact ⟨k + 1, fun i => (i, 0), by omega, by omega, fun _ _ => rfl, ⟨⟨_, rfl, fun _ => rfl⟩, ⟨_, rfl, fun _ => rfl⟩, ⟨_, rfl, fun _ => rfl⟩, ⟨_, rfl, fun _ => rfl⟩, ⟨_, rfl, fun _ => rfl⟩, ⟨_, rfl, fun _ => rfl⟩, ⟨_, rfl, fun _ => congrArg (fun x => Value.int .i64 x) (by rw [wrap_i64' _ (by omega) (by omega)]; omega)⟩, trivial⟩, Part.same ⟨⟨by decide, rfl, rfl, _, rfl, fun _ => rfl, Nat.le_refl _, fun _ => Nat.le_refl _, id⟩, ⟨by decide, rfl, rfl, _, rfl, fun _ => rfl, Nat.le_refl _, fun _ => Nat.le_refl _, id⟩, ⟨by decide, rfl, rfl, _, rfl, fun _ => rfl, Nat.le_refl _, fun _ => Nat.le_refl _, id⟩, ⟨by decide, rfl, rfl, _, rfl, fun _ => rfl, Nat.le_refl _, fun _ => Nat.le_refl _, id⟩, trivial⟩ (fun i j _ _ h => h)⟩
          · conv => whnf
            exact ⟨k + 1, fun i => (i, 0), by omega, by omega, fun _ _ => rfl, ⟨⟨_, rfl, fun _ => rfl⟩, ⟨_, rfl, fun _ => rfl⟩, ⟨_, rfl, fun _ => rfl⟩, ⟨_, rfl, fun _ => rfl⟩, ⟨_, rfl, fun _ => rfl⟩, ⟨_, rfl, fun _ => rfl⟩, ⟨_, rfl, fun _ => congrArg (fun x => Value.int .i64 x) (by rw [wrap_i64' _ (by omega) (by omega)]; omega)⟩, trivial⟩, Part.same ⟨⟨by decide, rfl, rfl, _, rfl, fun _ => rfl, Nat.le_refl _, fun _ => Nat.le_refl _, id⟩, ⟨by decide, rfl, rfl, _, rfl, fun _ => rfl, Nat.le_refl _, fun _ => Nat.le_refl _, id⟩, ⟨by decide, rfl, rfl, _, rfl, fun _ => rfl, Nat.le_refl _, fun _ => Nat.le_refl _, id⟩, ⟨by decide, rfl, rfl, _, rfl, fun _ => rfl, Nat.le_refl _, fun _ => Nat.le_refl _, id⟩, trivial⟩ (fun i j _ _ h => h)⟩
        · have g : k = (preL s2 4).length := by have := of_decide_eq_false g; omega
          subst g
          rw [List.take_length]
          have c0' : cq (preL s2 4) 0 ≤ 2 := by rw [cq_preL hs2 (by decide)]; exact hs2.len 0
          have c1' : cq (preL s2 4) 1 ≤ 2 := by rw [cq_preL hs2 (by decide)]; exact hs2.len 1
          have c2' : cq (preL s2 4) 2 ≤ 2 := by rw [cq_preL hs2 (by decide)]; exact hs2.len 2
          have c3' : cq (preL s2 4) 3 ≤ 2 := by rw [cq_preL hs2 (by decide)]; exact hs2.len 3
          conv => whnf
          refine .at1 (.int .i64 (cq (preL s2 4) 0 : Nat)) 0 rfl (cntV_get _ (by decide)) rfl ?_
          conv => whnf
          refine .f (decide_eq_false (by omega)) ?_
          conv => whnf
          refine .at1 (.int .i64 (cq (preL s2 4) 1 : Nat)) 1 rfl (cntV_get _ (by decide)) rfl ?_
          conv => whnf
          refine .f (decide_eq_false (by omega)) ?_
          conv => whnf
          refine .at1 (.int .i64 (cq (preL s2 4) 2 : Nat)) 2 rfl (cntV_get _ (by decide)) rfl ?_
          conv => whnf
          refine .f (decide_eq_false (by omega)) ?_
          conv => whnf
          refine .at1 (.int .i64 (cq (preL s2 4) 3 : Nat)) 3 rfl (cntV_get _ (by decide)) rfl ?_
          conv => whnf
          refine .f (decide_eq_false (by omega)) ?_
          conv => whnf
          exact ⟨(i + 1, s2), fun i => (i, 0), ⟨by show i + 1 ≤ A.length; omega, hs2, h77b⟩, by show A.length - (i + 1) < A.length - i; omega, fun _ _ => rfl, ⟨⟨_, rfl, fun _ => rfl⟩, ⟨_, rfl, fun _ => rfl⟩, ⟨_, rfl, fun _ => rfl⟩, ⟨_, rfl, fun _ => congrArg (fun x => Value.int .i64 x) (by rw [wrap_i64' _ (by omega) (by omega)]; omega)⟩, trivial⟩,
            Part.same ⟨⟨by decide, rfl, rfl, _, rfl, fun _ => rfl, Nat.le_refl _, fun _ => Nat.le_refl _, id⟩, ⟨by decide, rfl, rfl, _, rfl, fun _ => rfl, Nat.le_refl _, fun _ => Nat.le_refl _, id⟩, trivial⟩ (fun i j _ _ h => h)⟩
    · conv => whnf
      refine Spec.fn (Fun.read hlk rfl) [1] rfl rfl (fun _ => rfl) rfl ⟨⟨by decide, rfl, rfl, _, rfl, fun _ => rfl, Nat.le_refl _, fun _ => Nat.le_refl _, fun h => by cases h⟩, trivial⟩ (fun _ _ => ⟨rfl, rfl, rfl, trivial⟩) (fun _ _ => ?_)
      conv => whnf
      refine Spec.fn (Fun.read one_ok rfl) [] rfl rfl (fun _ => rfl) rfl trivial (fun _ _ => ⟨rfl, rfl, trivial⟩) (fun _ _ => ?_)
      conv => whnf
      intro ρ
      rfl
  · conv => whnf
    refine Spec.fn (Fun.read hlk rfl) [1] rfl rfl (fun _ => rfl) rfl ⟨⟨by decide, rfl, rfl, _, rfl, fun _ => rfl, Nat.le_refl _, fun _ => Nat.le_refl _, fun h => by cases h⟩, trivial⟩ (fun _ _ => ⟨rfl, rfl, rfl, trivial⟩) (fun _ _ => ?_)
    conv => whnf
    refine Spec.fn (Fun.read one_ok rfl) [] rfl rfl (fun _ => rfl) rfl trivial (fun _ _ => ⟨rfl, rfl, trivial⟩) (fun _ _ => ?_)
    conv => whnf
    intro ρ
    rfl
theorem sets_calls (w : World) {b : Bool} {blk off n c : Nat} {cells : List Value} {num : Int} (hm : n ≤ maxLen) (hl : cells.length = n * 5) (hc : ∀ j x, cells[j]? = some x → w.cell? ⟨blk, off + j, none⟩ = some x)
    (hf : ∀ i, i < n → Fits [.int .i64, .int .i64, .int .u64, .int .u64, .int .u64] ((cells.drop (i * 5)).take 5)) (hn : (Lit.int .u64 num).wf = true) :
    Calls Try.prog 3 #[slzV b ⟨blk, off, none⟩ n c, .int .u64 num] w fun e w2 => e = .returned (.bool true) ∧ Below w.heap.size w w2 := by
  obtain ⟨A, rfl, rfl, hg⟩ := acts_of hl hf
  simp only [Lit.wf, Bool.and_eq_true, IntKind.min, IntKind.max, IntKind.bits, IntKind.signed] at hn
  simp at hn
  exact calls_slice (more := [.int .u64 num]) (r := .tt) (sets_ok A b c num hm hg (by omega) (by omega)) rfl rfl hc actV_one
end Go.Sh.Ytmfpndffepjcpaa
