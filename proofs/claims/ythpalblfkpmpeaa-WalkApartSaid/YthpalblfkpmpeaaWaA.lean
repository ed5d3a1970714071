import Derived.Test.YthpalblfkpmpeaaLdB
import Derived.Test.YthpalblfkpmpeaaMB
import Derived.Test.YthpalblfkpmpeaaEnt2
import Derived.Test.YthpalblfkpmpeaaSh32
set_option linter.unusedVariables false
namespace Go.Sh.Ythpalblfkpmpeaa
open Go.Proofs Go.Sh Go.RowKit Go.WideShapes Go.ChangeShapes

def cL (A : List Lay) (i : Nat) : List Lay := (A.take i).map f2
def baseS : List SV := [.int .i64 0, .int .i64 0, .tt, .ff, .ff, .ff, .ff, .ff, .ff, .ff, .ff, .ff, .ff, .ff, .int .u64 1, .int .i64 1, .int .i64 0, .tt, .ff, .ff, .ff, .ff, .ff, .ff, .ff, .ff, .ff, .ff, .ff, .int .u64 2]
set_option maxHeartbeats 1000000 in
theorem apart_ok (A : List Lay) (b0 : Bool) (c0 : Nat) (p0 p1 : Int) (e : Ent) (hA : A.length ≤ maxLen) (hAe : ∀ x ∈ A, okE x.e) (h0 : okS A.length (b0, c0)) (he : okE e) : Spec Try.prog 4 [.slz b0 0 0 A.length c0, .agg [.int .i64 p0, .int .i64 p1], .agg (entC e)] [(0, .view (laysV A))] 1 fun v _ _ => ∀ ρ, v.val ρ = SV.tt.val ρ := by
  have c5 := one_ok
  refine Spec.of_body tabOk Try.func4 rfl (ent Try.func4 rfl (by kernel_rfl)) Try.ntmps4 rfl (by kernel_rfl) (Nat.le_of_ble_eq_true rfl) ?_
  conv => whnf
  refine OpL.bsl tabOk ?_
  conv => whnf
  refine CodeL.loopG tabOk 5 (by decide) (fun x : Nat × Bool × Nat => ([(0, .slz b0 0 0 A.length c0), (4, .ptr 1 0), (5, .ptr 2 0), (7, .slice 3 0 2 2), (8, .slz x.2.1 4 0 x.1 x.2.2), (9, .int .i64 (x.1 : Int))], [(0, .view (laysV A)), (1, .cells [.int .i64 p0, .int .i64 p1]), (2, .cells (entC e)), (3, .cells baseS), (4, .vec (laysV (cL A x.1)) (x.2.2 * 15))]))
    (fun x => A.length - x.1) (fun x => x.1 ≤ A.length ∧ x.1 ≤ 40 ∧ okS x.1 x.2) rfl (fun x => rfl) (0, true, 0) ⟨Nat.zero_le _, Nat.zero_le _, Nat.le_refl _, fun _ => rfl⟩ (fun i => (i, 0)) (fun _ _ => rfl) ⟨⟨⟨_, rfl, fun _ => rfl⟩, ⟨_, rfl, fun _ => rfl⟩, ⟨_, rfl, fun _ => rfl⟩, ⟨_, rfl, fun _ => rfl⟩, ⟨_, rfl, fun _ => rfl⟩, ⟨_, rfl, fun _ => rfl⟩, trivial⟩,
      Part.keys ⟨⟨by decide, rfl, rfl, _, rfl, fun _ => rfl, Nat.le_refl _, fun _ => Nat.le_refl _, id⟩, ⟨by decide, rfl, rfl, _, rfl, fun _ => rfl, Nat.le_refl _, fun _ => Nat.le_refl _, id⟩, ⟨by decide, rfl, rfl, _, rfl, fun _ => rfl, Nat.le_refl _, fun _ => Nat.le_refl _, id⟩, ⟨by decide, rfl, rfl, _, rfl, fun _ => rfl, Nat.le_refl _, fun _ => Nat.le_refl _, id⟩, ⟨by decide, rfl, rfl, _, rfl, fun _ => rfl, Nat.le_refl _, fun _ => Nat.le_refl _, id⟩, trivial⟩ rfl⟩ ?_
  rintro ⟨i, b3, c3⟩ ⟨hi, hi4, hc3⟩
  have hi : i ≤ A.length := hi
  have hi4 : i ≤ 40 := hi4
  have hc3 : okS i (b3, c3) := hc3
  have hcl : (cL A i).length = i := by unfold cL; rw [List.length_map, List.length_take]; omega
  dsimp only
  conv => whnf
  refine ⟨fun h => ?_, fun h => ?_⟩
  · have h : i < A.length := by have := of_decide_eq_true h; omega
    obtain ⟨x, hx⟩ : ∃ x, A[i]? = some x := ⟨_, List.getElem?_eq_getElem h⟩
    conv => whnf
    refine ⟨fun g => ?_, fun g => ?_⟩
    · have g : i < 40 := by have := of_decide_eq_true g; omega
      conv => whnf
      refine .there i rfl h ?_
      conv => whnf
      refine .atN (laySV x) (i * 15) (by show 0 + i * 15 = _; omega) (by rw [laysV_len]; show _ + 15 ≤ _; omega) (laysV_lay hx) rfl ?_
      conv => whnf
      refine OpL.bsl tabOk ?_
      conv => whnf
      refine OpL.app tabOk ?_
      conv => whnf
      refine ⟨layV (f2 x), fun ρ => rfl, rfl, by rw [laysV_len, hcl], rfl, hc3.1, by omega, by show (i + 1) * 40 ≤ 140737488355328; omega, fun b4 c4 hc4 hb4 => ?_⟩
      have hs1 : laysV (cL A (i + 1)) = laysV (cL A i) ++ layV (f2 x) := by
        unfold cL; rw [cL_succ hx, laysV_app]; simp [laysV]
      have hlv : (laysV (cL A (i + 1))).length ≤ c4 * 15 := by
        rw [laysV_len]; unfold cL; rw [List.length_map, List.length_take]; exact Nat.mul_le_mul_right _ (by omega)
      conv => whnf
      exact ⟨(i + 1, b4, c4), toL [(4, 7)], ⟨by show i + 1 ≤ _; omega, by show i + 1 ≤ 40; omega, hc4, fun h => (hb4 h).2⟩, by show A.length - (i + 1) < A.length - i; omega, toL_low rfl, ⟨⟨_, rfl, fun _ => rfl⟩, ⟨_, rfl, fun _ => rfl⟩, ⟨_, rfl, fun _ => rfl⟩, ⟨_, rfl, fun _ => rfl⟩, ⟨_, rfl, fun _ => rfl⟩, ⟨_, rfl, fun _ => congrArg (Value.int .i64) (by rw [wrap_i64 _ (by omega) (by omega)]; omega)⟩, trivial⟩,
        Part.keys ⟨⟨by decide, rfl, rfl, _, rfl, fun _ => rfl, Nat.le_refl _, fun _ => Nat.le_refl _, id⟩, ⟨by decide, rfl, rfl, _, rfl, fun _ => rfl, Nat.le_refl _, fun _ => Nat.le_refl _, id⟩, ⟨by decide, rfl, rfl, _, rfl, fun _ => rfl, Nat.le_refl _, fun _ => Nat.le_refl _, id⟩, ⟨by decide, rfl, rfl, _, rfl, fun _ => rfl, Nat.le_refl _, fun _ => Nat.le_refl _, id⟩, ⟨by decide, rfl, rfl, _, rfl, fun _ => hs1, Nat.le_refl _, fun _ => hlv, id⟩, trivial⟩ rfl⟩
    · have hlen : (cL A i ++ baseL).length = i + 2 := by rw [List.length_append, hcl]; rfl
      conv => whnf
      refine OpL.app tabOk ?_
      conv => whnf
      refine ⟨laysV baseL, fun ρ => rfl, rfl, by rw [laysV_len, hcl], rfl, hc3.1, by omega, by show (i + 2) * 40 ≤ 140737488355328; omega, fun b4 c4 hc4 hb4 => ?_⟩
      have hB : ∀ x ∈ cL A i ++ baseL, okE x.e := by
        intro x hx
        rcases List.mem_append.1 hx with h | h
        · obtain ⟨y, hy, rfl⟩ := List.mem_map.1 h
          exact hAe y (List.mem_of_mem_take hy)
        · simp only [baseL, List.mem_cons, List.not_mem_nil, or_false] at h
          rcases h with rfl | rfl
          · exact ⟨by decide, by decide⟩
          · exact ⟨by decide, by decide⟩
      have hsv : laysV (cL A i ++ baseL) = laysV (cL A i) ++ laysV baseL := laysV_app _ _
      have hbe := base_ents (cL A i)
      generalize hgA : cL A i ++ baseL = B at hlen hB hsv hbe
      have hl := laid_ok B b4 c4 (by rw [hlen]; show _ ≤ 2 ^ 63 - 1; omega) hB (by rw [hlen]; exact ⟨hc4, fun h => (hb4 h).2⟩)
      have hkB : kL B = i + 2 := by unfold kL; rw [hlen]; omega
      rw [hkB, ← hlen, List.take_length] at hl
      have hlv : (laysV B).length ≤ c4 * 15 := by rw [laysV_len, hlen]; exact Nat.mul_le_mul_right _ hc4
      conv => whnf
      refine Spec.fn hl [5] rfl rfl (fun _ => by rw [hlen]; rfl) rfl ⟨⟨by decide, rfl, rfl, _, rfl, fun _ => hsv, hlv, fun _ => Nat.le_refl _, fun h => (by cases h)⟩, trivial⟩ (fun _ _ => ⟨rfl, rfl, rfl, trivial⟩) (fun y gy => ?_)
      clear hl gy
      have hmb := memL_ok B
      generalize memL B = b at hbe hmb
      conv => whnf
      refine CodeL.draw tabOk Try.checked.mixed 10 (by kernel_rfl) rfl ?_
      conv => whnf
      have e1 : band .and .i64 p0 511 = ((p0 % (512 : Nat)).toNat : Int) := band_mask p0 9 (by decide)
      have e2 : band .and .i64 p1 511 = ((p1 % (512 : Nat)).toNat : Int) := band_mask p1 9 (by decide)
      have hq := mod_lt' p0 (m := 512) (by decide)
      have hk := mod_lt' p1 (m := 512) (by decide)
      rw [e1, e2]
      generalize (p0 % (512 : Nat)).toNat = q at hq
      generalize (p1 % (512 : Nat)).toNat = k at hk
      clear e1 e2 hi hi4 hc3 hcl hlen hB hsv hgA hlv hkB hA hAe h0
      have a1 : IntKind.wrap .u64 (IntKind.wrap .u64 (k : Int) * 4096) = ((k * 4096 : Nat) : Int) := by
        rw [wrapn k (by omega), show (k : Int) * 4096 = ((k * 4096 : Nat) : Int) by omega, wrapn _ (by omega)]
      have a2 : IntKind.wrap .u64 (IntKind.wrap .u64 (q : Int) * 4096) = ((q * 4096 : Nat) : Int) := by
        rw [wrapn q (by omega), show (q : Int) * 4096 = ((q * 4096 : Nat) : Int) by omega, wrapn _ (by omega)]
      have a3 : IntKind.wrap .u64 (8192 + IntKind.wrap .u64 (8 * IntKind.wrap .u64 (q : Int))) = ((8192 + q * 8 : Nat) : Int) := by
        rw [wrapn q (by omega), show (8 : Int) * (q : Int) = ((q * 8 : Nat) : Int) by omega, wrapn (q * 8) (by omega), show (8192 : Int) + ((q * 8 : Nat) : Int) = ((8192 + q * 8 : Nat) : Int) by omega, wrapn _ (by omega)]
      have w1 := walk_ok 8 b y.1 0 (k * 4096) hmb (by decide) (by decide) (by decide) (by omega)
      rw [walk_low hbe.1 hbe.2 hk, walkR_eq] at w1
      refine Spec.fn w1 [6, 7] rfl rfl (fun _ => by rw [← a1]; rfl) rfl ⟨⟨by decide, rfl, rfl, _, rfl, fun _ => rfl, Nat.le_refl _, fun _ => Nat.le_refl _, id⟩, ⟨by decide, rfl, rfl, _, rfl, fun _ => rfl, Nat.le_refl _, fun _ => Nat.le_refl _, fun h => (by cases h)⟩, trivial⟩ (fun _ _ => ⟨rfl, rfl, ⟨_, rfl, rfl, rfl⟩, rfl, trivial⟩) (fun _ _ => ?_)
      conv => whnf
      refine Spec.pure (word_ok e he) rfl rfl (fun _ => rfl) ?_
      conv => whnf
      refine Spec.fn (store_ok 8 b y.1 (8192 + q * 8) 8 (entW e) (entW_lt e) (.inr (.inr (.inr rfl))) (by omega) (by decide) (by omega)) [6, 7] rfl rfl (fun _ => by rw [← a3]; rfl) rfl ⟨⟨by decide, rfl, rfl, _, rfl, fun _ => rfl, Nat.le_refl _, fun _ => Nat.le_refl _, id⟩, ⟨by decide, rfl, rfl, _, rfl, fun _ => rfl, Nat.le_refl _, fun _ => Nat.le_refl _, fun _ => rfl⟩, trivial⟩ (fun _ _ => ⟨rfl, rfl, ⟨_, rfl, rfl, rfl⟩, ⟨_, rfl, rfl, rlen _ _ _ _ _⟩, trivial⟩) (fun _ _ => ?_)
      have hb2 := st_ents (i := q) (v := entW e) hbe.1 hbe.2
      have hmb2 : okB (stB b (8192 + q * 8) (entW e) 8) := stB_ok hmb _ _ _
      have w2 := walk_ok 8 (stB b (8192 + q * 8) (entW e) 8) (tagsL y.1 (8192 + q * 8) 8) 0 (k * 4096) hmb2 (by decide) (by decide) (by decide) (by omega)
      have w3 := walk_ok 8 (stB b (8192 + q * 8) (entW e) 8) (tagsL y.1 (8192 + q * 8) 8) 0 (q * 4096) hmb2 (by decide) (by decide) (by decide) (by omega)
      rw [walk_low hb2.1 hb2.2 hk, walkR_eq] at w2
      rw [walk_low hb2.1 hb2.2 hq, leaf_own, bad_is] at w3
      conv => whnf
      refine Spec.fn w2 [6, 7] rfl rfl (fun _ => by rw [← a1]; rfl) rfl ⟨⟨by decide, rfl, rfl, _, rfl, fun _ => rfl, Nat.le_refl _, fun _ => Nat.le_refl _, id⟩, ⟨by decide, rfl, rfl, _, rfl, fun _ => rfl, Nat.le_refl _, fun _ => Nat.le_refl _, fun h => (by cases h)⟩, trivial⟩ (fun _ _ => ⟨rfl, rfl, ⟨_, rfl, rfl, rfl⟩, rfl, trivial⟩) (fun _ _ => ?_)
      conv => whnf
      have hof := of_ok (entW e) (entW_lt e)
      rw [entOf_entW, show ({ e with fr := (frN e : Nat) } : Ent) = cutE e from rfl] at hof
      have hwo := word_ok e he
      have hle := leaf_ok (cutE e)
      have hri := right_ok (cutE e) ⟨by show (0 : Int) ≤ (frN e : Nat); omega, by have := frN_lt e; show ((frN e : Nat) : Int) < _; omega⟩
      generalize cutE e = X at w3 hof hle hri
      have wq : IntKind.wrap .u64 (q : Int) = (q : Int) := wrapn q (by omega)
      have wk : IntKind.wrap .u64 (k : Int) = (k : Int) := wrapn k (by omega)
      generalize leafB X = Lf at w3 hle
      generalize rightB X = R at w3 hri
      have ho : ∀ o1, (q ≠ k → o1 = leafF b k) → True := fun _ _ => trivial
      by_cases hqk : q = k
      · have hne : (!decide (IntKind.wrap .u64 (q : Int) = IntKind.wrap .u64 (k : Int))) = false := by rw [hqk]; simp
        cases Lf
        · refine Spec.fn w3 [6, 7] rfl rfl (fun _ => by rw [← a2]; rfl) rfl ⟨⟨by decide, rfl, rfl, _, rfl, fun _ => rfl, Nat.le_refl _, fun _ => Nat.le_refl _, id⟩, ⟨by decide, rfl, rfl, _, rfl, fun _ => rfl, Nat.le_refl _, fun _ => Nat.le_refl _, fun h => (by cases h)⟩, trivial⟩ (fun _ _ => ⟨rfl, rfl, ⟨_, rfl, rfl, rfl⟩, rfl, trivial⟩) (fun _ _ => ?_)
          repeat' ((try (conv => whnf)); first
            | refine Spec.pure hwo rfl rfl (fun _ => rfl) ?_
            | refine Spec.pure hof rfl rfl (fun _ => rfl) ?_
            | refine Spec.pure hle rfl rfl (fun _ => rfl) ?_
            | refine Spec.pure hri rfl rfl (fun _ => rfl) ?_
            | refine Spec.pure c5 rfl rfl (fun _ => rfl) ?_
            | refine Needs.mk ⟨rfl, by kernel_rfl⟩ ?_
            | refine Needs.mk (by kernel_rfl) ?_
            | refine IfL.t rfl ?_
            | refine IfL.f rfl ?_
            | refine IfL.t hne ?_
            | refine IfL.f hne ?_
            | refine VL.op (VL.eq tabOk ?_)
            | (refine IfL.t ?hx ?_; case hx => (first | (simp [wq, wk, hqk]; done) | (simp [hD]; done) | (rw [← a3]; simp; done)))
            | (refine IfL.f ?hx ?_; case hx => (first | (simp [wq, wk, hqk]; done) | (simp [hD]; done) | (simp; done))))
          conv => whnf
          intro ρ
          rfl
        cases R
        · refine Spec.fn w3 [6, 7] rfl rfl (fun _ => by rw [← a2]; rfl) rfl ⟨⟨by decide, rfl, rfl, _, rfl, fun _ => rfl, Nat.le_refl _, fun _ => Nat.le_refl _, id⟩, ⟨by decide, rfl, rfl, _, rfl, fun _ => rfl, Nat.le_refl _, fun _ => Nat.le_refl _, fun h => (by cases h)⟩, trivial⟩ (fun _ _ => ⟨rfl, rfl, ⟨_, rfl, rfl, rfl⟩, rfl, trivial⟩) (fun _ _ => ?_)
          repeat' ((try (conv => whnf)); first
            | refine Spec.pure hwo rfl rfl (fun _ => rfl) ?_
            | refine Spec.pure hof rfl rfl (fun _ => rfl) ?_
            | refine Spec.pure hle rfl rfl (fun _ => rfl) ?_
            | refine Spec.pure hri rfl rfl (fun _ => rfl) ?_
            | refine Spec.pure c5 rfl rfl (fun _ => rfl) ?_
            | refine Needs.mk ⟨rfl, by kernel_rfl⟩ ?_
            | refine Needs.mk (by kernel_rfl) ?_
            | refine IfL.t rfl ?_
            | refine IfL.f rfl ?_
            | refine IfL.t hne ?_
            | refine IfL.f hne ?_
            | refine VL.op (VL.eq tabOk ?_)
            | (refine IfL.t ?hx ?_; case hx => (first | (simp [wq, wk, hqk]; done) | (simp [hD]; done) | (rw [← a3]; simp; done)))
            | (refine IfL.f ?hx ?_; case hx => (first | (simp [wq, wk, hqk]; done) | (simp [hD]; done) | (simp; done))))
          conv => whnf
          intro ρ
          rfl
        by_cases hD : X.fr < 8
        · rw [decide_eq_true hD] at w3
          refine Spec.fn w3 [6, 7] rfl rfl (fun _ => by rw [← a2]; rfl) rfl ⟨⟨by decide, rfl, rfl, _, rfl, fun _ => rfl, Nat.le_refl _, fun _ => Nat.le_refl _, id⟩, ⟨by decide, rfl, rfl, _, rfl, fun _ => rfl, Nat.le_refl _, fun _ => Nat.le_refl _, fun h => (by cases h)⟩, trivial⟩ (fun _ _ => ⟨rfl, rfl, ⟨_, rfl, rfl, rfl⟩, rfl, trivial⟩) (fun _ _ => ?_)
          repeat' ((try (conv => whnf)); first
            | refine Spec.pure hwo rfl rfl (fun _ => rfl) ?_
            | refine Spec.pure hof rfl rfl (fun _ => rfl) ?_
            | refine Spec.pure hle rfl rfl (fun _ => rfl) ?_
            | refine Spec.pure hri rfl rfl (fun _ => rfl) ?_
            | refine Spec.pure c5 rfl rfl (fun _ => rfl) ?_
            | refine Needs.mk ⟨rfl, by kernel_rfl⟩ ?_
            | refine Needs.mk (by kernel_rfl) ?_
            | refine IfL.t rfl ?_
            | refine IfL.f rfl ?_
            | refine IfL.t hne ?_
            | refine IfL.f hne ?_
            | refine VL.op (VL.eq tabOk ?_)
            | (refine IfL.t ?hx ?_; case hx => (first | (simp [wq, wk, hqk]; done) | (simp [hD]; done) | (rw [← a3]; simp; done)))
            | (refine IfL.f ?hx ?_; case hx => (first | (simp [wq, wk, hqk]; done) | (simp [hD]; done) | (simp; done))))
          conv => whnf
          intro ρ
          rfl
        · rw [decide_eq_false hD] at w3
          refine Spec.fn w3 [6, 7] rfl rfl (fun _ => by rw [← a2]; rfl) rfl ⟨⟨by decide, rfl, rfl, _, rfl, fun _ => rfl, Nat.le_refl _, fun _ => Nat.le_refl _, id⟩, ⟨by decide, rfl, rfl, _, rfl, fun _ => rfl, Nat.le_refl _, fun _ => Nat.le_refl _, fun h => (by cases h)⟩, trivial⟩ (fun _ _ => ⟨rfl, rfl, ⟨_, rfl, rfl, rfl⟩, rfl, trivial⟩) (fun _ _ => ?_)
          repeat' ((try (conv => whnf)); first
            | refine Spec.pure hwo rfl rfl (fun _ => rfl) ?_
            | refine Spec.pure hof rfl rfl (fun _ => rfl) ?_
            | refine Spec.pure hle rfl rfl (fun _ => rfl) ?_
            | refine Spec.pure hri rfl rfl (fun _ => rfl) ?_
            | refine Spec.pure c5 rfl rfl (fun _ => rfl) ?_
            | refine Needs.mk ⟨rfl, by kernel_rfl⟩ ?_
            | refine Needs.mk (by kernel_rfl) ?_
            | refine IfL.t rfl ?_
            | refine IfL.f rfl ?_
            | refine IfL.t hne ?_
            | refine IfL.f hne ?_
            | refine VL.op (VL.eq tabOk ?_)
            | (refine IfL.t ?hx ?_; case hx => (first | (simp [wq, wk, hqk]; done) | (simp [hD]; done) | (rw [← a3]; simp; done)))
            | (refine IfL.f ?hx ?_; case hx => (first | (simp [wq, wk, hqk]; done) | (simp [hD]; done) | (simp; done))))
          conv => whnf
          intro ρ
          rfl
      · rw [leaf_other hqk]
        have hne : (!decide (IntKind.wrap .u64 (q : Int) = IntKind.wrap .u64 (k : Int))) = true := by rw [wq, wk, decide_eq_false (fun g => hqk (by omega))]; rfl
        cases Lf
        · refine Spec.fn w3 [6, 7] rfl rfl (fun _ => by rw [← a2]; rfl) rfl ⟨⟨by decide, rfl, rfl, _, rfl, fun _ => rfl, Nat.le_refl _, fun _ => Nat.le_refl _, id⟩, ⟨by decide, rfl, rfl, _, rfl, fun _ => rfl, Nat.le_refl _, fun _ => Nat.le_refl _, fun h => (by cases h)⟩, trivial⟩ (fun _ _ => ⟨rfl, rfl, ⟨_, rfl, rfl, rfl⟩, rfl, trivial⟩) (fun _ _ => ?_)
          repeat' ((try (conv => whnf)); first
            | refine Spec.pure hwo rfl rfl (fun _ => rfl) ?_
            | refine Spec.pure hof rfl rfl (fun _ => rfl) ?_
            | refine Spec.pure hle rfl rfl (fun _ => rfl) ?_
            | refine Spec.pure hri rfl rfl (fun _ => rfl) ?_
            | refine Spec.pure c5 rfl rfl (fun _ => rfl) ?_
            | refine Needs.mk ⟨rfl, by kernel_rfl⟩ ?_
            | refine Needs.mk (by kernel_rfl) ?_
            | refine IfL.t rfl ?_
            | refine IfL.f rfl ?_
            | refine IfL.t hne ?_
            | refine IfL.f hne ?_
            | refine VL.op (VL.eq tabOk ?_)
            | (refine IfL.t ?hx ?_; case hx => (first | (simp [wq, wk, hqk]; done) | (simp [hD]; done) | (rw [← a3]; simp; done)))
            | (refine IfL.f ?hx ?_; case hx => (first | (simp [wq, wk, hqk]; done) | (simp [hD]; done) | (simp; done))))
          conv => whnf
          intro ρ
          rfl
        cases R
        · refine Spec.fn w3 [6, 7] rfl rfl (fun _ => by rw [← a2]; rfl) rfl ⟨⟨by decide, rfl, rfl, _, rfl, fun _ => rfl, Nat.le_refl _, fun _ => Nat.le_refl _, id⟩, ⟨by decide, rfl, rfl, _, rfl, fun _ => rfl, Nat.le_refl _, fun _ => Nat.le_refl _, fun h => (by cases h)⟩, trivial⟩ (fun _ _ => ⟨rfl, rfl, ⟨_, rfl, rfl, rfl⟩, rfl, trivial⟩) (fun _ _ => ?_)
          repeat' ((try (conv => whnf)); first
            | refine Spec.pure hwo rfl rfl (fun _ => rfl) ?_
            | refine Spec.pure hof rfl rfl (fun _ => rfl) ?_
            | refine Spec.pure hle rfl rfl (fun _ => rfl) ?_
            | refine Spec.pure hri rfl rfl (fun _ => rfl) ?_
            | refine Spec.pure c5 rfl rfl (fun _ => rfl) ?_
            | refine Needs.mk ⟨rfl, by kernel_rfl⟩ ?_
            | refine Needs.mk (by kernel_rfl) ?_
            | refine IfL.t rfl ?_
            | refine IfL.f rfl ?_
            | refine IfL.t hne ?_
            | refine IfL.f hne ?_
            | refine VL.op (VL.eq tabOk ?_)
            | (refine IfL.t ?hx ?_; case hx => (first | (simp [wq, wk, hqk]; done) | (simp [hD]; done) | (rw [← a3]; simp; done)))
            | (refine IfL.f ?hx ?_; case hx => (first | (simp [wq, wk, hqk]; done) | (simp [hD]; done) | (simp; done))))
          conv => whnf
          intro ρ
          rfl
        by_cases hD : X.fr < 8
        · rw [decide_eq_true hD] at w3
          refine Spec.fn w3 [6, 7] rfl rfl (fun _ => by rw [← a2]; rfl) rfl ⟨⟨by decide, rfl, rfl, _, rfl, fun _ => rfl, Nat.le_refl _, fun _ => Nat.le_refl _, id⟩, ⟨by decide, rfl, rfl, _, rfl, fun _ => rfl, Nat.le_refl _, fun _ => Nat.le_refl _, fun h => (by cases h)⟩, trivial⟩ (fun _ _ => ⟨rfl, rfl, ⟨_, rfl, rfl, rfl⟩, rfl, trivial⟩) (fun _ _ => ?_)
          repeat' ((try (conv => whnf)); first
            | refine Spec.pure hwo rfl rfl (fun _ => rfl) ?_
            | refine Spec.pure hof rfl rfl (fun _ => rfl) ?_
            | refine Spec.pure hle rfl rfl (fun _ => rfl) ?_
            | refine Spec.pure hri rfl rfl (fun _ => rfl) ?_
            | refine Spec.pure c5 rfl rfl (fun _ => rfl) ?_
            | refine Needs.mk ⟨rfl, by kernel_rfl⟩ ?_
            | refine Needs.mk (by kernel_rfl) ?_
            | refine IfL.t rfl ?_
            | refine IfL.f rfl ?_
            | refine IfL.t hne ?_
            | refine IfL.f hne ?_
            | refine VL.op (VL.eq tabOk ?_)
            | (refine IfL.t ?hx ?_; case hx => (first | (simp [wq, wk, hqk]; done) | (simp [hD]; done) | (rw [← a3]; simp; done)))
            | (refine IfL.f ?hx ?_; case hx => (first | (simp [wq, wk, hqk]; done) | (simp [hD]; done) | (simp; done))))
          conv => whnf
          intro ρ
          rfl
        · rw [decide_eq_false hD] at w3
          refine Spec.fn w3 [6, 7] rfl rfl (fun _ => by rw [← a2]; rfl) rfl ⟨⟨by decide, rfl, rfl, _, rfl, fun _ => rfl, Nat.le_refl _, fun _ => Nat.le_refl _, id⟩, ⟨by decide, rfl, rfl, _, rfl, fun _ => rfl, Nat.le_refl _, fun _ => Nat.le_refl _, fun h => (by cases h)⟩, trivial⟩ (fun _ _ => ⟨rfl, rfl, ⟨_, rfl, rfl, rfl⟩, rfl, trivial⟩) (fun _ _ => ?_)
          repeat' ((try (conv => whnf)); first
            | refine Spec.pure hwo rfl rfl (fun _ => rfl) ?_
            | refine Spec.pure hof rfl rfl (fun _ => rfl) ?_
            | refine Spec.pure hle rfl rfl (fun _ => rfl) ?_
            | refine Spec.pure hri rfl rfl (fun _ => rfl) ?_
            | refine Spec.pure c5 rfl rfl (fun _ => rfl) ?_
            | refine Needs.mk ⟨rfl, by kernel_rfl⟩ ?_
            | refine Needs.mk (by kernel_rfl) ?_
            | refine IfL.t rfl ?_
            | refine IfL.f rfl ?_
            | refine IfL.t hne ?_
            | refine IfL.f hne ?_
            | refine VL.op (VL.eq tabOk ?_)
            | (refine IfL.t ?hx ?_; case hx => (first | (simp [wq, wk, hqk]; done) | (simp [hD]; done) | (rw [← a3]; simp; done)))
            | (refine IfL.f ?hx ?_; case hx => (first | (simp [wq, wk, hqk]; done) | (simp [hD]; done) | (simp; done))))
          conv => whnf
          intro ρ
          rfl
  · have hlen : (cL A i ++ baseL).length = i + 2 := by rw [List.length_append, hcl]; rfl
    conv => whnf
    refine OpL.app tabOk ?_
    conv => whnf
    refine ⟨laysV baseL, fun ρ => rfl, rfl, by rw [laysV_len, hcl], rfl, hc3.1, by omega, by show (i + 2) * 40 ≤ 140737488355328; omega, fun b4 c4 hc4 hb4 => ?_⟩
    have hB : ∀ x ∈ cL A i ++ baseL, okE x.e := by
      intro x hx
      rcases List.mem_append.1 hx with h | h
      · obtain ⟨y, hy, rfl⟩ := List.mem_map.1 h
        exact hAe y (List.mem_of_mem_take hy)
      · simp only [baseL, List.mem_cons, List.not_mem_nil, or_false] at h
        rcases h with rfl | rfl
        · exact ⟨by decide, by decide⟩
        · exact ⟨by decide, by decide⟩
    have hsv : laysV (cL A i ++ baseL) = laysV (cL A i) ++ laysV baseL := laysV_app _ _
    have hbe := base_ents (cL A i)
    generalize hgA : cL A i ++ baseL = B at hlen hB hsv hbe
    have hl := laid_ok B b4 c4 (by rw [hlen]; show _ ≤ 2 ^ 63 - 1; omega) hB (by rw [hlen]; exact ⟨hc4, fun h => (hb4 h).2⟩)
    have hkB : kL B = i + 2 := by unfold kL; rw [hlen]; omega
    rw [hkB, ← hlen, List.take_length] at hl
    have hlv : (laysV B).length ≤ c4 * 15 := by rw [laysV_len, hlen]; exact Nat.mul_le_mul_right _ hc4
    conv => whnf
    refine Spec.fn hl [5] rfl rfl (fun _ => by rw [hlen]; rfl) rfl ⟨⟨by decide, rfl, rfl, _, rfl, fun _ => hsv, hlv, fun _ => Nat.le_refl _, fun h => (by cases h)⟩, trivial⟩ (fun _ _ => ⟨rfl, rfl, rfl, trivial⟩) (fun y gy => ?_)
    clear hl gy
    have hmb := memL_ok B
    generalize memL B = b at hbe hmb
    conv => whnf
    refine CodeL.draw tabOk Try.checked.mixed 10 (by kernel_rfl) rfl ?_
    conv => whnf
    have e1 : band .and .i64 p0 511 = ((p0 % (512 : Nat)).toNat : Int) := band_mask p0 9 (by decide)
    have e2 : band .and .i64 p1 511 = ((p1 % (512 : Nat)).toNat : Int) := band_mask p1 9 (by decide)
    have hq := mod_lt' p0 (m := 512) (by decide)
    have hk := mod_lt' p1 (m := 512) (by decide)
    rw [e1, e2]
    generalize (p0 % (512 : Nat)).toNat = q at hq
    generalize (p1 % (512 : Nat)).toNat = k at hk
    clear e1 e2 hi hi4 hc3 hcl hlen hB hsv hgA hlv hkB hA hAe h0
    have a1 : IntKind.wrap .u64 (IntKind.wrap .u64 (k : Int) * 4096) = ((k * 4096 : Nat) : Int) := by
      rw [wrapn k (by omega), show (k : Int) * 4096 = ((k * 4096 : Nat) : Int) by omega, wrapn _ (by omega)]
    have a2 : IntKind.wrap .u64 (IntKind.wrap .u64 (q : Int) * 4096) = ((q * 4096 : Nat) : Int) := by
      rw [wrapn q (by omega), show (q : Int) * 4096 = ((q * 4096 : Nat) : Int) by omega, wrapn _ (by omega)]
    have a3 : IntKind.wrap .u64 (8192 + IntKind.wrap .u64 (8 * IntKind.wrap .u64 (q : Int))) = ((8192 + q * 8 : Nat) : Int) := by
      rw [wrapn q (by omega), show (8 : Int) * (q : Int) = ((q * 8 : Nat) : Int) by omega, wrapn (q * 8) (by omega), show (8192 : Int) + ((q * 8 : Nat) : Int) = ((8192 + q * 8 : Nat) : Int) by omega, wrapn _ (by omega)]
    have w1 := walk_ok 8 b y.1 0 (k * 4096) hmb (by decide) (by decide) (by decide) (by omega)
    rw [walk_low hbe.1 hbe.2 hk, walkR_eq] at w1
    refine Spec.fn w1 [6, 7] rfl rfl (fun _ => by rw [← a1]; rfl) rfl ⟨⟨by decide, rfl, rfl, _, rfl, fun _ => rfl, Nat.le_refl _, fun _ => Nat.le_refl _, id⟩, ⟨by decide, rfl, rfl, _, rfl, fun _ => rfl, Nat.le_refl _, fun _ => Nat.le_refl _, fun h => (by cases h)⟩, trivial⟩ (fun _ _ => ⟨rfl, rfl, ⟨_, rfl, rfl, rfl⟩, rfl, trivial⟩) (fun _ _ => ?_)
    conv => whnf
    refine Spec.pure (word_ok e he) rfl rfl (fun _ => rfl) ?_
    conv => whnf
    refine Spec.fn (store_ok 8 b y.1 (8192 + q * 8) 8 (entW e) (entW_lt e) (.inr (.inr (.inr rfl))) (by omega) (by decide) (by omega)) [6, 7] rfl rfl (fun _ => by rw [← a3]; rfl) rfl ⟨⟨by decide, rfl, rfl, _, rfl, fun _ => rfl, Nat.le_refl _, fun _ => Nat.le_refl _, id⟩, ⟨by decide, rfl, rfl, _, rfl, fun _ => rfl, Nat.le_refl _, fun _ => Nat.le_refl _, fun _ => rfl⟩, trivial⟩ (fun _ _ => ⟨rfl, rfl, ⟨_, rfl, rfl, rfl⟩, ⟨_, rfl, rfl, rlen _ _ _ _ _⟩, trivial⟩) (fun _ _ => ?_)
    have hb2 := st_ents (i := q) (v := entW e) hbe.1 hbe.2
    have hmb2 : okB (stB b (8192 + q * 8) (entW e) 8) := stB_ok hmb _ _ _
    have w2 := walk_ok 8 (stB b (8192 + q * 8) (entW e) 8) (tagsL y.1 (8192 + q * 8) 8) 0 (k * 4096) hmb2 (by decide) (by decide) (by decide) (by omega)
    have w3 := walk_ok 8 (stB b (8192 + q * 8) (entW e) 8) (tagsL y.1 (8192 + q * 8) 8) 0 (q * 4096) hmb2 (by decide) (by decide) (by decide) (by omega)
    rw [walk_low hb2.1 hb2.2 hk, walkR_eq] at w2
    rw [walk_low hb2.1 hb2.2 hq, leaf_own, bad_is] at w3
    conv => whnf
    refine Spec.fn w2 [6, 7] rfl rfl (fun _ => by rw [← a1]; rfl) rfl ⟨⟨by decide, rfl, rfl, _, rfl, fun _ => rfl, Nat.le_refl _, fun _ => Nat.le_refl _, id⟩, ⟨by decide, rfl, rfl, _, rfl, fun _ => rfl, Nat.le_refl _, fun _ => Nat.le_refl _, fun h => (by cases h)⟩, trivial⟩ (fun _ _ => ⟨rfl, rfl, ⟨_, rfl, rfl, rfl⟩, rfl, trivial⟩) (fun _ _ => ?_)
    conv => whnf
    have hof := of_ok (entW e) (entW_lt e)
    rw [entOf_entW, show ({ e with fr := (frN e : Nat) } : Ent) = cutE e from rfl] at hof
    have hwo := word_ok e he
    have hle := leaf_ok (cutE e)
    have hri := right_ok (cutE e) ⟨by show (0 : Int) ≤ (frN e : Nat); omega, by have := frN_lt e; show ((frN e : Nat) : Int) < _; omega⟩
    generalize cutE e = X at w3 hof hle hri
    have wq : IntKind.wrap .u64 (q : Int) = (q : Int) := wrapn q (by omega)
    have wk : IntKind.wrap .u64 (k : Int) = (k : Int) := wrapn k (by omega)
    generalize leafB X = Lf at w3 hle
    generalize rightB X = R at w3 hri
    have ho : ∀ o1, (q ≠ k → o1 = leafF b k) → True := fun _ _ => trivial
    by_cases hqk : q = k
    · have hne : (!decide (IntKind.wrap .u64 (q : Int) = IntKind.wrap .u64 (k : Int))) = false := by rw [hqk]; simp
      cases Lf
      · refine Spec.fn w3 [6, 7] rfl rfl (fun _ => by rw [← a2]; rfl) rfl ⟨⟨by decide, rfl, rfl, _, rfl, fun _ => rfl, Nat.le_refl _, fun _ => Nat.le_refl _, id⟩, ⟨by decide, rfl, rfl, _, rfl, fun _ => rfl, Nat.le_refl _, fun _ => Nat.le_refl _, fun h => (by cases h)⟩, trivial⟩ (fun _ _ => ⟨rfl, rfl, ⟨_, rfl, rfl, rfl⟩, rfl, trivial⟩) (fun _ _ => ?_)
        repeat' ((try (conv => whnf)); first
          | refine Spec.pure hwo rfl rfl (fun _ => rfl) ?_
          | refine Spec.pure hof rfl rfl (fun _ => rfl) ?_
          | refine Spec.pure hle rfl rfl (fun _ => rfl) ?_
          | refine Spec.pure hri rfl rfl (fun _ => rfl) ?_
          | refine Spec.pure c5 rfl rfl (fun _ => rfl) ?_
          | refine Needs.mk ⟨rfl, by kernel_rfl⟩ ?_
          | refine Needs.mk (by kernel_rfl) ?_
          | refine IfL.t rfl ?_
          | refine IfL.f rfl ?_
          | refine IfL.t hne ?_
          | refine IfL.f hne ?_
          | refine VL.op (VL.eq tabOk ?_)
          | (refine IfL.t ?hx ?_; case hx => (first | (simp [wq, wk, hqk]; done) | (simp [hD]; done) | (rw [← a3]; simp; done)))
          | (refine IfL.f ?hx ?_; case hx => (first | (simp [wq, wk, hqk]; done) | (simp [hD]; done) | (simp; done))))
        conv => whnf
        intro ρ
        rfl
      cases R
      · refine Spec.fn w3 [6, 7] rfl rfl (fun _ => by rw [← a2]; rfl) rfl ⟨⟨by decide, rfl, rfl, _, rfl, fun _ => rfl, Nat.le_refl _, fun _ => Nat.le_refl _, id⟩, ⟨by decide, rfl, rfl, _, rfl, fun _ => rfl, Nat.le_refl _, fun _ => Nat.le_refl _, fun h => (by cases h)⟩, trivial⟩ (fun _ _ => ⟨rfl, rfl, ⟨_, rfl, rfl, rfl⟩, rfl, trivial⟩) (fun _ _ => ?_)
        repeat' ((try (conv => whnf)); first
          | refine Spec.pure hwo rfl rfl (fun _ => rfl) ?_
          | refine Spec.pure hof rfl rfl (fun _ => rfl) ?_
          | refine Spec.pure hle rfl rfl (fun _ => rfl) ?_
          | refine Spec.pure hri rfl rfl (fun _ => rfl) ?_
          | refine Spec.pure c5 rfl rfl (fun _ => rfl) ?_
          | refine Needs.mk ⟨rfl, by kernel_rfl⟩ ?_
          | refine Needs.mk (by kernel_rfl) ?_
          | refine IfL.t rfl ?_
          | refine IfL.f rfl ?_
          | refine IfL.t hne ?_
          | refine IfL.f hne ?_
          | refine VL.op (VL.eq tabOk ?_)
          | (refine IfL.t ?hx ?_; case hx => (first | (simp [wq, wk, hqk]; done) | (simp [hD]; done) | (rw [← a3]; simp; done)))
          | (refine IfL.f ?hx ?_; case hx => (first | (simp [wq, wk, hqk]; done) | (simp [hD]; done) | (simp; done))))
        conv => whnf
        intro ρ
        rfl
      by_cases hD : X.fr < 8
      · rw [decide_eq_true hD] at w3
        refine Spec.fn w3 [6, 7] rfl rfl (fun _ => by rw [← a2]; rfl) rfl ⟨⟨by decide, rfl, rfl, _, rfl, fun _ => rfl, Nat.le_refl _, fun _ => Nat.le_refl _, id⟩, ⟨by decide, rfl, rfl, _, rfl, fun _ => rfl, Nat.le_refl _, fun _ => Nat.le_refl _, fun h => (by cases h)⟩, trivial⟩ (fun _ _ => ⟨rfl, rfl, ⟨_, rfl, rfl, rfl⟩, rfl, trivial⟩) (fun _ _ => ?_)
        repeat' ((try (conv => whnf)); first
          | refine Spec.pure hwo rfl rfl (fun _ => rfl) ?_
          | refine Spec.pure hof rfl rfl (fun _ => rfl) ?_
          | refine Spec.pure hle rfl rfl (fun _ => rfl) ?_
          | refine Spec.pure hri rfl rfl (fun _ => rfl) ?_
          | refine Spec.pure c5 rfl rfl (fun _ => rfl) ?_
          | refine Needs.mk ⟨rfl, by kernel_rfl⟩ ?_
          | refine Needs.mk (by kernel_rfl) ?_
          | refine IfL.t rfl ?_
          | refine IfL.f rfl ?_
          | refine IfL.t hne ?_
          | refine IfL.f hne ?_
          | refine VL.op (VL.eq tabOk ?_)
          | (refine IfL.t ?hx ?_; case hx => (first | (simp [wq, wk, hqk]; done) | (simp [hD]; done) | (rw [← a3]; simp; done)))
          | (refine IfL.f ?hx ?_; case hx => (first | (simp [wq, wk, hqk]; done) | (simp [hD]; done) | (simp; done))))
        conv => whnf
        intro ρ
        rfl
      · rw [decide_eq_false hD] at w3
        refine Spec.fn w3 [6, 7] rfl rfl (fun _ => by rw [← a2]; rfl) rfl ⟨⟨by decide, rfl, rfl, _, rfl, fun _ => rfl, Nat.le_refl _, fun _ => Nat.le_refl _, id⟩, ⟨by decide, rfl, rfl, _, rfl, fun _ => rfl, Nat.le_refl _, fun _ => Nat.le_refl _, fun h => (by cases h)⟩, trivial⟩ (fun _ _ => ⟨rfl, rfl, ⟨_, rfl, rfl, rfl⟩, rfl, trivial⟩) (fun _ _ => ?_)
        repeat' ((try (conv => whnf)); first
          | refine Spec.pure hwo rfl rfl (fun _ => rfl) ?_
          | refine Spec.pure hof rfl rfl (fun _ => rfl) ?_
          | refine Spec.pure hle rfl rfl (fun _ => rfl) ?_
          | refine Spec.pure hri rfl rfl (fun _ => rfl) ?_
          | refine Spec.pure c5 rfl rfl (fun _ => rfl) ?_
          | refine Needs.mk ⟨rfl, by kernel_rfl⟩ ?_
          | refine Needs.mk (by kernel_rfl) ?_
          | refine IfL.t rfl ?_
          | refine IfL.f rfl ?_
          | refine IfL.t hne ?_
          | refine IfL.f hne ?_
          | refine VL.op (VL.eq tabOk ?_)
          | (refine IfL.t ?hx ?_; case hx => (first | (simp [wq, wk, hqk]; done) | (simp [hD]; done) | (rw [← a3]; simp; done)))
          | (refine IfL.f ?hx ?_; case hx => (first | (simp [wq, wk, hqk]; done) | (simp [hD]; done) | (simp; done))))
        conv => whnf
        intro ρ
        rfl
    · rw [leaf_other hqk]
      have hne : (!decide (IntKind.wrap .u64 (q : Int) = IntKind.wrap .u64 (k : Int))) = true := by rw [wq, wk, decide_eq_false (fun g => hqk (by omega))]; rfl
      cases Lf
      · refine Spec.fn w3 [6, 7] rfl rfl (fun _ => by rw [← a2]; rfl) rfl ⟨⟨by decide, rfl, rfl, _, rfl, fun _ => rfl, Nat.le_refl _, fun _ => Nat.le_refl _, id⟩, ⟨by decide, rfl, rfl, _, rfl, fun _ => rfl, Nat.le_refl _, fun _ => Nat.le_refl _, fun h => (by cases h)⟩, trivial⟩ (fun _ _ => ⟨rfl, rfl, ⟨_, rfl, rfl, rfl⟩, rfl, trivial⟩) (fun _ _ => ?_)
        repeat' ((try (conv => whnf)); first
          | refine Spec.pure hwo rfl rfl (fun _ => rfl) ?_
          | refine Spec.pure hof rfl rfl (fun _ => rfl) ?_
          | refine Spec.pure hle rfl rfl (fun _ => rfl) ?_
          | refine Spec.pure hri rfl rfl (fun _ => rfl) ?_
          | refine Spec.pure c5 rfl rfl (fun _ => rfl) ?_
          | refine Needs.mk ⟨rfl, by kernel_rfl⟩ ?_
          | refine Needs.mk (by kernel_rfl) ?_
          | refine IfL.t rfl ?_
          | refine IfL.f rfl ?_
          | refine IfL.t hne ?_
          | refine IfL.f hne ?_
          | refine VL.op (VL.eq tabOk ?_)
          | (refine IfL.t ?hx ?_; case hx => (first | (simp [wq, wk, hqk]; done) | (simp [hD]; done) | (rw [← a3]; simp; done)))
          | (refine IfL.f ?hx ?_; case hx => (first | (simp [wq, wk, hqk]; done) | (simp [hD]; done) | (simp; done))))
        conv => whnf
        intro ρ
        rfl
      cases R
      · refine Spec.fn w3 [6, 7] rfl rfl (fun _ => by rw [← a2]; rfl) rfl ⟨⟨by decide, rfl, rfl, _, rfl, fun _ => rfl, Nat.le_refl _, fun _ => Nat.le_refl _, id⟩, ⟨by decide, rfl, rfl, _, rfl, fun _ => rfl, Nat.le_refl _, fun _ => Nat.le_refl _, fun h => (by cases h)⟩, trivial⟩ (fun _ _ => ⟨rfl, rfl, ⟨_, rfl, rfl, rfl⟩, rfl, trivial⟩) (fun _ _ => ?_)
        repeat' ((try (conv => whnf)); first
          | refine Spec.pure hwo rfl rfl (fun _ => rfl) ?_
          | refine Spec.pure hof rfl rfl (fun _ => rfl) ?_
          | refine Spec.pure hle rfl rfl (fun _ => rfl) ?_
          | refine Spec.pure hri rfl rfl (fun _ => rfl) ?_
          | refine Spec.pure c5 rfl rfl (fun _ => rfl) ?_
          | refine Needs.mk ⟨rfl, by kernel_rfl⟩ ?_
          | refine Needs.mk (by kernel_rfl) ?_
          | refine IfL.t rfl ?_
          | refine IfL.f rfl ?_
          | refine IfL.t hne ?_
          | refine IfL.f hne ?_
          | refine VL.op (VL.eq tabOk ?_)
          | (refine IfL.t ?hx ?_; case hx => (first | (simp [wq, wk, hqk]; done) | (simp [hD]; done) | (rw [← a3]; simp; done)))
          | (refine IfL.f ?hx ?_; case hx => (first | (simp [wq, wk, hqk]; done) | (simp [hD]; done) | (simp; done))))
        conv => whnf
        intro ρ
        rfl
      by_cases hD : X.fr < 8
      · rw [decide_eq_true hD] at w3
        refine Spec.fn w3 [6, 7] rfl rfl (fun _ => by rw [← a2]; rfl) rfl ⟨⟨by decide, rfl, rfl, _, rfl, fun _ => rfl, Nat.le_refl _, fun _ => Nat.le_refl _, id⟩, ⟨by decide, rfl, rfl, _, rfl, fun _ => rfl, Nat.le_refl _, fun _ => Nat.le_refl _, fun h => (by cases h)⟩, trivial⟩ (fun _ _ => ⟨rfl, rfl, ⟨_, rfl, rfl, rfl⟩, rfl, trivial⟩) (fun _ _ => ?_)
        repeat' ((try (conv => whnf)); first
          | refine Spec.pure hwo rfl rfl (fun _ => rfl) ?_
          | refine Spec.pure hof rfl rfl (fun _ => rfl) ?_
          | refine Spec.pure hle rfl rfl (fun _ => rfl) ?_
          | refine Spec.pure hri rfl rfl (fun _ => rfl) ?_
          | refine Spec.pure c5 rfl rfl (fun _ => rfl) ?_
          | refine Needs.mk ⟨rfl, by kernel_rfl⟩ ?_
          | refine Needs.mk (by kernel_rfl) ?_
          | refine IfL.t rfl ?_
          | refine IfL.f rfl ?_
          | refine IfL.t hne ?_
          | refine IfL.f hne ?_
          | refine VL.op (VL.eq tabOk ?_)
          | (refine IfL.t ?hx ?_; case hx => (first | (simp [wq, wk, hqk]; done) | (simp [hD]; done) | (rw [← a3]; simp; done)))
          | (refine IfL.f ?hx ?_; case hx => (first | (simp [wq, wk, hqk]; done) | (simp [hD]; done) | (simp; done))))
        conv => whnf
        intro ρ
        rfl
      · rw [decide_eq_false hD] at w3
        refine Spec.fn w3 [6, 7] rfl rfl (fun _ => by rw [← a2]; rfl) rfl ⟨⟨by decide, rfl, rfl, _, rfl, fun _ => rfl, Nat.le_refl _, fun _ => Nat.le_refl _, id⟩, ⟨by decide, rfl, rfl, _, rfl, fun _ => rfl, Nat.le_refl _, fun _ => Nat.le_refl _, fun h => (by cases h)⟩, trivial⟩ (fun _ _ => ⟨rfl, rfl, ⟨_, rfl, rfl, rfl⟩, rfl, trivial⟩) (fun _ _ => ?_)
        repeat' ((try (conv => whnf)); first
          | refine Spec.pure hwo rfl rfl (fun _ => rfl) ?_
          | refine Spec.pure hof rfl rfl (fun _ => rfl) ?_
          | refine Spec.pure hle rfl rfl (fun _ => rfl) ?_
          | refine Spec.pure hri rfl rfl (fun _ => rfl) ?_
          | refine Spec.pure c5 rfl rfl (fun _ => rfl) ?_
          | refine Needs.mk ⟨rfl, by kernel_rfl⟩ ?_
          | refine Needs.mk (by kernel_rfl) ?_
          | refine IfL.t rfl ?_
          | refine IfL.f rfl ?_
          | refine IfL.t hne ?_
          | refine IfL.f hne ?_
          | refine VL.op (VL.eq tabOk ?_)
          | (refine IfL.t ?hx ?_; case hx => (first | (simp [wq, wk, hqk]; done) | (simp [hD]; done) | (rw [← a3]; simp; done)))
          | (refine IfL.f ?hx ?_; case hx => (first | (simp [wq, wk, hqk]; done) | (simp [hD]; done) | (simp; done))))
        conv => whnf
        intro ρ
        rfl
end Go.Sh.Ythpalblfkpmpeaa
