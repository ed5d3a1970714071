import Derived.Test.YtmfpndffepjcpaaC11e
set_option linter.unusedVariables false
namespace Go.Sh.Ytmfpndffepjcpaa
open Go.Proofs Go.Sh

theorem refdrop_ok (R : List RL) (b0 : Bool) (c0 : Nat) (a n : Int) (hR : R.length ≤ 1000000) : Fun Try.prog 14 [.slz b0 0 0 R.length c0, .int .u64 a, .int .u64 n] [(0, .view (refV R))] 1 1 (okS (R.filter (keepP a n)).length) (fun x => .slz x.1 1 0 (R.filter (keepP a n)).length x.2) (fun x => [(1, .row (refV (R.filter (keepP a n))))]) := by
  unfold Fun
  refine Spec.of_body tabOk Try.func14 rfl (ent Try.func14 rfl (by kernel_rfl)) Try.ntmps14 rfl (by kernel_rfl) (Nat.le_of_ble_eq_true rfl) ?_
  conv => whnf
  refine CodeL.loopG tabOk 2 (by decide) (fun x : Nat × Bool × Nat => ([(0, .slz b0 0 0 R.length c0), (1, .int .u64 a), (2, .int .u64 n), (7, .slz x.2.1 1 0 (fL (keepP a n) R x.1).length x.2.2), (8, .int .i64 (x.1 : Int))], [(0, .view (refV R)), (1, .vec (refV (fL (keepP a n) R x.1)) (x.2.2 * 3))]))
    (fun x => R.length - x.1) (fun x => x.1 ≤ R.length ∧ okS (fL (keepP a n) R x.1).length x.2) rfl (fun x => rfl) (0, true, 0) ⟨Nat.zero_le _, Nat.le_refl _, fun _ => rfl⟩ (fun i => (i, 0)) (fun _ _ => rfl) ⟨⟨⟨_, rfl, fun _ => rfl⟩, ⟨_, rfl, fun _ => rfl⟩, ⟨_, rfl, fun _ => rfl⟩, ⟨_, rfl, fun _ => rfl⟩, ⟨_, rfl, fun _ => rfl⟩, trivial⟩,
      Part.same ⟨⟨by decide, rfl, rfl, _, rfl, fun _ => rfl, Nat.le_refl _, fun _ => Nat.le_refl _, id⟩, ⟨by decide, rfl, rfl, _, rfl, fun _ => rfl, Nat.le_refl _, fun _ => Nat.le_refl _, id⟩, trivial⟩ (fun i j _ _ h => h)⟩ ?_
  rintro ⟨i, b, c⟩ ⟨hi, hc⟩
  have hi : i ≤ R.length := hi
  have hc : okS (fL (keepP a n) R i).length (b, c) := hc
  dsimp only
  have hfl := fL_len (p := keepP a n) (R := R) i
  conv => whnf
  refine ⟨fun h => ?_, fun h => ?_⟩
  · have h : i < R.length := by have := of_decide_eq_true h; omega
    obtain ⟨x, hx⟩ : ∃ x, R[i]? = some x := ⟨_, List.getElem?_eq_getElem h⟩
    conv => whnf
    refine .there i rfl (by omega) ?_
    conv => whnf
    refine .at1 (.int .u64 x.a) (i * 3 + 0) (by show 0 + i * 3 + 0 = _; omega) (refV_cell hx (by decide)) rfl ?_
    conv => whnf
    refine ⟨fun ha => ?_, fun ha => ?_⟩
    · have hk : keepP a n x = true := by simp only [keepP, ha, Bool.true_or]
      conv => whnf
      refine .there i rfl (by omega) ?_
      conv => whnf
      refine .atN (rlC x) (i * 3) (by show 0 + i * 3 = _; omega) (by show _ + 3 ≤ (refV R).length; rw [refV_len]; omega) (refV_get hx) rfl ?_
      conv => whnf
      refine OpL.bsl tabOk ?_
      conv => whnf
      refine OpL.app tabOk ?_
      conv => whnf
      refine ⟨rlV x, fun ρ => rfl, rfl, by rw [refV_len], rfl, hc.1, by omega, by show (_ + 1) * 24 ≤ 140737488355328; omega, fun b' c' hc' hb' => ?_⟩
      have hlen : (fL (keepP a n) R (i + 1)).length = (fL (keepP a n) R i).length + 1 := by rw [fL_yes hx hk]; simp
      conv => whnf
      exact ⟨(i + 1, b', c'), to1 1 3, ⟨by show i + 1 ≤ R.length; omega, by rw [hlen]; exact hc', fun h => (hb' h).2⟩, by simp only; omega, to1_low (by decide), ⟨⟨_, rfl, fun _ => rfl⟩, ⟨_, rfl, fun _ => rfl⟩, ⟨_, rfl, fun _ => rfl⟩, ⟨_, rfl, fun ρ => by rw [hlen]; rfl⟩, ⟨_, rfl, fun _ => congrArg (fun x => Value.int .i64 x) (by rw [wrap_i64' _ (by omega) (by omega)]; omega)⟩, trivial⟩,
        Part.same ⟨⟨by decide, rfl, rfl, _, rfl, fun _ => rfl, Nat.le_refl _, fun _ => Nat.le_refl _, id⟩, ⟨by decide, rfl, rfl, _, rfl, fun _ => by rw [fL_yes hx hk, refV_append]; rfl, Nat.le_refl _, fun _ => by show (refV (fL (keepP a n) R (i + 1))).length ≤ c' * 3; rw [refV_len, hlen]; exact Nat.mul_le_mul_right _ hc', id⟩, trivial⟩ (to1_inj (.inr (by decide)))⟩
    · conv => whnf
      refine .there i rfl (by omega) ?_
      conv => whnf
      refine .at1 (.int .u64 x.n) (i * 3 + 1) (by show 0 + i * 3 + 1 = _; omega) (refV_cell hx (by decide)) rfl ?_
      conv => whnf
      refine ⟨fun hb => ?_, fun hb => ?_⟩
      · have hk : keepP a n x = true := by simp only [keepP, ha, Bool.false_or]; exact hb
        conv => whnf
        refine .there i rfl (by omega) ?_
        conv => whnf
        refine .atN (rlC x) (i * 3) (by show 0 + i * 3 = _; omega) (by show _ + 3 ≤ (refV R).length; rw [refV_len]; omega) (refV_get hx) rfl ?_
        conv => whnf
        refine OpL.bsl tabOk ?_
        conv => whnf
        refine OpL.app tabOk ?_
        conv => whnf
        refine ⟨rlV x, fun ρ => rfl, rfl, by rw [refV_len], rfl, hc.1, by omega, by show (_ + 1) * 24 ≤ 140737488355328; omega, fun b' c' hc' hb' => ?_⟩
        have hlen : (fL (keepP a n) R (i + 1)).length = (fL (keepP a n) R i).length + 1 := by rw [fL_yes hx hk]; simp
        conv => whnf
        exact ⟨(i + 1, b', c'), to1 1 3, ⟨by show i + 1 ≤ R.length; omega, by rw [hlen]; exact hc', fun h => (hb' h).2⟩, by simp only; omega, to1_low (by decide), ⟨⟨_, rfl, fun _ => rfl⟩, ⟨_, rfl, fun _ => rfl⟩, ⟨_, rfl, fun _ => rfl⟩, ⟨_, rfl, fun ρ => by rw [hlen]; rfl⟩, ⟨_, rfl, fun _ => congrArg (fun x => Value.int .i64 x) (by rw [wrap_i64' _ (by omega) (by omega)]; omega)⟩, trivial⟩,
          Part.same ⟨⟨by decide, rfl, rfl, _, rfl, fun _ => rfl, Nat.le_refl _, fun _ => Nat.le_refl _, id⟩, ⟨by decide, rfl, rfl, _, rfl, fun _ => by rw [fL_yes hx hk, refV_append]; rfl, Nat.le_refl _, fun _ => by show (refV (fL (keepP a n) R (i + 1))).length ≤ c' * 3; rw [refV_len, hlen]; exact Nat.mul_le_mul_right _ hc', id⟩, trivial⟩ (to1_inj (.inr (by decide)))⟩
      · have hk : keepP a n x = false := by simp only [keepP, ha, Bool.false_or]; exact hb
        conv => whnf
        exact ⟨(i + 1, b, c), to1 1 1, ⟨by show i + 1 ≤ R.length; omega, by rw [fL_no hx hk]; exact hc⟩, by simp only; omega, to1_low (by decide), ⟨⟨_, rfl, fun _ => rfl⟩, ⟨_, rfl, fun _ => rfl⟩, ⟨_, rfl, fun _ => rfl⟩, ⟨_, rfl, fun ρ => by rw [fL_no hx hk]; rfl⟩, ⟨_, rfl, fun _ => congrArg (fun x => Value.int .i64 x) (by rw [wrap_i64' _ (by omega) (by omega)]; omega)⟩, trivial⟩,
          Part.same ⟨⟨by decide, rfl, rfl, _, rfl, fun _ => rfl, Nat.le_refl _, fun _ => Nat.le_refl _, id⟩, ⟨by decide, rfl, rfl, _, rfl, fun _ => by rw [fL_no hx hk]; rfl, Nat.le_refl _, fun _ => by rw [fL_no hx hk]; show (refV (fL (keepP a n) R i)).length ≤ c * 3; rw [refV_len]; exact Nat.mul_le_mul_right _ hc.1, id⟩, trivial⟩ (to1_inj (.inl rfl))⟩
  · have h : i = R.length := by have := of_decide_eq_false h; omega
    subst h
    rw [fL_all] at hc
    conv => whnf
    exact ⟨(b, c), fun i => (i, 0), hc, fun _ _ => rfl, Part.same ⟨⟨by decide, rfl, rfl, _, rfl, fun _ => by show refV _ = refV (fL _ R R.length); rw [fL_all], by show (refV (R.filter (keepP a n))).length ≤ c * 3; rw [refV_len]; exact Nat.mul_le_mul_right _ hc.1, fun _ => Nat.le_refl _, id⟩, trivial⟩ (fun i j _ _ h => h), fun ρ => by rw [fL_all]; rfl⟩
theorem refflush_ok (R : List RL) (b0 : Bool) (c0 : Nat) (a : Int) (hR : R.length ≤ 1000000) : Fun Try.prog 16 [.slz b0 0 0 R.length c0, .int .u64 a] [(0, .view (refV R))] 1 1 (okS (R.filter (keepA a)).length) (fun x => .slz x.1 1 0 (R.filter (keepA a)).length x.2) (fun x => [(1, .row (refV (R.filter (keepA a))))]) := by
  unfold Fun
  refine Spec.of_body tabOk Try.func16 rfl (ent Try.func16 rfl (by kernel_rfl)) Try.ntmps16 rfl (by kernel_rfl) (Nat.le_of_ble_eq_true rfl) ?_
  conv => whnf
  refine CodeL.loopG tabOk 2 (by decide) (fun x : Nat × Bool × Nat => ([(0, .slz b0 0 0 R.length c0), (1, .int .u64 a), (5, .slz x.2.1 1 0 (fL (keepA a) R x.1).length x.2.2), (6, .int .i64 (x.1 : Int))], [(0, .view (refV R)), (1, .vec (refV (fL (keepA a) R x.1)) (x.2.2 * 3))]))
    (fun x => R.length - x.1) (fun x => x.1 ≤ R.length ∧ okS (fL (keepA a) R x.1).length x.2) rfl (fun x => rfl) (0, true, 0) ⟨Nat.zero_le _, Nat.le_refl _, fun _ => rfl⟩ (fun i => (i, 0)) (fun _ _ => rfl) ⟨⟨⟨_, rfl, fun _ => rfl⟩, ⟨_, rfl, fun _ => rfl⟩, ⟨_, rfl, fun _ => rfl⟩, ⟨_, rfl, fun _ => rfl⟩, trivial⟩,
      Part.same ⟨⟨by decide, rfl, rfl, _, rfl, fun _ => rfl, Nat.le_refl _, fun _ => Nat.le_refl _, id⟩, ⟨by decide, rfl, rfl, _, rfl, fun _ => rfl, Nat.le_refl _, fun _ => Nat.le_refl _, id⟩, trivial⟩ (fun i j _ _ h => h)⟩ ?_
  rintro ⟨i, b, c⟩ ⟨hi, hc⟩
  have hi : i ≤ R.length := hi
  have hc : okS (fL (keepA a) R i).length (b, c) := hc
  dsimp only
  have hfl := fL_len (p := keepA a) (R := R) i
  conv => whnf
  refine ⟨fun h => ?_, fun h => ?_⟩
  · have h : i < R.length := by have := of_decide_eq_true h; omega
    obtain ⟨x, hx⟩ : ∃ x, R[i]? = some x := ⟨_, List.getElem?_eq_getElem h⟩
    conv => whnf
    refine .there i rfl (by omega) ?_
    conv => whnf
    refine .at1 (.int .u64 x.a) (i * 3 + 0) (by show 0 + i * 3 + 0 = _; omega) (refV_cell hx (by decide)) rfl ?_
    conv => whnf
    refine ⟨fun hk => ?_, fun hk => ?_⟩
    · conv => whnf
      refine .there i rfl (by omega) ?_
      conv => whnf
      refine .atN (rlC x) (i * 3) (by show 0 + i * 3 = _; omega) (by show _ + 3 ≤ (refV R).length; rw [refV_len]; omega) (refV_get hx) rfl ?_
      conv => whnf
      refine OpL.bsl tabOk ?_
      conv => whnf
      refine OpL.app tabOk ?_
      conv => whnf
      refine ⟨rlV x, fun ρ => rfl, rfl, by rw [refV_len], rfl, hc.1, by omega, by show (_ + 1) * 24 ≤ 140737488355328; omega, fun b' c' hc' hb' => ?_⟩
      have hlen : (fL (keepA a) R (i + 1)).length = (fL (keepA a) R i).length + 1 := by rw [fL_yes hx (show keepA a x = true from hk)]; simp
      conv => whnf
      exact ⟨(i + 1, b', c'), to1 1 3, ⟨by show i + 1 ≤ R.length; omega, by rw [hlen]; exact hc', fun h => (hb' h).2⟩, by simp only; omega, to1_low (by decide), ⟨⟨_, rfl, fun _ => rfl⟩, ⟨_, rfl, fun _ => rfl⟩, ⟨_, rfl, fun ρ => by rw [hlen]; rfl⟩, ⟨_, rfl, fun _ => congrArg (fun x => Value.int .i64 x) (by rw [wrap_i64' _ (by omega) (by omega)]; omega)⟩, trivial⟩,
        Part.same ⟨⟨by decide, rfl, rfl, _, rfl, fun _ => rfl, Nat.le_refl _, fun _ => Nat.le_refl _, id⟩, ⟨by decide, rfl, rfl, _, rfl, fun _ => by rw [fL_yes hx (show keepA a x = true from hk), refV_append]; rfl, Nat.le_refl _, fun _ => by show (refV (fL (keepA a) R (i + 1))).length ≤ c' * 3; rw [refV_len, hlen]; exact Nat.mul_le_mul_right _ hc', id⟩, trivial⟩ (to1_inj (.inr (by decide)))⟩
    · conv => whnf
      exact ⟨(i + 1, b, c), to1 1 1, ⟨by show i + 1 ≤ R.length; omega, by rw [fL_no hx (show keepA a x = false from hk)]; exact hc⟩, by simp only; omega, to1_low (by decide), ⟨⟨_, rfl, fun _ => rfl⟩, ⟨_, rfl, fun _ => rfl⟩, ⟨_, rfl, fun ρ => by rw [fL_no hx (show keepA a x = false from hk)]; rfl⟩, ⟨_, rfl, fun _ => congrArg (fun x => Value.int .i64 x) (by rw [wrap_i64' _ (by omega) (by omega)]; omega)⟩, trivial⟩,
        Part.same ⟨⟨by decide, rfl, rfl, _, rfl, fun _ => rfl, Nat.le_refl _, fun _ => Nat.le_refl _, id⟩, ⟨by decide, rfl, rfl, _, rfl, fun _ => by rw [fL_no hx (show keepA a x = false from hk)]; rfl, Nat.le_refl _, fun _ => by rw [fL_no hx (show keepA a x = false from hk)]; show (refV (fL (keepA a) R i)).length ≤ c * 3; rw [refV_len]; exact Nat.mul_le_mul_right _ hc.1, id⟩, trivial⟩ (to1_inj (.inl rfl))⟩
  · have h : i = R.length := by have := of_decide_eq_false h; omega
    subst h
    rw [fL_all] at hc
    conv => whnf
    exact ⟨(b, c), fun i => (i, 0), hc, fun _ _ => rfl, Part.same ⟨⟨by decide, rfl, rfl, _, rfl, fun _ => by show refV _ = refV (fL _ R R.length); rw [fL_all], by show (refV (R.filter (keepA a))).length ≤ c * 3; rw [refV_len]; exact Nat.mul_le_mul_right _ hc.1, fun _ => Nat.le_refl _, id⟩, trivial⟩ (fun i j _ _ h => h), fun ρ => by rw [fL_all]; rfl⟩
end Go.Sh.Ytmfpndffepjcpaa
