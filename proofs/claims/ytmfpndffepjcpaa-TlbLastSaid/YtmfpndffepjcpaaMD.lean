import Derived.Test.YtmfpndffepjcpaaMC
import Derived.Test.YtmfpndffepjcpaaML
set_option linter.unusedVariables false
namespace Go.Sh.Ytmfpndffepjcpaa
open Go.Proofs Go.Sh

theorem refdrop_ok (R : List RL) (b0 : Bool) (c0 : Nat) (a n : Int) (hR : R.length ≤ 1000000) : Fun Try.prog 14 [.slz b0 0 0 R.length c0, .int .u64 a, .int .u64 n] [(0, .view (refV R))] 1 1 (okS (R.filter (keepP a n)).length) (fun x => .slz x.1 1 0 (R.filter (keepP a n)).length x.2) (fun x => [(1, .row (refV (R.filter (keepP a n))))]) := by
  unfold Fun
  refine Spec.of_body tabOk Try.func14 rfl (ent Try.func14 rfl (by kernel_rfl)) Try.ntmps14 rfl (by kernel_rfl) (Nat.le_of_ble_eq_true rfl) ?_
  conv => whnf
  refine CodeL.loopG tabOk 2 (by decide) (fun x : Nat × Bool × Nat => ([(0, .slz b0 0 0 R.length c0), (1, .int .u64 a), (2, .int .u64 n), (7, .slz x.2.1 1 0 (fL (keepP a n) R x.1).length x.2.2), (8, .int .i64 (x.1 : Int))], [(0, .view (refV R)), (1, .vec (refV (fL (keepP a n) R x.1)) (x.2.2 * 3))]))
    (fun x => R.length - x.1) (fun x => x.1 ≤ R.length ∧ okS (fL (keepP a n) R x.1).length x.2) rfl (fun x => rfl) (0, true, 0) ⟨Nat.zero_le _, Nat.le_refl _, fun _ => rfl⟩ (fun i => (i, 0)) (fun _ _ => rfl) ⟨⟨⟨_, rfl, fun _ => rfl⟩, ⟨_, rfl, fun _ => rfl⟩, ⟨_, rfl, fun _ => rfl⟩, ⟨_, rfl, fun _ => rfl⟩, ⟨_, rfl, fun _ => rfl⟩, trivial⟩,
      Part.same ⟨⟨by decide, rfl, rfl, _, rfl, fun _ => rfl, Nat.le_refl _, fun _ => Nat.le_refl _, id⟩, ⟨by decide, rfl, rfl, _, rfl, fun _ => rfl, Nat.le_refl _, fun _ => Nat.le_refl _, id⟩, trivial⟩ (fun i j _ _ h => h)⟩ ?_
  rintro ⟨i, b, c⟩ ⟨hi, hc⟩
  have hi : i ≤ R.length := hi
  have hc : okS (fL (keepP a n) R i).length (b, c) := hc
  dsimp only
  have hfl := fL_len (p := keepP a n) (R := R) i
  conv => whnf
  refine ⟨fun h => ?_, fun h => ?_⟩
  · have h : i < R.length := by have := of_decide_eq_true h; omega
    obtain ⟨x, hx⟩ : ∃ x, R[i]? = some x := ⟨_, List.getElem?_eq_getElem h⟩
    conv => whnf
    refine .there i rfl (by omega) ?_
    conv => whnf
    refine .at1 (.int .u64 x.a) (i * 3 + 0) (by show 0 + i * 3 + 0 = _; omega) (refV_cell hx (by decide)) rfl ?_
    conv => whnf
    refine ⟨fun ha => ?_, fun ha => ?_⟩
    · have hk : keepP a n x = true := by simp only [keepP, ha, Bool.true_or]
      conv => whnf
      refine .there i rfl (by omega) ?_
      conv => whnf
      refine .atN (rlC x) (i * 3) (by show 0 + i * 3 = _; omega) (by show _ + 3 ≤ (refV R).length; rw [refV_len]; omega) (refV_get hx) rfl ?_
      conv => whnf
      refine OpL.bsl tabOk ?_
      conv => whnf
      refine OpL.app tabOk ?_
      conv => whnf
      refine ⟨rlV x, fun ρ => rfl, rfl, by rw [refV_len], rfl, hc.1, by omega, by show (_ + 1) * 24 ≤ 140737488355328; omega, fun b' c' hc' hb' => ?_⟩
      have hlen : (fL (keepP a n) R (i + 1)).length = (fL (keepP a n) R i).length + 1 := by rw [fL_yes hx hk]; simp
      conv => whnf
      exact ⟨(i + 1, b', c'), to1 1 3, ⟨by show i + 1 ≤ R.length; omega, by rw [hlen]; exact hc', fun h => (hb' h).2⟩, by simp only; omega, to1_low (by decide), ⟨⟨_, rfl, fun _ => rfl⟩, ⟨_, rfl, fun _ => rfl⟩, ⟨_, rfl, fun _ => rfl⟩, ⟨_, rfl, fun ρ => by rw [hlen]; rfl⟩, ⟨_, rfl, fun _ => congrArg (fun x => Value.int .i64 x) (by rw [wrap_i64' _ (by omega) (by omega)]; omega)⟩, trivial⟩,
        Part.same ⟨⟨by decide, rfl, rfl, _, rfl, fun _ => rfl, Nat.le_refl _, fun _ => Nat.le_refl _, id⟩, ⟨by decide, rfl, rfl, _, rfl, fun _ => by rw [fL_yes hx hk, refV_append]; rfl, Nat.le_refl _, fun _ => by show (refV (fL (keepP a n) R (i + 1))).length ≤ c' * 3; rw [refV_len, hlen]; exact Nat.mul_le_mul_right _ hc', id⟩, trivial⟩ (to1_inj (.inr (by decide)))⟩
    · conv => whnf
      refine .there i rfl (by omega) ?_
      conv => whnf
      refine .at1 (.int .u64 x.n) (i * 3 + 1) (by show 0 + i * 3 + 1 = _; omega) (refV_cell hx (by decide)) rfl ?_
      conv => whnf
      refine ⟨fun hb => ?_, fun hb => ?_⟩
      · have hk : keepP a n x = true := by simp only [keepP, ha, Bool.false_or]; exact hb
        conv => whnf
        refine .there i rfl (by omega) ?_
        conv => whnf
        refine .atN (rlC x) (i * 3) (by show 0 + i * 3 = _; omega) (by show _ + 3 ≤ (refV R).length; rw [refV_len]; omega) (refV_get hx) rfl ?_
        conv => whnf
        refine OpL.bsl tabOk ?_
        conv => whnf
        refine OpL.app tabOk ?_
        conv => whnf
        refine ⟨rlV x, fun ρ => rfl, rfl, by rw [refV_len], rfl, hc.1, by omega, by show (_ + 1) * 24 ≤ 140737488355328; omega, fun b' c' hc' hb' => ?_⟩
        have hlen : (fL (keepP a n) R (i + 1)).length = (fL (keepP a n) R i).length + 1 := by rw [fL_yes hx hk]; simp
        conv => whnf
        exact ⟨(i + 1, b', c'), to1 1 3, ⟨by show i + 1 ≤ R.length; omega, by rw [hlen]; exact hc', fun h => (hb' h).2⟩, by simp only; omega, to1_low (by decide), ⟨⟨_, rfl, fun _ => rfl⟩, ⟨_, rfl, fun _ => rfl⟩, ⟨_, rfl, fun _ => rfl⟩, ⟨_, rfl, fun ρ => by rw [hlen]; rfl⟩, ⟨_, rfl, fun _ => congrArg (fun x => Value.int .i64 x) (by rw [wrap_i64' _ (by omega) (by omega)]; omega)⟩, trivial⟩,
          Part.same ⟨⟨by decide, rfl, rfl, _, rfl, fun _ => rfl, Nat.le_refl _, fun _ => Nat.le_refl _, id⟩, ⟨by decide, rfl, rfl, _, rfl, fun _ => by rw [fL_yes hx hk, refV_append]; rfl, Nat.le_refl _, fun _ => by show (refV (fL (keepP a n) R (i + 1))).length ≤ c' * 3; rw [refV_len, hlen]; exact Nat.mul_le_mul_right _ hc', id⟩, trivial⟩ (to1_inj (.inr (by decide)))⟩
      · have hk : keepP a n x = false := by simp only [keepP, ha, Bool.false_or]; exact hb
        conv => whnf
        exact ⟨(i + 1, b, c), to1 1 1, ⟨by show i + 1 ≤ R.length; omega, by rw [fL_no hx hk]; exact hc⟩, by simp only; omega, to1_low (by decide), ⟨⟨_, rfl, fun _ => rfl⟩, ⟨_, rfl, fun _ => rfl⟩, ⟨_, rfl, fun _ => rfl⟩, ⟨_, rfl, fun ρ => by rw [fL_no hx hk]; rfl⟩, ⟨_, rfl, fun _ => congrArg (fun x => Value.int .i64 x) (by rw [wrap_i64' _ (by omega) (by omega)]; omega)⟩, trivial⟩,
          Part.same ⟨⟨by decide, rfl, rfl, _, rfl, fun _ => rfl, Nat.le_refl _, fun _ => Nat.le_refl _, id⟩, ⟨by decide, rfl, rfl, _, rfl, fun _ => by rw [fL_no hx hk]; rfl, Nat.le_refl _, fun _ => by rw [fL_no hx hk]; show (refV (fL (keepP a n) R i)).length ≤ c * 3; rw [refV_len]; exact Nat.mul_le_mul_right _ hc.1, id⟩, trivial⟩ (to1_inj (.inl rfl))⟩
  · have h : i = R.length := by have := of_decide_eq_false h; omega
    subst h
    rw [fL_all] at hc
    conv => whnf
    exact ⟨(b, c), fun i => (i, 0), hc, fun _ _ => rfl, Part.same ⟨⟨by decide, rfl, rfl, _, rfl, fun _ => by show refV _ = refV (fL _ R R.length); rw [fL_all], by show (refV (R.filter (keepP a n))).length ≤ c * 3; rw [refV_len]; exact Nat.mul_le_mul_right _ hc.1, fun _ => Nat.le_refl _, id⟩, trivial⟩ (fun i j _ _ h => h), fun ρ => by rw [fL_all]; rfl⟩
theorem refflush_ok (R : List RL) (b0 : Bool) (c0 : Nat) (a : Int) (hR : R.length ≤ 1000000) : Fun Try.prog 16 [.slz b0 0 0 R.length c0, .int .u64 a] [(0, .view (refV R))] 1 1 (okS (R.filter (keepA a)).length) (fun x => .slz x.1 1 0 (R.filter (keepA a)).length x.2) (fun x => [(1, .row (refV (R.filter (keepA a))))]) := by
  unfold Fun
  refine Spec.of_body tabOk Try.func16 rfl (ent Try.func16 rfl (by kernel_rfl)) Try.ntmps16 rfl (by kernel_rfl) (Nat.le_of_ble_eq_true rfl) ?_
  conv => whnf
  refine CodeL.loopG tabOk 2 (by decide) (fun x : Nat × Bool × Nat => ([(0, .slz b0 0 0 R.length c0), (1, .int .u64 a), (5, .slz x.2.1 1 0 (fL (keepA a) R x.1).length x.2.2), (6, .int .i64 (x.1 : Int))], [(0, .view (refV R)), (1, .vec (refV (fL (keepA a) R x.1)) (x.2.2 * 3))]))
    (fun x => R.length - x.1) (fun x => x.1 ≤ R.length ∧ okS (fL (keepA a) R x.1).length x.2) rfl (fun x => rfl) (0, true, 0) ⟨Nat.zero_le _, Nat.le_refl _, fun _ => rfl⟩ (fun i => (i, 0)) (fun _ _ => rfl) ⟨⟨⟨_, rfl, fun _ => rfl⟩, ⟨_, rfl, fun _ => rfl⟩, ⟨_, rfl, fun _ => rfl⟩, ⟨_, rfl, fun _ => rfl⟩, trivial⟩,
      Part.same ⟨⟨by decide, rfl, rfl, _, rfl, fun _ => rfl, Nat.le_refl _, fun _ => Nat.le_refl _, id⟩, ⟨by decide, rfl, rfl, _, rfl, fun _ => rfl, Nat.le_refl _, fun _ => Nat.le_refl _, id⟩, trivial⟩ (fun i j _ _ h => h)⟩ ?_
  rintro ⟨i, b, c⟩ ⟨hi, hc⟩
  have hi : i ≤ R.length := hi
  have hc : okS (fL (keepA a) R i).length (b, c) := hc
  dsimp only
  have hfl := fL_len (p := keepA a) (R := R) i
  conv => whnf
  refine ⟨fun h => ?_, fun h => ?_⟩
  · have h : i < R.length := by have := of_decide_eq_true h; omega
    obtain ⟨x, hx⟩ : ∃ x, R[i]? = some x := ⟨_, List.getElem?_eq_getElem h⟩
    conv => whnf
    refine .there i rfl (by omega) ?_
    conv => whnf
    refine .at1 (.int .u64 x.a) (i * 3 + 0) (by show 0 + i * 3 + 0 = _; omega) (refV_cell hx (by decide)) rfl ?_
    conv => whnf
    refine ⟨fun hk => ?_, fun hk => ?_⟩
    · conv => whnf
      refine .there i rfl (by omega) ?_
      conv => whnf
      refine .atN (rlC x) (i * 3) (by show 0 + i * 3 = _; omega) (by show _ + 3 ≤ (refV R).length; rw [refV_len]; omega) (refV_get hx) rfl ?_
      conv => whnf
      refine OpL.bsl tabOk ?_
      conv => whnf
      refine OpL.app tabOk ?_
      conv => whnf
      refine ⟨rlV x, fun ρ => rfl, rfl, by rw [refV_len], rfl, hc.1, by omega, by show (_ + 1) * 24 ≤ 140737488355328; omega, fun b' c' hc' hb' => ?_⟩
      have hlen : (fL (keepA a) R (i + 1)).length = (fL (keepA a) R i).length + 1 := by rw [fL_yes hx (show keepA a x = true from hk)]; simp
      conv => whnf
      exact ⟨(i + 1, b', c'), to1 1 3, ⟨by show i + 1 ≤ R.length; omega, by rw [hlen]; exact hc', fun h => (hb' h).2⟩, by simp only; omega, to1_low (by decide), ⟨⟨_, rfl, fun _ => rfl⟩, ⟨_, rfl, fun _ => rfl⟩, ⟨_, rfl, fun ρ => by rw [hlen]; rfl⟩, ⟨_, rfl, fun _ => congrArg (fun x => Value.int .i64 x) (by rw [wrap_i64' _ (by omega) (by omega)]; omega)⟩, trivial⟩,
        Part.same ⟨⟨by decide, rfl, rfl, _, rfl, fun _ => rfl, Nat.le_refl _, fun _ => Nat.le_refl _, id⟩, ⟨by decide, rfl, rfl, _, rfl, fun _ => by rw [fL_yes hx (show keepA a x = true from hk), refV_append]; rfl, Nat.le_refl _, fun _ => by show (refV (fL (keepA a) R (i + 1))).length ≤ c' * 3; rw [refV_len, hlen]; exact Nat.mul_le_mul_right _ hc', id⟩, trivial⟩ (to1_inj (.inr (by decide)))⟩
    · conv => whnf
      exact ⟨(i + 1, b, c), to1 1 1, ⟨by show i + 1 ≤ R.length; omega, by rw [fL_no hx (show keepA a x = false from hk)]; exact hc⟩, by simp only; omega, to1_low (by decide), ⟨⟨_, rfl, fun _ => rfl⟩, ⟨_, rfl, fun _ => rfl⟩, ⟨_, rfl, fun ρ => by rw [fL_no hx (show keepA a x = false from hk)]; rfl⟩, ⟨_, rfl, fun _ => congrArg (fun x => Value.int .i64 x) (by rw [wrap_i64' _ (by omega) (by omega)]; omega)⟩, trivial⟩,
        Part.same ⟨⟨by decide, rfl, rfl, _, rfl, fun _ => rfl, Nat.le_refl _, fun _ => Nat.le_refl _, id⟩, ⟨by decide, rfl, rfl, _, rfl, fun _ => by rw [fL_no hx (show keepA a x = false from hk)]; rfl, Nat.le_refl _, fun _ => by rw [fL_no hx (show keepA a x = false from hk)]; show (refV (fL (keepA a) R i)).length ≤ c * 3; rw [refV_len]; exact Nat.mul_le_mul_right _ hc.1, id⟩, trivial⟩ (to1_inj (.inl rfl))⟩
  · have h : i = R.length := by have := of_decide_eq_false h; omega
    subst h
    rw [fL_all] at hc
    conv => whnf
    exact ⟨(b, c), fun i => (i, 0), hc, fun _ _ => rfl, Part.same ⟨⟨by decide, rfl, rfl, _, rfl, fun _ => by show refV _ = refV (fL _ R R.length); rw [fL_all], by show (refV (R.filter (keepA a))).length ≤ c * 3; rw [refV_len]; exact Nat.mul_le_mul_right _ hc.1, fun _ => Nat.le_refl _, id⟩, trivial⟩ (fun i j _ _ h => h), fun ρ => by rw [fL_all]; rfl⟩
end Go.Sh.Ytmfpndffepjcpaa

set_option linter.unusedVariables false
namespace Go.Sh.Ytmfpndffepjcpaa
open Go.Proofs Go.Sh

theorem refput_ok (R : List RL) (b0 : Bool) (c0 : Nat) (l : RL) (hR : R.length ≤ 1000000) : Fun Try.prog 11 [.slz b0 0 0 R.length c0, .agg (rlC l)] [(0, .view (refV R))] 1 1 (okS (putR R l).length) (fun x => .slz x.1 1 0 (putR R l).length x.2) (fun x => [(1, .row (refV (putR R l)))]) := by
  unfold Fun
  refine Spec.of_body tabOk Try.func11 rfl (ent Try.func11 rfl (by kernel_rfl)) Try.ntmps11 rfl (by kernel_rfl) (Nat.le_of_ble_eq_true rfl) ?_
  conv => whnf
  refine Spec.fn (refdrop_ok R b0 c0 l.a l.n hR) [0] rfl rfl (fun _ => rfl) rfl ⟨⟨by decide, rfl, rfl, _, rfl, fun _ => rfl, Nat.le_refl _, fun _ => Nat.le_refl _, id⟩, trivial⟩ (fun _ _ => ⟨rfl, rfl, rfl, trivial⟩) (fun x1 hx1 => ?_)
  obtain ⟨b1, c1⟩ := x1
  have hlen1 : (R.filter (keepP l.a l.n)).length ≤ R.length := List.length_filter_le _ _
  unfold putR
  generalize R.filter (keepP l.a l.n) = R1 at hx1 hlen1 ⊢
  generalize ht : (scan (l.n.tmod 4) R1).1 = t
  conv => whnf
  refine CodeL.loop tabOk (fun i : Nat => ([(0, .slz b1 2 0 R1.length c1), (3, .ptr 1 0), (5, .int .i64 (scan (l.n.tmod 4) (R1.take i)).1.n), (6, .int .i64 (scan (l.n.tmod 4) (R1.take i)).1.first), (7, .int .i64 (scan (l.n.tmod 4) (R1.take i)).1.at_), (8, .int .i64 (i : Int))], [(1, .cells (rlC l)), (2, .row (refV R1))]))
    (fun i => R1.length - i) (fun i => i ≤ R1.length) rfl (fun i => ⟨rfl, rfl⟩) 0 (Nat.zero_le _) ⟨⟨rfl, rfl, rfl, rfl, rfl, rfl, trivial⟩, ⟨rfl, rfl, trivial⟩⟩ ?_
  intro i hi
  conv => whnf
  refine ⟨fun h => ?_, fun h => ?_⟩
  · have h : i < R1.length := by have := of_decide_eq_true h; omega
    obtain ⟨x, hx⟩ : ∃ x, R1[i]? = some x := ⟨_, List.getElem?_eq_getElem h⟩
    have e := scan_take (q := l.n.tmod 4) hx
    have hb := scan_bounds (l.n.tmod 4) (R1.take i)
    rw [List.length_take, Nat.min_eq_left hi] at hb
    simp only at hb
    obtain ⟨hb1, hb2, hb3, hb4, hb5, hb6, hb7⟩ := hb
    conv => whnf
    refine CodeL.draw tabOk Try.checked.mixed 10 (by kernel_rfl) rfl ?_
    conv => whnf
    refine .there i rfl (by omega) ?_
    conv => whnf
    refine .at1 (.int .u64 x.n) (i * 3 + 1) (by show 0 + i * 3 + 1 = _; omega) (refV_cell hx (by decide)) rfl ?_
    conv => whnf
    refine ⟨fun h1 => ?_, fun h1 => ?_⟩
    · have h1 : x.n.tmod 4 ≤ l.n.tmod 4 := of_decide_eq_true h1
      conv => whnf
      refine CodeL.draw tabOk Try.checked.mixed 10 (by kernel_rfl) rfl ?_
      conv => whnf
      refine .there i rfl (by omega) ?_
      conv => whnf
      refine .at1 (.int .u64 x.n) (i * 3 + 1) (by show 0 + i * 3 + 1 = _; omega) (refV_cell hx (by decide)) rfl ?_
      conv => whnf
      refine ⟨fun h2 => ?_, fun h2 => ?_⟩
      · have h2 : x.n.tmod 4 = l.n.tmod 4 := of_decide_eq_true h2
        conv => whnf
        refine ⟨fun h3 => ?_, fun h3 => ?_⟩
        · have h3 : (scan (l.n.tmod 4) (R1.take i)).1.first < 0 := of_decide_eq_true h3
          conv => whnf
          exact ⟨i + 1, by show i + 1 ≤ R1.length; omega, by show R1.length - (i + 1) < R1.length - i; omega, ⟨rfl, rfl, congrArg (fun x => some (SV.int .i64 x)) (by rw [e]; show _ = (if _ then _ else _); rw [if_pos h2, wrap_i64' _ (by omega) (by omega)]), congrArg (fun x => some (SV.int .i64 x)) (by rw [e]; show _ = (if _ then _ else _); rw [if_pos ⟨h2, h3⟩]), congrArg (fun x => some (SV.int .i64 x)) (by rw [e]; show _ = (if _ then _ else _); rw [if_pos h1, wrap_i64' _ (by omega) (by omega)]), congrArg (fun x => some (SV.int .i64 x)) (by rw [wrap_i64' _ (by omega) (by omega)]; omega), trivial⟩, ⟨rfl, rfl, trivial⟩⟩
        · have h3 : ¬ (scan (l.n.tmod 4) (R1.take i)).1.first < 0 := of_decide_eq_false h3
          conv => whnf
          exact ⟨i + 1, by show i + 1 ≤ R1.length; omega, by show R1.length - (i + 1) < R1.length - i; omega, ⟨rfl, rfl, congrArg (fun x => some (SV.int .i64 x)) (by rw [e]; show _ = (if _ then _ else _); rw [if_pos h2, wrap_i64' _ (by omega) (by omega)]), congrArg (fun x => some (SV.int .i64 x)) (by rw [e]; show _ = (if _ then _ else _); rw [if_neg fun g => h3 g.2]), congrArg (fun x => some (SV.int .i64 x)) (by rw [e]; show _ = (if _ then _ else _); rw [if_pos h1, wrap_i64' _ (by omega) (by omega)]), congrArg (fun x => some (SV.int .i64 x)) (by rw [wrap_i64' _ (by omega) (by omega)]; omega), trivial⟩, ⟨rfl, rfl, trivial⟩⟩
      · have h2 : ¬ x.n.tmod 4 = l.n.tmod 4 := of_decide_eq_false h2
        conv => whnf
        exact ⟨i + 1, by show i + 1 ≤ R1.length; omega, by show R1.length - (i + 1) < R1.length - i; omega, ⟨rfl, rfl, congrArg (fun x => some (SV.int .i64 x)) (by rw [e]; show _ = (if _ then _ else _); rw [if_neg h2]), congrArg (fun x => some (SV.int .i64 x)) (by rw [e]; show _ = (if _ then _ else _); rw [if_neg fun g => h2 g.1]), congrArg (fun x => some (SV.int .i64 x)) (by rw [e]; show _ = (if _ then _ else _); rw [if_pos h1, wrap_i64' _ (by omega) (by omega)]), congrArg (fun x => some (SV.int .i64 x)) (by rw [wrap_i64' _ (by omega) (by omega)]; omega), trivial⟩, ⟨rfl, rfl, trivial⟩⟩
    · have h1 : ¬ x.n.tmod 4 ≤ l.n.tmod 4 := of_decide_eq_false h1
      conv => whnf
      refine CodeL.draw tabOk Try.checked.mixed 10 (by kernel_rfl) rfl ?_
      conv => whnf
      refine .there i rfl (by omega) ?_
      conv => whnf
      refine .at1 (.int .u64 x.n) (i * 3 + 1) (by show 0 + i * 3 + 1 = _; omega) (refV_cell hx (by decide)) rfl ?_
      conv => whnf
      refine ⟨fun h2 => ?_, fun h2 => ?_⟩
      · have h2 : x.n.tmod 4 = l.n.tmod 4 := of_decide_eq_true h2
        conv => whnf
        refine ⟨fun h3 => ?_, fun h3 => ?_⟩
        · have h3 : (scan (l.n.tmod 4) (R1.take i)).1.first < 0 := of_decide_eq_true h3
          conv => whnf
          exact ⟨i + 1, by show i + 1 ≤ R1.length; omega, by show R1.length - (i + 1) < R1.length - i; omega, ⟨rfl, rfl, congrArg (fun x => some (SV.int .i64 x)) (by rw [e]; show _ = (if _ then _ else _); rw [if_pos h2, wrap_i64' _ (by omega) (by omega)]), congrArg (fun x => some (SV.int .i64 x)) (by rw [e]; show _ = (if _ then _ else _); rw [if_pos ⟨h2, h3⟩]), congrArg (fun x => some (SV.int .i64 x)) (by rw [e]; show _ = (if _ then _ else _); rw [if_neg h1]), congrArg (fun x => some (SV.int .i64 x)) (by rw [wrap_i64' _ (by omega) (by omega)]; omega), trivial⟩, ⟨rfl, rfl, trivial⟩⟩
        · have h3 : ¬ (scan (l.n.tmod 4) (R1.take i)).1.first < 0 := of_decide_eq_false h3
          conv => whnf
          exact ⟨i + 1, by show i + 1 ≤ R1.length; omega, by show R1.length - (i + 1) < R1.length - i; omega, ⟨rfl, rfl, congrArg (fun x => some (SV.int .i64 x)) (by rw [e]; show _ = (if _ then _ else _); rw [if_pos h2, wrap_i64' _ (by omega) (by omega)]), congrArg (fun x => some (SV.int .i64 x)) (by rw [e]; show _ = (if _ then _ else _); rw [if_neg fun g => h3 g.2]), congrArg (fun x => some (SV.int .i64 x)) (by rw [e]; show _ = (if _ then _ else _); rw [if_neg h1]), congrArg (fun x => some (SV.int .i64 x)) (by rw [wrap_i64' _ (by omega) (by omega)]; omega), trivial⟩, ⟨rfl, rfl, trivial⟩⟩
      · have h2 : ¬ x.n.tmod 4 = l.n.tmod 4 := of_decide_eq_false h2
        conv => whnf
        exact ⟨i + 1, by show i + 1 ≤ R1.length; omega, by show R1.length - (i + 1) < R1.length - i; omega, ⟨rfl, rfl, congrArg (fun x => some (SV.int .i64 x)) (by rw [e]; show _ = (if _ then _ else _); rw [if_neg h2]), congrArg (fun x => some (SV.int .i64 x)) (by rw [e]; show _ = (if _ then _ else _); rw [if_neg fun g => h2 g.1]), congrArg (fun x => some (SV.int .i64 x)) (by rw [e]; show _ = (if _ then _ else _); rw [if_neg h1]), congrArg (fun x => some (SV.int .i64 x)) (by rw [wrap_i64' _ (by omega) (by omega)]; omega), trivial⟩, ⟨rfl, rfl, trivial⟩⟩
  · have h : i = R1.length := by have := of_decide_eq_false h; omega
    subst h
    rw [List.take_length, ht]
    have hb := scan_bounds (l.n.tmod 4) R1
    rw [ht] at hb
    obtain ⟨n, first, at_⟩ := t
    simp only at hb
    obtain ⟨hb1, hb2, hb3, hb4, hb5, hb6, hb7⟩ := hb
    obtain ⟨k, rfl⟩ : ∃ k : Nat, at_ = k := ⟨at_.toNat, by omega⟩
    simp only [putT, putO, Int.toNat_natCast]
    have hout : (R1.take k ++ [l] ++ R1.drop k).length = R1.length + 1 := by simp; omega
    have e1 : refV (R1.take k) ++ rlV l ++ refV (R1.drop k) = refV (R1.take k ++ [l] ++ R1.drop k) := by rw [refV_append, refV_append]; simp [refV]
    conv => whnf
    refine CodeL.cut 4 (by decide) (fun x : Bool × Nat => ([(5, .int .i64 n), (6, .int .i64 first), (9, .slz x.1 3 0 (R1.length + 1) x.2)], [(3, .row (refV (R1.take k ++ [l] ++ R1.drop k)))])) (okS (R1.length + 1)) (fun x => rfl) ?_ (fun x hx => ?_)
    · refine CodeL.any tabOk Try.checked.mixed [(1, .cells (rlC l)), (2, .row (refV R1))] (.take 1 (.take 2 (.take 3 (.take 5 (.take 8 (.take 9 (.take 10 (.alt 0 (.alt 4 (.alt 6 (.alt 7 (.alt 11 (.take 12 (.fin)) .stop) .stop) .stop) (.alt 6 (.alt 4 (.alt 7 (.alt 11 (.take 12 (.fin)) .stop) .stop) .stop) .stop)) (.alt 6 (.alt 0 (.alt 4 (.alt 7 (.alt 11 (.take 12 (.fin)) .stop) .stop) .stop) .stop) .stop))))))))) (by kernel_rfl) rfl ⟨rfl, rfl, trivial⟩ rfl ?_
      conv => whnf
      refine VL.slice tabOk ?_
      conv => whnf
      refine ⟨fun h => hx1.2 h, 0, k, c1, rfl, rfl, rfl, rfl, Nat.zero_le _, by have := hx1.1; omega, Nat.le_refl _, ?_⟩
      conv => whnf
      refine VL.slice tabOk ?_
      conv => whnf
      refine ⟨fun h => hx1.2 h, k, R1.length, c1, rfl, rfl, rfl, rfl, by omega, hx1.1, Nat.le_refl _, ?_⟩
      conv => whnf
      refine ⟨?_, ?_⟩
      · refine OpL.bsl0 tabOk ?_
        conv => whnf
        refine ⟨⟨rfl, rfl, trivial⟩, ?_⟩
        conv => whnf
        refine ⟨?_, ?_⟩
        · refine OpL.app tabOk ?_
          conv => whnf
          refine ⟨refV (R1.take k), fun ρ => refV_head, by rw [refV_len, List.length_take, Nat.sub_zero, Nat.min_eq_left (by omega)], rfl, rfl, Nat.le_refl _, by omega, by show _ * 24 ≤ 140737488355328; omega, fun b4 c4 hc4 hb4 => ?_⟩
          conv => whnf
          refine ⟨⟨rfl, rfl, trivial⟩, ?_⟩
          conv => whnf
          refine OpL.bsl tabOk ?_
          conv => whnf
          refine ⟨⟨rfl, rfl, trivial⟩, ?_⟩
          conv => whnf
          refine OpL.app tabOk ?_
          conv => whnf
          refine ⟨rlV l, fun ρ => rfl, rfl, by show ([] ++ refV (R1.take k)).length = _; rw [List.nil_append, refV_len, List.length_take, Nat.min_eq_left (by omega), Nat.zero_add, Nat.sub_zero], rfl, hc4, by omega, by show _ * 24 ≤ 140737488355328; omega, fun b7 c7 hc7 hb7 => ?_⟩
          conv => whnf
          refine ⟨⟨rfl, rfl, trivial⟩, ?_⟩
          conv => whnf
          refine OpL.app tabOk ?_
          conv => whnf
          refine ⟨refV (R1.drop k), fun ρ => refV_tail (by omega) hx1.1, by rw [refV_len, List.length_drop], by show ([] ++ refV (R1.take k) ++ rlV l).length = _; rw [List.nil_append, List.length_append, refV_len, List.length_take, Nat.min_eq_left (by omega), Nat.zero_add, Nat.sub_zero]; show _ + 3 = (k + 1) * 3; omega, rfl, hc7, by omega, by show _ * 24 ≤ 140737488355328; omega, fun b' c' hc' hb' => ?_⟩
          conv => whnf
          refine ⟨⟨rfl, rfl, trivial⟩, ?_⟩
          conv => whnf
          have hl : 0 + (k - 0) + 1 + (R1.length - k) = R1.length + 1 := by omega
          exact ⟨(b', c'), to1 3 7, ⟨by rw [← hl]; exact hc', fun h => (hb' h).2⟩, to1_low (by decide), ⟨⟨_, rfl, fun _ => rfl⟩, ⟨_, rfl, fun _ => rfl⟩, ⟨_, rfl, fun ρ => by rw [← hl]; rfl⟩, trivial⟩,
            Part.same ⟨⟨by decide, rfl, rfl, _, rfl, fun _ => by show refV _ = [] ++ refV (R1.take k) ++ rlV l ++ refV (R1.drop k); rw [← e1, List.nil_append], by show (refV _).length ≤ c' * 3; rw [refV_len, hout, ← hl]; exact Nat.mul_le_mul_right _ hc', fun _ => Nat.le_refl _, id⟩, trivial⟩ (to1_inj (.inr (by decide)))⟩
        · refine OpL.bsl tabOk ?_
          conv => whnf
          refine ⟨⟨rfl, rfl, trivial⟩, ?_⟩
          conv => whnf
          refine OpL.app tabOk ?_
          conv => whnf
          refine ⟨refV (R1.take k), fun ρ => refV_head, by rw [refV_len, List.length_take, Nat.sub_zero, Nat.min_eq_left (by omega)], rfl, rfl, Nat.le_refl _, by omega, by show _ * 24 ≤ 140737488355328; omega, fun b4 c4 hc4 hb4 => ?_⟩
          conv => whnf
          refine ⟨⟨rfl, rfl, trivial⟩, ?_⟩
          conv => whnf
          refine OpL.app tabOk ?_
          conv => whnf
          refine ⟨rlV l, fun ρ => rfl, rfl, by show ([] ++ refV (R1.take k)).length = _; rw [List.nil_append, refV_len, List.length_take, Nat.min_eq_left (by omega), Nat.zero_add, Nat.sub_zero], rfl, hc4, by omega, by show _ * 24 ≤ 140737488355328; omega, fun b7 c7 hc7 hb7 => ?_⟩
          conv => whnf
          refine ⟨⟨rfl, rfl, trivial⟩, ?_⟩
          conv => whnf
          refine OpL.app tabOk ?_
          conv => whnf
          refine ⟨refV (R1.drop k), fun ρ => refV_tail (by omega) hx1.1, by rw [refV_len, List.length_drop], by show ([] ++ refV (R1.take k) ++ rlV l).length = _; rw [List.nil_append, List.length_append, refV_len, List.length_take, Nat.min_eq_left (by omega), Nat.zero_add, Nat.sub_zero]; show _ + 3 = (k + 1) * 3; omega, rfl, hc7, by omega, by show _ * 24 ≤ 140737488355328; omega, fun b' c' hc' hb' => ?_⟩
          conv => whnf
          refine ⟨⟨rfl, rfl, trivial⟩, ?_⟩
          conv => whnf
          have hl : 0 + (k - 0) + 1 + (R1.length - k) = R1.length + 1 := by omega
          exact ⟨(b', c'), to1 3 7, ⟨by rw [← hl]; exact hc', fun h => (hb' h).2⟩, to1_low (by decide), ⟨⟨_, rfl, fun _ => rfl⟩, ⟨_, rfl, fun _ => rfl⟩, ⟨_, rfl, fun ρ => by rw [← hl]; rfl⟩, trivial⟩,
            Part.same ⟨⟨by decide, rfl, rfl, _, rfl, fun _ => by show refV _ = [] ++ refV (R1.take k) ++ rlV l ++ refV (R1.drop k); rw [← e1, List.nil_append], by show (refV _).length ≤ c' * 3; rw [refV_len, hout, ← hl]; exact Nat.mul_le_mul_right _ hc', fun _ => Nat.le_refl _, id⟩, trivial⟩ (to1_inj (.inr (by decide)))⟩
      · refine OpL.bsl tabOk ?_
        conv => whnf
        refine ⟨⟨rfl, rfl, trivial⟩, ?_⟩
        conv => whnf
        refine OpL.bsl0 tabOk ?_
        conv => whnf
        refine ⟨⟨rfl, rfl, trivial⟩, ?_⟩
        conv => whnf
        refine OpL.app tabOk ?_
        conv => whnf
        refine ⟨refV (R1.take k), fun ρ => refV_head, by rw [refV_len, List.length_take, Nat.sub_zero, Nat.min_eq_left (by omega)], rfl, rfl, Nat.le_refl _, by omega, by show _ * 24 ≤ 140737488355328; omega, fun b4 c4 hc4 hb4 => ?_⟩
        conv => whnf
        refine ⟨⟨rfl, rfl, trivial⟩, ?_⟩
        conv => whnf
        refine OpL.app tabOk ?_
        conv => whnf
        refine ⟨rlV l, fun ρ => rfl, rfl, by show ([] ++ refV (R1.take k)).length = _; rw [List.nil_append, refV_len, List.length_take, Nat.min_eq_left (by omega), Nat.zero_add, Nat.sub_zero], rfl, hc4, by omega, by show _ * 24 ≤ 140737488355328; omega, fun b7 c7 hc7 hb7 => ?_⟩
        conv => whnf
        refine ⟨⟨rfl, rfl, trivial⟩, ?_⟩
        conv => whnf
        refine OpL.app tabOk ?_
        conv => whnf
        refine ⟨refV (R1.drop k), fun ρ => refV_tail (by omega) hx1.1, by rw [refV_len, List.length_drop], by show ([] ++ refV (R1.take k) ++ rlV l).length = _; rw [List.nil_append, List.length_append, refV_len, List.length_take, Nat.min_eq_left (by omega), Nat.zero_add, Nat.sub_zero]; show _ + 3 = (k + 1) * 3; omega, rfl, hc7, by omega, by show _ * 24 ≤ 140737488355328; omega, fun b' c' hc' hb' => ?_⟩
        conv => whnf
        refine ⟨⟨rfl, rfl, trivial⟩, ?_⟩
        conv => whnf
        have hl : 0 + (k - 0) + 1 + (R1.length - k) = R1.length + 1 := by omega
        exact ⟨(b', c'), to1 3 7, ⟨by rw [← hl]; exact hc', fun h => (hb' h).2⟩, to1_low (by decide), ⟨⟨_, rfl, fun _ => rfl⟩, ⟨_, rfl, fun _ => rfl⟩, ⟨_, rfl, fun ρ => by rw [← hl]; rfl⟩, trivial⟩,
          Part.same ⟨⟨by decide, rfl, rfl, _, rfl, fun _ => by show refV _ = [] ++ refV (R1.take k) ++ rlV l ++ refV (R1.drop k); rw [← e1, List.nil_append], by show (refV _).length ≤ c' * 3; rw [refV_len, hout, ← hl]; exact Nat.mul_le_mul_right _ hc', fun _ => Nat.le_refl _, id⟩, trivial⟩ (to1_inj (.inr (by decide)))⟩
    · obtain ⟨b2, c2⟩ := x
      generalize R1.take k ++ [l] ++ R1.drop k = out at hout e1
      rw [← hout]
      rw [← hout] at hx
      clear e1
      dsimp only
      conv => whnf
      refine ⟨fun h => ?_, fun h => ?_⟩
      · have h : n = 2 := of_decide_eq_true h
        obtain ⟨f, rfl⟩ : ∃ f : Nat, first = f := ⟨first.toNat, by omega⟩
        have e : out.take (f : Int).toNat ++ out.drop ((f : Int).toNat + 1) = out.take f ++ out.drop (f + 1) := by rw [Int.toNat_natCast]
        have ew : IntKind.wrap .i64 ((f : Int) + 1) = ((f + 1 : Nat) : Int) := by rw [wrap_i64' _ (by omega) (by omega)]; omega
        rw [if_pos h, e]
        conv => whnf
        refine CodeL.any tabOk Try.checked.mixed [(3, .row (refV out))] (.take 1 (.take 2 (.take 3 (.take 5 (.take 6 (.take 7 (.take 8 (.alt 0 (.alt 4 (.alt 9 (.take 10 (.fin)) .stop) .stop) .stop)))))))) (by kernel_rfl) rfl ⟨rfl, trivial⟩ rfl ?_
        conv => whnf
        refine VL.slice tabOk ?_
        conv => whnf
        refine ⟨fun h => hx.2 h, 0, f, c2, rfl, rfl, rfl, rfl, Nat.zero_le _, by have := hx.1; omega, Nat.le_refl _, ?_⟩
        conv => whnf
        refine VL.slice tabOk ?_
        conv => whnf
        refine ⟨fun h => hx.2 h, f + 1, out.length, c2, ew, rfl, rfl, rfl, by omega, hx.1, Nat.le_refl _, ?_⟩
        conv => whnf
        refine OpL.bsl0 tabOk ?_
        conv => whnf
        refine ⟨⟨rfl, trivial⟩, ?_⟩
        conv => whnf
        refine OpL.app tabOk ?_
        conv => whnf
        refine ⟨refV (out.take f), fun ρ => refV_head, by rw [refV_len, List.length_take, Nat.sub_zero, Nat.min_eq_left (by omega)], rfl, rfl, Nat.le_refl _, by omega, by show _ * 24 ≤ 140737488355328; omega, fun b4 c4 hc4 hb4 => ?_⟩
        conv => whnf
        refine ⟨⟨rfl, trivial⟩, ?_⟩
        conv => whnf
        refine OpL.app tabOk ?_
        conv => whnf
        refine ⟨refV (out.drop (f + 1)), fun ρ => refV_tail (by omega) hx.1, by rw [refV_len, List.length_drop], by show ([] ++ refV (out.take f)).length = _; rw [List.nil_append, refV_len, List.length_take, Nat.min_eq_left (by omega), Nat.zero_add, Nat.sub_zero], rfl, hc4, by omega, by show _ * 24 ≤ 140737488355328; omega, fun b' c' hc' hb' => ?_⟩
        conv => whnf
        refine ⟨⟨rfl, trivial⟩, ?_⟩
        conv => whnf
        have hl : 0 + (f - 0) + (out.length - (f + 1)) = (out.take f ++ out.drop (f + 1)).length := by simp; omega
        exact ⟨(b', c'), to1 1 6, ⟨by rw [← hl]; exact hc', fun h => (hb' h).2⟩, to1_low (by decide),
          Part.same ⟨⟨by decide, rfl, rfl, _, rfl, fun _ => by show refV _ = [] ++ refV (out.take f) ++ refV (out.drop (f + 1)); rw [refV_append, List.nil_append], by show (refV _).length ≤ c' * 3; rw [refV_len, ← hl]; exact Nat.mul_le_mul_right _ hc', fun _ => Nat.le_refl _, id⟩, trivial⟩ (to1_inj (.inr (by decide))), fun ρ => by rw [← hl]; rfl⟩
      · have h : ¬ n = 2 := of_decide_eq_false h
        rw [if_neg h]
        conv => whnf
        exact ⟨(b2, c2), to1 1 3, hx, to1_low (by decide), Part.same ⟨⟨by decide, rfl, rfl, _, rfl, fun _ => rfl, Nat.le_refl _, fun _ => Nat.le_refl _, id⟩, trivial⟩ (to1_inj (.inr (by decide))), fun ρ => rfl⟩
end Go.Sh.Ytmfpndffepjcpaa

set_option linter.unusedVariables false
namespace Go.Sh.Ytmfpndffepjcpaa
open Go.Proofs Go.Sh

theorem find_hitR {p : RL → Bool} : ∀ {L : List RL} {i : Nat} {x : RL}, L[i]? = some x → p x = true → (∀ k y, k < i → L[k]? = some y → p y = false) → L.find? p = some x
  | [], i, x, h, _, _ => by simp at h
  | a :: r, 0, x, h, hp, _ => by
    simp only [List.getElem?_cons_zero, Option.some.injEq] at h
    subst h; simp [hp]
  | a :: r, i + 1, x, h, hp, hk => by
    rw [List.getElem?_cons_succ] at h
    have h0 := hk 0 a (by omega) rfl
    rw [List.find?_cons, h0]
    exact find_hitR h hp fun k y hk' hy => hk (k + 1) y (by omega) (by simpa using hy)
theorem find_missR {p : RL → Bool} {L : List RL} (h : ∀ k y, k < L.length → L[k]? = some y → p y = false) : L.find? p = none := by
  rw [List.find?_eq_none]
  intro x hx
  obtain ⟨k, hk⟩ := List.mem_iff_getElem?.1 hx
  have := h k x (List.getElem?_eq_some_iff.1 hk).1 hk
  simp [this]
def lookRL : Option RL → SV
  | some x => .tup [.agg (rlC x), .tt]
  | none => .tup [.agg (rlC ⟨0, 0, 0⟩), .ff]
theorem reflook_ok (R : List RL) (b0 : Bool) (c0 : Nat) (a n : Int) (hR : R.length ≤ 1000000) : Spec Try.prog 12 [.slz b0 0 0 R.length c0, .int .u64 a, .int .u64 n] [(0, .view (refV R))] 1 fun v _ _ => ∀ ρ, v.val ρ = (lookRL (R.find? (atP a n))).val ρ := by
  refine Spec.of_body tabOk Try.func12 rfl (ent Try.func12 rfl (by kernel_rfl)) Try.ntmps12 rfl (by kernel_rfl) (Nat.le_of_ble_eq_true rfl) ?_
  conv => whnf
  refine CodeL.loop tabOk (fun i : Nat => ([(0, .slz b0 0 0 R.length c0), (1, .int .u64 a), (2, .int .u64 n), (6, .ptr 1 0), (7, .ff), (8, .int .i64 (i : Int))], [(0, .view (refV R)), (1, .cells [.int .u64 0, .int .u64 0, .int .u64 0])]))
    (fun i => R.length - i) (fun i => i ≤ R.length ∧ ∀ k y, k < i → R[k]? = some y → atP a n y = false) rfl (fun i => ⟨rfl, rfl⟩) 0 ⟨Nat.zero_le _, fun k y hk => absurd hk (Nat.not_lt_zero _)⟩ ⟨⟨rfl, rfl, rfl, rfl, rfl, rfl, trivial⟩, ⟨rfl, rfl, trivial⟩⟩ ?_
  rintro i ⟨hi, hno⟩
  conv => whnf
  refine ⟨fun h => ?_, fun h => ?_⟩
  · have h : i < R.length := by have := of_decide_eq_true h; omega
    obtain ⟨x, hx⟩ : ∃ x, R[i]? = some x := ⟨_, List.getElem?_eq_getElem h⟩
    conv => whnf
    refine .there i rfl (by omega) ?_
    conv => whnf
    refine .at1 (.int .u64 x.a) (i * 3 + 0) (by show 0 + i * 3 + 0 = _; omega) (refV_cell hx (by decide)) rfl ?_
    conv => whnf
    refine ⟨fun ha => ?_, fun ha => ?_⟩
    · conv => whnf
      refine .there i rfl (by omega) ?_
      conv => whnf
      refine .at1 (.int .u64 x.n) (i * 3 + 1) (by show 0 + i * 3 + 1 = _; omega) (refV_cell hx (by decide)) rfl ?_
      conv => whnf
      refine ⟨fun hb => ?_, fun hb => ?_⟩
      · conv => whnf
        refine .there i rfl (by omega) ?_
        conv => whnf
        refine .atN (rlC x) (i * 3) (by show 0 + i * 3 = _; omega) (by show _ + 3 ≤ (refV R).length; rw [refV_len]; omega) (refV_get hx) rfl ?_
        conv => whnf
        intro ρ
        rw [find_hitR hx (by simp only [atP, ha, hb, Bool.and_self]) hno]
        rfl
      · conv => whnf
        exact ⟨i + 1, ⟨by omega, fun k y hk hy => by
          by_cases e : k = i
          · subst e; rw [hx] at hy; injection hy with hy; subst hy; simp only [atP, hb, Bool.and_false]
          · exact hno k y (by omega) hy⟩, by omega, ⟨rfl, rfl, rfl, rfl, rfl, congrArg (fun x => some (SV.int .i64 x)) (by rw [wrap_i64' _ (by omega) (by omega)]; omega), trivial⟩, ⟨rfl, rfl, trivial⟩⟩
    · conv => whnf
      exact ⟨i + 1, ⟨by omega, fun k y hk hy => by
        by_cases e : k = i
        · subst e; rw [hx] at hy; injection hy with hy; subst hy; simp only [atP, ha, Bool.false_and]
        · exact hno k y (by omega) hy⟩, by omega, ⟨rfl, rfl, rfl, rfl, rfl, congrArg (fun x => some (SV.int .i64 x)) (by rw [wrap_i64' _ (by omega) (by omega)]; omega), trivial⟩, ⟨rfl, rfl, trivial⟩⟩
  · have h : i = R.length := by have := of_decide_eq_false h; omega
    subst h
    conv => whnf
    intro ρ
    rw [find_missR hno]
    rfl

def evI (place : Int) (n : Nat) : Nat := ((place.tmod n + n).tmod n).toNat
theorem evI_lt (place : Int) {n : Nat} (h : 0 < n) : evI place n < n ∧ (place.tmod n + n).tmod n = (evI place n : Int) ∧ -(n : Int) < place.tmod n ∧ place.tmod n < n := by
  have h1 : -(n : Int) < place.tmod n := by
    have := Int.lt_tmod_of_pos place (show (0 : Int) < n by omega); omega
  have h2 : place.tmod n < n := Int.tmod_lt_of_pos place (by omega)
  have h3 : 0 ≤ (place.tmod n + n).tmod n := Int.tmod_nonneg _ (by omega)
  have h4 : (place.tmod n + n).tmod n < n := Int.tmod_lt_of_pos _ (by omega)
  unfold evI
  omega

theorem refevict_ok (R : List RL) (b0 : Bool) (c0 : Nat) (place : Int) (hR : R.length ≤ 1000000) (h0 : 0 < R.length) (hc0 : okS R.length (b0, c0)) : Fun Try.prog 19 [.slz b0 0 0 R.length c0, .int .i64 place] [(0, .view (refV R))] 1 1 (okS (R.take (evI place R.length) ++ R.drop (evI place R.length + 1)).length) (fun x => .slz x.1 1 0 (R.take (evI place R.length) ++ R.drop (evI place R.length + 1)).length x.2) (fun x => [(1, .row (refV (R.take (evI place R.length) ++ R.drop (evI place R.length + 1))))]) := by
  obtain ⟨k1, k2, k3, k4⟩ := evI_lt place h0
  unfold Fun
  refine Spec.of_body tabOk Try.func19 rfl (ent Try.func19 rfl (by kernel_rfl)) Try.ntmps19 rfl (by kernel_rfl) (Nat.le_of_ble_eq_true rfl) ?_
  conv => whnf
  refine .f (decide_eq_false (by omega)) ?_
  conv => whnf
  refine ⟨by omega, ?_⟩
  conv => whnf
  refine ⟨by omega, ?_⟩
  conv => whnf
  rw [wrap_i64' _ (by omega) (by omega), k2]
  generalize evI place R.length = f at k1
  have ew : IntKind.wrap .i64 ((f : Int) + 1) = ((f + 1 : Nat) : Int) := by rw [wrap_i64' _ (by omega) (by omega)]; omega
  refine CodeL.any tabOk Try.checked.mixed [(0, .view (refV R))] (.take 1 (.take 2 (.take 3 (.take 5 (.take 6 (.take 7 (.take 8 (.alt 0 (.alt 4 (.alt 9 (.take 10 (.fin)) .stop) .stop) .stop)))))))) (by kernel_rfl) rfl ⟨rfl, trivial⟩ rfl ?_
  conv => whnf
  refine VL.slice tabOk ?_
  conv => whnf
  refine ⟨fun h => hc0.2 h, 0, f, c0, rfl, rfl, rfl, rfl, Nat.zero_le _, by have := hc0.1; omega, Nat.le_refl _, ?_⟩
  conv => whnf
  refine VL.slice tabOk ?_
  conv => whnf
  refine ⟨fun h => hc0.2 h, f + 1, R.length, c0, ew, rfl, rfl, rfl, by omega, hc0.1, Nat.le_refl _, ?_⟩
  conv => whnf
  refine OpL.bsl0 tabOk ?_
  conv => whnf
  refine ⟨⟨rfl, trivial⟩, ?_⟩
  conv => whnf
  refine OpL.app tabOk ?_
  conv => whnf
  refine ⟨refV (R.take f), fun ρ => refV_head, by rw [refV_len, List.length_take, Nat.sub_zero, Nat.min_eq_left (by omega)], rfl, rfl, Nat.le_refl _, by omega, by show _ * 24 ≤ 140737488355328; omega, fun b4 c4 hc4 hb4 => ?_⟩
  conv => whnf
  refine ⟨⟨rfl, trivial⟩, ?_⟩
  conv => whnf
  refine OpL.app tabOk ?_
  conv => whnf
  refine ⟨refV (R.drop (f + 1)), fun ρ => refV_tail (by omega) hc0.1, by rw [refV_len, List.length_drop], by show ([] ++ refV (R.take f)).length = _; rw [List.nil_append, refV_len, List.length_take, Nat.min_eq_left (by omega), Nat.zero_add, Nat.sub_zero], rfl, hc4, by omega, by show _ * 24 ≤ 140737488355328; omega, fun b' c' hc' hb' => ?_⟩
  conv => whnf
  refine ⟨⟨rfl, trivial⟩, ?_⟩
  conv => whnf
  have hl : 0 + (f - 0) + (R.length - (f + 1)) = (R.take f ++ R.drop (f + 1)).length := by simp; omega
  exact ⟨(b', c'), to1 1 3, ⟨by rw [← hl]; exact hc', fun h => (hb' h).2⟩, to1_low (by decide),
    Part.same ⟨⟨by decide, rfl, rfl, _, rfl, fun _ => by show refV _ = [] ++ refV (R.take f) ++ refV (R.drop (f + 1)); rw [refV_append, List.nil_append], by show (refV _).length ≤ c' * 3; rw [refV_len, ← hl]; exact Nat.mul_le_mul_right _ hc', fun _ => Nat.le_refl _, id⟩, trivial⟩ (to1_inj (.inr (by decide))), fun ρ => by rw [← hl]; rfl⟩

theorem linesV_cell {l : List Ln} {i j : Nat} {x : Ln} (h : l[i]? = some x) (hj : j < 16) : (linesV l)[i * 16 + j]? = (lnV x)[j]? := by
  rw [← linesV_get l i x h, List.getElem?_take, if_pos hj, List.getElem?_drop]

theorem same_ok (L : List Ln) (b0 b1 : Bool) (c0 c1 : Nat) (hL : L.length ≤ 1000000) : Spec Try.prog 20 [.slz b0 0 0 L.length c0, .slz b1 1 0 (L.map toRL).length c1] [(0, .view (linesV L)), (1, .view (refV (L.map toRL)))] 2 fun v _ _ => ∀ ρ, v.val ρ = SV.tt.val ρ := by
  rw [List.length_map]
  refine Spec.of_body tabOk Try.func20 rfl (ent Try.func20 rfl (by kernel_rfl)) Try.ntmps20 rfl (by kernel_rfl) (Nat.le_of_ble_eq_true rfl) ?_
  conv => whnf
  refine .f (by simp) ?_
  conv => whnf
  refine CodeL.loop tabOk (fun i : Nat => ([(0, .slz b0 0 0 L.length c0), (1, .slz b1 1 0 L.length c1), (5, .int .i64 (i : Int))], [(0, .view (linesV L)), (1, .view (refV (L.map toRL)))]))
    (fun i => L.length - i) (fun i => i ≤ L.length) rfl (fun i => ⟨rfl, rfl⟩) 0 (Nat.zero_le _) ⟨⟨rfl, rfl, rfl, trivial⟩, ⟨rfl, rfl, trivial⟩⟩ ?_
  intro i hi
  conv => whnf
  refine ⟨fun h => ?_, fun h => ?_⟩
  · have h : i < L.length := by have := of_decide_eq_true h; omega
    obtain ⟨x, hx⟩ : ∃ x, L[i]? = some x := ⟨_, List.getElem?_eq_getElem h⟩
    have hy : (L.map toRL)[i]? = some (toRL x) := by simp [hx]
    conv => whnf
    refine CodeL.draw tabOk Try.checked.mixed 22 (by kernel_rfl) rfl ?_
    conv => whnf
    refine .there i rfl (by omega) ?_
    conv => whnf
    refine .at1 (.int .u64 x.asid) (i * 16 + 0) (by show 0 + i * 16 + 0 = _; omega) (linesV_cell hx (by decide)) rfl ?_
    conv => whnf
    refine .there i rfl (by omega) ?_
    conv => whnf
    refine .at1 (.int .u64 x.num) (i * 16 + 1) (by show 0 + i * 16 + 1 = _; omega) (linesV_cell hx (by decide)) rfl ?_
    conv => whnf
    refine .there i rfl (by omega) ?_
    conv => whnf
    refine .at1 (.int .u64 x.at_) (i * 16 + 15) (by show 0 + i * 16 + 2 + 13 = _; omega) (linesV_cell hx (by decide)) rfl ?_
    conv => whnf
    refine .there i rfl (by omega) ?_
    conv => whnf
    refine .atN (rlC (toRL x)) (i * 3) (by show 0 + i * 3 = _; omega) (by show _ + 3 ≤ (refV (L.map toRL)).length; rw [refV_len, List.length_map]; omega) (refV_get hy) rfl ?_
    conv => whnf
    refine VL.qop rfl (VL.eq tabOk ?_)
    conv => whnf
    refine ⟨by kernel_rfl, ?_⟩
    conv => whnf
    refine ⟨⟨by kernel_rfl, by kernel_rfl⟩, ?_⟩
    conv => whnf
    refine .f (by simp [toRL]) ?_
    conv => whnf
    exact ⟨i + 1, by omega, by omega, ⟨rfl, rfl, congrArg (fun x => some (SV.int .i64 x)) (by rw [wrap_i64' _ (by omega) (by omega)]; omega), trivial⟩, ⟨rfl, rfl, trivial⟩⟩
  · have h : i = L.length := by have := of_decide_eq_false h; omega
    subst h
    conv => whnf
    intro ρ
    rfl

def evS (s : Nat → List Ln) (place : Int) : Nat → List Ln := match (preL s 4)[evI place (preL s 4).length]? with
  | some x => fset s (q4 x.num) ((s (q4 x.num)).filter fun y => !isP x.asid x.num y)
  | none => s
theorem evict_ok (s : Nat → List Ln) (rest : List Value) (hs : Inv s) (place : Int) : Spec Try.prog 18 [.ptr 0 0, .int .i64 place] [(0, .row (tlbC s rest))] 1 fun v H' _ => (∀ ρ, v.val ρ = (SV.tup []).val ρ) ∧ subH [(0, .row (tlbC (evS s place) rest))] H' := by
  have hl := preL_len hs.len 4
  refine Spec.of_body tabOk Try.func18 rfl (ent Try.func18 rfl (by kernel_rfl)) Try.ntmps18 rfl (by kernel_rfl) (Nat.le_of_ble_eq_true rfl) ?_
  conv => whnf
  refine Spec.fn (lines_ok s rest hs.len) [0] rfl rfl (fun _ => rfl) rfl ⟨⟨by decide, rfl, rfl, _, rfl, fun _ => rfl, Nat.le_refl _, fun _ => Nat.le_refl _, fun h => by cases h⟩, trivial⟩ (fun _ _ => ⟨rfl, rfl, rfl, trivial⟩) (fun x hx => ?_)
  conv => whnf
  refine ⟨fun h0 => ?_, fun h0 => ?_⟩
  · have h0 : (preL s 4).length = 0 := by have := of_decide_eq_true h0; omega
    have e : evS s place = s := by
      unfold evS
      rw [List.getElem?_eq_none (by omega)]
    conv => whnf
    exact ⟨fun _ => rfl, by rw [e]; rfl, trivial⟩
  · have h0 : 0 < (preL s 4).length := by have := of_decide_eq_false h0; omega
    obtain ⟨k1, k2, k3, k4⟩ := evI_lt place h0
    obtain ⟨y, hy⟩ : ∃ y, (preL s 4)[evI place (preL s 4).length]? = some y := ⟨_, List.getElem?_eq_getElem k1⟩
    have e : evS s place = fset s (q4 y.num) ((s (q4 y.num)).filter fun z => !isP y.asid y.num z) := by
      unfold evS; rw [hy]
    obtain ⟨q, hq, hyq⟩ := mem_preL.1 (List.mem_of_getElem? hy)
    conv => whnf
    refine ⟨by omega, ?_⟩
    conv => whnf
    refine ⟨by omega, ?_⟩
    conv => whnf
    rw [wrap_i64' _ (by omega) (by omega), k2]
    refine .there (evI place (preL s 4).length) rfl k1 ?_
    conv => whnf
    refine .atN (lnC y) (evI place (preL s 4).length * 16) (by show 0 + evI place (preL s 4).length * 16 = _; omega) (by show _ + 16 ≤ (linesV (preL s 4)).length; rw [linesV_len]; omega) (linesV_get _ _ _ hy) rfl ?_
    conv => whnf
    refine Spec.row (t := 0) (drop_ok s rest hs.len y.asid y.num (hs.num q y hyq).1) rfl (fun _ => rfl) rfl rfl (by rw [tlbC_len hs.len, tlbC_len (okT_fset hs.len (Nat.le_trans (List.length_filter_le _ _) (hs.len _)))]) rfl (fun _ => rfl) rfl ?_
    conv => whnf
    exact ⟨fun _ => rfl, by rw [e]; rfl, trivial⟩

def oneS : Nat → Nat → List Ln
  | 0 => fun _ => []
  | i + 1 => putS (oneS i) ⟨1, 4 * (i : Int), ent0, 0⟩
theorem oneS_inv : ∀ i, Inv (oneS i)
  | 0 => Inv.nil
  | i + 1 => (oneS_inv i).put _ (by show 0 ≤ 4 * (i : Int); omega)
theorem putS_len {s : Nat → List Ln} (h : Inv s) (l : Ln) (hl : 0 ≤ l.num) (rest : List Value) : (tlbC (putS s l) rest).length = (tlbC s rest).length := by
  rw [tlbC_len h.len, tlbC_len (h.put l hl).len]
theorem one_ok : Spec Try.prog 10 [] [] 0 fun v _ _ => ∀ ρ, v.val ρ = SV.tt.val ρ := by
  refine Spec.of_body tabOk Try.func10 rfl (ent Try.func10 rfl (by kernel_rfl)) Try.ntmps10 rfl (by kernel_rfl) (Nat.le_of_ble_eq_true rfl) ?_
  conv => whnf
  refine CodeL.loopN tabOk 1 (by decide) (fun i : Nat => ([(1, .ptr 0 0), (2, .int .u64 (i : Int))], [(0, .row (tlbC (oneS i) []))])) (fun i => 3 - i) (fun i => i ≤ 3) rfl (fun i => rfl) 0 (Nat.zero_le _) (fun i => (i, 0)) (fun _ _ => rfl) ⟨⟨⟨_, rfl, fun _ => rfl⟩, ⟨_, rfl, fun _ => rfl⟩, trivial⟩, Part.same ⟨⟨by decide, rfl, rfl, _, rfl, fun _ => rfl, Nat.le_refl _, fun _ => Nat.le_refl _, id⟩, trivial⟩ (fun i j _ _ h => h)⟩ ?_
  intro i hi
  conv => whnf
  refine ⟨fun h => ?_, fun h => ?_⟩
  · have h : i < 3 := by have := of_decide_eq_true h; omega
    conv => whnf
    refine Spec.row (t := 0) (put_ok (oneS i) [] (oneS_inv i).len ⟨1, 4 * (i : Int), ent0, 0⟩ (by show 0 ≤ 4 * (i : Int); omega)) rfl (fun _ => rfl) rfl rfl (putS_len (oneS_inv i) _ (by show 0 ≤ 4 * (i : Int); omega) []) rfl (fun ρ => ?_) rfl ?_
    · show [SV.val ρ (.ptr 0 0), SV.val ρ (.agg [.int .u64 1, .int .u64 (IntKind.wrap .u64 (4 * (i : Int))), .ff, .ff, .ff, .ff, .ff, .ff, .ff, .ff, .ff, .ff, .ff, .ff, .int .u64 0, .int .u64 0])] = _
      rw [show IntKind.wrap .u64 (4 * (i : Int)) = 4 * (i : Int) by simp [IntKind.wrap, IntKind.bits, IntKind.signed]; omega]
      rfl
    conv => whnf
    exact ⟨i + 1, fun i => (i, 0), by omega, by omega, fun _ _ => rfl, ⟨⟨_, rfl, fun _ => rfl⟩, ⟨_, rfl, fun _ => congrArg (fun x => Value.int .u64 x) (by simp [IntKind.wrap, IntKind.bits, IntKind.signed]; omega)⟩, trivial⟩, Part.same ⟨⟨by decide, rfl, rfl, _, rfl, fun _ => rfl, Nat.le_refl _, fun _ => Nat.le_refl _, id⟩, trivial⟩ (fun i j _ _ h => h)⟩
  · have h : i = 3 := by have := of_decide_eq_false h; omega
    subst h
    conv => whnf
    refine Spec.fn (Fun.read (look_ok (oneS 3) [] (oneS_inv 3).len 1 0 (by decide)) (by rfl)) [0] rfl rfl (fun _ => rfl) rfl ⟨⟨by decide, rfl, rfl, _, rfl, fun _ => rfl, Nat.le_refl _, fun _ => Nat.le_refl _, fun h => by cases h⟩, trivial⟩ (fun _ _ => ⟨rfl, rfl, rfl, trivial⟩) (fun _ _ => ?_)
    conv => whnf
    refine Spec.fn (Fun.read (look_ok (oneS 3) [] (oneS_inv 3).len 1 8 (by decide)) (by rfl)) [0] rfl rfl (fun _ => rfl) rfl ⟨⟨by decide, rfl, rfl, _, rfl, fun _ => rfl, Nat.le_refl _, fun _ => Nat.le_refl _, fun h => by cases h⟩, trivial⟩ (fun _ _ => ⟨rfl, rfl, rfl, trivial⟩) (fun _ _ => ?_)
    conv => whnf
    intro ρ
    rfl
end Go.Sh.Ytmfpndffepjcpaa
