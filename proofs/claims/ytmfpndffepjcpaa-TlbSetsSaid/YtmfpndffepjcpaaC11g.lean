import Derived.Test.YtmfpndffepjcpaaC11f
set_option linter.unusedVariables false
namespace Go.Sh.Ytmfpndffepjcpaa
open Go.Proofs Go.Sh

theorem refput_ok (R : List RL) (b0 : Bool) (c0 : Nat) (l : RL) (hR : R.length ≤ 1000000) : Fun Try.prog 11 [.slz b0 0 0 R.length c0, .agg (rlC l)] [(0, .view (refV R))] 1 1 (okS (putR R l).length) (fun x => .slz x.1 1 0 (putR R l).length x.2) (fun x => [(1, .row (refV (putR R l)))]) := by
  unfold Fun
  refine Spec.of_body tabOk Try.func11 rfl (ent Try.func11 rfl (by kernel_rfl)) Try.ntmps11 rfl (by kernel_rfl) (Nat.le_of_ble_eq_true rfl) ?_
  conv => whnf
  refine Spec.fn (refdrop_ok R b0 c0 l.a l.n hR) [0] rfl rfl (fun _ => rfl) rfl ⟨⟨by decide, rfl, rfl, _, rfl, fun _ => rfl, Nat.le_refl _, fun _ => Nat.le_refl _, id⟩, trivial⟩ (fun _ _ => ⟨rfl, rfl, rfl, trivial⟩) (fun x1 hx1 => ?_)
  obtain ⟨b1, c1⟩ := x1
  have hlen1 : (R.filter (keepP l.a l.n)).length ≤ R.length := List.length_filter_le _ _
  unfold putR
  generalize R.filter (keepP l.a l.n) = R1 at hx1 hlen1 ⊢
  generalize ht : (scan (l.n.tmod 4) R1).1 = t
  conv => whnf
  refine CodeL.loop tabOk (fun i : Nat => ([(0, .slz b1 2 0 R1.length c1), (3, .ptr 1 0), (5, .int .i64 (scan (l.n.tmod 4) (R1.take i)).1.n), (6, .int .i64 (scan (l.n.tmod 4) (R1.take i)).1.first), (7, .int .i64 (scan (l.n.tmod 4) (R1.take i)).1.at_), (8, .int .i64 (i : Int))], [(1, .cells (rlC l)), (2, .row (refV R1))]))
    (fun i => R1.length - i) (fun i => i ≤ R1.length) rfl (fun i => ⟨rfl, rfl⟩) 0 (Nat.zero_le _) ⟨⟨rfl, rfl, rfl, rfl, rfl, rfl, trivial⟩, ⟨rfl, rfl, trivial⟩⟩ ?_
  intro i hi
  conv => whnf
  refine ⟨fun h => ?_, fun h => ?_⟩
  · have h : i < R1.length := by have := of_decide_eq_true h; omega
    obtain ⟨x, hx⟩ : ∃ x, R1[i]? = some x := ⟨_, List.getElem?_eq_getElem h⟩
    have e := scan_take (q := l.n.tmod 4) hx
    have hb := scan_bounds (l.n.tmod 4) (R1.take i)
    rw [List.length_take, Nat.min_eq_left hi] at hb
    simp only at hb
    obtain ⟨hb1, hb2, hb3, hb4, hb5, hb6, hb7⟩ := hb
    conv => whnf
    refine CodeL.draw tabOk Try.checked.mixed 10 (by kernel_rfl) rfl ?_
    conv => whnf
    refine .there i rfl (by omega) ?_
    conv => whnf
    refine .at1 (.int .u64 x.n) (i * 3 + 1) (by show 0 + i * 3 + 1 = _; omega) (refV_cell hx (by decide)) rfl ?_
    conv => whnf
    refine ⟨fun h1 => ?_, fun h1 => ?_⟩
    · have h1 : x.n.tmod 4 ≤ l.n.tmod 4 := of_decide_eq_true h1
      conv => whnf
      refine CodeL.draw tabOk Try.checked.mixed 10 (by kernel_rfl) rfl ?_
      conv => whnf
      refine .there i rfl (by omega) ?_
      conv => whnf
      refine .at1 (.int .u64 x.n) (i * 3 + 1) (by show 0 + i * 3 + 1 = _; omega) (refV_cell hx (by decide)) rfl ?_
      conv => whnf
      refine ⟨fun h2 => ?_, fun h2 => ?_⟩
      · have h2 : x.n.tmod 4 = l.n.tmod 4 := of_decide_eq_true h2
        conv => whnf
        refine ⟨fun h3 => ?_, fun h3 => ?_⟩
        · have h3 : (scan (l.n.tmod 4) (R1.take i)).1.first < 0 := of_decide_eq_true h3
          conv => whnf
          exact ⟨i + 1, by show i + 1 ≤ R1.length; omega, by show R1.length - (i + 1) < R1.length - i; omega, ⟨rfl, rfl, congrArg (fun x => some (SV.int .i64 x)) (by rw [e]; show _ = (if _ then _ else _); rw [if_pos h2, wrap_i64' _ (by omega) (by omega)]), congrArg (fun x => some (SV.int .i64 x)) (by rw [e]; show _ = (if _ then _ else _); rw [if_pos ⟨h2, h3⟩]), congrArg (fun x => some (SV.int .i64 x)) (by rw [e]; show _ = (if _ then _ else _); rw [if_pos h1, wrap_i64' _ (by omega) (by omega)]), congrArg (fun x => some (SV.int .i64 x)) (by rw [wrap_i64' _ (by omega) (by omega)]; omega), trivial⟩, ⟨rfl, rfl, trivial⟩⟩
        · have h3 : ¬ (scan (l.n.tmod 4) (R1.take i)).1.first < 0 := of_decide_eq_false h3
          conv => whnf
          exact ⟨i + 1, by show i + 1 ≤ R1.length; omega, by show R1.length - (i + 1) < R1.length - i; omega, ⟨rfl, rfl, congrArg (fun x => some (SV.int .i64 x)) (by rw [e]; show _ = (if _ then _ else _); rw [if_pos h2, wrap_i64' _ (by omega) (by omega)]), congrArg (fun x => some (SV.int .i64 x)) (by rw [e]; show _ = (if _ then _ else _); rw [if_neg fun g => h3 g.2]), congrArg (fun x => some (SV.int .i64 x)) (by rw [e]; show _ = (if _ then _ else _); rw [if_pos h1, wrap_i64' _ (by omega) (by omega)]), congrArg (fun x => some (SV.int .i64 x)) (by rw [wrap_i64' _ (by omega) (by omega)]; omega), trivial⟩, ⟨rfl, rfl, trivial⟩⟩
      · have h2 : ¬ x.n.tmod 4 = l.n.tmod 4 := of_decide_eq_false h2
        conv => whnf
        exact ⟨i + 1, by show i + 1 ≤ R1.length; omega, by show R1.length - (i + 1) < R1.length - i; omega, ⟨rfl, rfl, congrArg (fun x => some (SV.int .i64 x)) (by rw [e]; show _ = (if _ then _ else _); rw [if_neg h2]), congrArg (fun x => some (SV.int .i64 x)) (by rw [e]; show _ = (if _ then _ else _); rw [if_neg fun g => h2 g.1]), congrArg (fun x => some (SV.int .i64 x)) (by rw [e]; show _ = (if _ then _ else _); rw [if_pos h1, wrap_i64' _ (by omega) (by omega)]), congrArg (fun x => some (SV.int .i64 x)) (by rw [wrap_i64' _ (by omega) (by omega)]; omega), trivial⟩, ⟨rfl, rfl, trivial⟩⟩
    · have h1 : ¬ x.n.tmod 4 ≤ l.n.tmod 4 := of_decide_eq_false h1
      conv => whnf
      refine CodeL.draw tabOk Try.checked.mixed 10 (by kernel_rfl) rfl ?_
      conv => whnf
      refine .there i rfl (by omega) ?_
      conv => whnf
      refine .at1 (.int .u64 x.n) (i * 3 + 1) (by show 0 + i * 3 + 1 = _; omega) (refV_cell hx (by decide)) rfl ?_
      conv => whnf
      refine ⟨fun h2 => ?_, fun h2 => ?_⟩
      · have h2 : x.n.tmod 4 = l.n.tmod 4 := of_decide_eq_true h2
        conv => whnf
        refine ⟨fun h3 => ?_, fun h3 => ?_⟩
        · have h3 : (scan (l.n.tmod 4) (R1.take i)).1.first < 0 := of_decide_eq_true h3
          conv => whnf
          exact ⟨i + 1, by show i + 1 ≤ R1.length; omega, by show R1.length - (i + 1) < R1.length - i; omega, ⟨rfl, rfl, congrArg (fun x => some (SV.int .i64 x)) (by rw [e]; show _ = (if _ then _ else _); rw [if_pos h2, wrap_i64' _ (by omega) (by omega)]), congrArg (fun x => some (SV.int .i64 x)) (by rw [e]; show _ = (if _ then _ else _); rw [if_pos ⟨h2, h3⟩]), congrArg (fun x => some (SV.int .i64 x)) (by rw [e]; show _ = (if _ then _ else _); rw [if_neg h1]), congrArg (fun x => some (SV.int .i64 x)) (by rw [wrap_i64' _ (by omega) (by omega)]; omega), trivial⟩, ⟨rfl, rfl, trivial⟩⟩
        · have h3 : ¬ (scan (l.n.tmod 4) (R1.take i)).1.first < 0 := of_decide_eq_false h3
          conv => whnf
          exact ⟨i + 1, by show i + 1 ≤ R1.length; omega, by show R1.length - (i + 1) < R1.length - i; omega, ⟨rfl, rfl, congrArg (fun x => some (SV.int .i64 x)) (by rw [e]; show _ = (if _ then _ else _); rw [if_pos h2, wrap_i64' _ (by omega) (by omega)]), congrArg (fun x => some (SV.int .i64 x)) (by rw [e]; show _ = (if _ then _ else _); rw [if_neg fun g => h3 g.2]), congrArg (fun x => some (SV.int .i64 x)) (by rw [e]; show _ = (if _ then _ else _); rw [if_neg h1]), congrArg (fun x => some (SV.int .i64 x)) (by rw [wrap_i64' _ (by omega) (by omega)]; omega), trivial⟩, ⟨rfl, rfl, trivial⟩⟩
      · have h2 : ¬ x.n.tmod 4 = l.n.tmod 4 := of_decide_eq_false h2
        conv => whnf
        exact ⟨i + 1, by show i + 1 ≤ R1.length; omega, by show R1.length - (i + 1) < R1.length - i; omega, ⟨rfl, rfl, congrArg (fun x => some (SV.int .i64 x)) (by rw [e]; show _ = (if _ then _ else _); rw [if_neg h2]), congrArg (fun x => some (SV.int .i64 x)) (by rw [e]; show _ = (if _ then _ else _); rw [if_neg fun g => h2 g.1]), congrArg (fun x => some (SV.int .i64 x)) (by rw [e]; show _ = (if _ then _ else _); rw [if_neg h1]), congrArg (fun x => some (SV.int .i64 x)) (by rw [wrap_i64' _ (by omega) (by omega)]; omega), trivial⟩, ⟨rfl, rfl, trivial⟩⟩
  · have h : i = R1.length := by have := of_decide_eq_false h; omega
    subst h
    rw [List.take_length, ht]
    have hb := scan_bounds (l.n.tmod 4) R1
    rw [ht] at hb
    obtain ⟨n, first, at_⟩ := t
    simp only at hb
    obtain ⟨hb1, hb2, hb3, hb4, hb5, hb6, hb7⟩ := hb
    obtain ⟨k, rfl⟩ : ∃ k : Nat, at_ = k := ⟨at_.toNat, by omega⟩
    simp only [putT, putO, Int.toNat_natCast]
    have hout : (R1.take k ++ [l] ++ R1.drop k).length = R1.length + 1 := by simp; omega
    have e1 : refV (R1.take k) ++ rlV l ++ refV (R1.drop k) = refV (R1.take k ++ [l] ++ R1.drop k) := by rw [refV_append, refV_append]; simp [refV]
    conv => whnf
    refine CodeL.cut 4 (by decide) (fun x : Bool × Nat => ([(5, .int .i64 n), (6, .int .i64 first), (9, .slz x.1 3 0 (R1.length + 1) x.2)], [(3, .row (refV (R1.take k ++ [l] ++ R1.drop k)))])) (okS (R1.length + 1)) (fun x => rfl) ?_ (fun x hx => ?_)
    · refine CodeL.any tabOk Try.checked.mixed [(1, .cells (rlC l)), (2, .row (refV R1))] (.take 1 (.take 2 (.take 3 (.take 5 (.take 8 (.take 9 (.take 10 (.alt 0 (.alt 4 (.alt 6 (.alt 7 (.alt 11 (.take 12 (.fin)) .stop) .stop) .stop) (.alt 6 (.alt 4 (.alt 7 (.alt 11 (.take 12 (.fin)) .stop) .stop) .stop) .stop)) (.alt 6 (.alt 0 (.alt 4 (.alt 7 (.alt 11 (.take 12 (.fin)) .stop) .stop) .stop) .stop) .stop))))))))) (by kernel_rfl) rfl ⟨rfl, rfl, trivial⟩ rfl ?_
      conv => whnf
      refine VL.slice tabOk ?_
      conv => whnf
      refine ⟨fun h => hx1.2 h, 0, k, c1, rfl, rfl, rfl, rfl, Nat.zero_le _, by have := hx1.1; omega, Nat.le_refl _, ?_⟩
      conv => whnf
      refine VL.slice tabOk ?_
      conv => whnf
      refine ⟨fun h => hx1.2 h, k, R1.length, c1, rfl, rfl, rfl, rfl, by omega, hx1.1, Nat.le_refl _, ?_⟩
      conv => whnf
      refine ⟨?_, ?_⟩
      · refine OpL.bsl0 tabOk ?_
        conv => whnf
        refine ⟨⟨rfl, rfl, trivial⟩, ?_⟩
        conv => whnf
        refine ⟨?_, ?_⟩
        · refine OpL.app tabOk ?_
          conv => whnf
          refine ⟨refV (R1.take k), fun ρ => refV_head, by rw [refV_len, List.length_take, Nat.sub_zero, Nat.min_eq_left (by omega)], rfl, rfl, Nat.le_refl _, by omega, by show _ * 24 ≤ 140737488355328; omega, fun b4 c4 hc4 hb4 => ?_⟩
          conv => whnf
          refine ⟨⟨rfl, rfl, trivial⟩, ?_⟩
          conv => whnf
          refine OpL.bsl tabOk ?_
          conv => whnf
          refine ⟨⟨rfl, rfl, trivial⟩, ?_⟩
          conv => whnf
          refine OpL.app tabOk ?_
          conv => whnf
          refine ⟨rlV l, fun ρ => rfl, rfl, by show ([] ++ refV (R1.take k)).length = _; rw [List.nil_append, refV_len, List.length_take, Nat.min_eq_left (by omega), Nat.zero_add, Nat.sub_zero], rfl, hc4, by omega, by show _ * 24 ≤ 140737488355328; omega, fun b7 c7 hc7 hb7 => ?_⟩
          conv => whnf
          refine ⟨⟨rfl, rfl, trivial⟩, ?_⟩
          conv => whnf
          refine OpL.app tabOk ?_
          conv => whnf
          refine ⟨refV (R1.drop k), fun ρ => refV_tail (by omega) hx1.1, by rw [refV_len, List.length_drop], by show ([] ++ refV (R1.take k) ++ rlV l).length = _; rw [List.nil_append, List.length_append, refV_len, List.length_take, Nat.min_eq_left (by omega), Nat.zero_add, Nat.sub_zero]; show _ + 3 = (k + 1) * 3; omega, rfl, hc7, by omega, by show _ * 24 ≤ 140737488355328; omega, fun b' c' hc' hb' => ?_⟩
          conv => whnf
          refine ⟨⟨rfl, rfl, trivial⟩, ?_⟩
          conv => whnf
          have hl : 0 + (k - 0) + 1 + (R1.length - k) = R1.length + 1 := by omega
          exact ⟨(b', c'), to1 3 7, ⟨by rw [← hl]; exact hc', fun h => (hb' h).2⟩, to1_low (by decide), ⟨⟨_, rfl, fun _ => rfl⟩, ⟨_, rfl, fun _ => rfl⟩, ⟨_, rfl, fun ρ => by rw [← hl]; rfl⟩, trivial⟩,
            Part.same ⟨⟨by decide, rfl, rfl, _, rfl, fun _ => by show refV _ = [] ++ refV (R1.take k) ++ rlV l ++ refV (R1.drop k); rw [← e1, List.nil_append], by show (refV _).length ≤ c' * 3; rw [refV_len, hout, ← hl]; exact Nat.mul_le_mul_right _ hc', fun _ => Nat.le_refl _, id⟩, trivial⟩ (to1_inj (.inr (by decide)))⟩
        · refine OpL.bsl tabOk ?_
          conv => whnf
          refine ⟨⟨rfl, rfl, trivial⟩, ?_⟩
          conv => whnf
          refine OpL.app tabOk ?_
          conv => whnf
          refine ⟨refV (R1.take k), fun ρ => refV_head, by rw [refV_len, List.length_take, Nat.sub_zero, Nat.min_eq_left (by omega)], rfl, rfl, Nat.le_refl _, by omega, by show _ * 24 ≤ 140737488355328; omega, fun b4 c4 hc4 hb4 => ?_⟩
          conv => whnf
          refine ⟨⟨rfl, rfl, trivial⟩, ?_⟩
          conv => whnf
          refine OpL.app tabOk ?_
          conv => whnf
          refine ⟨rlV l, fun ρ => rfl, rfl, by show ([] ++ refV (R1.take k)).length = _; rw [List.nil_append, refV_len, List.length_take, Nat.min_eq_left (by omega), Nat.zero_add, Nat.sub_zero], rfl, hc4, by omega, by show _ * 24 ≤ 140737488355328; omega, fun b7 c7 hc7 hb7 => ?_⟩
          conv => whnf
          refine ⟨⟨rfl, rfl, trivial⟩, ?_⟩
          conv => whnf
          refine OpL.app tabOk ?_
          conv => whnf
          refine ⟨refV (R1.drop k), fun ρ => refV_tail (by omega) hx1.1, by rw [refV_len, List.length_drop], by show ([] ++ refV (R1.take k) ++ rlV l).length = _; rw [List.nil_append, List.length_append, refV_len, List.length_take, Nat.min_eq_left (by omega), Nat.zero_add, Nat.sub_zero]; show _ + 3 = (k + 1) * 3; omega, rfl, hc7, by omega, by show _ * 24 ≤ 140737488355328; omega, fun b' c' hc' hb' => ?_⟩
          conv => whnf
          refine ⟨⟨rfl, rfl, trivial⟩, ?_⟩
          conv => whnf
          have hl : 0 + (k - 0) + 1 + (R1.length - k) = R1.length + 1 := by omega
          exact ⟨(b', c'), to1 3 7, ⟨by rw [← hl]; exact hc', fun h => (hb' h).2⟩, to1_low (by decide), ⟨⟨_, rfl, fun _ => rfl⟩, ⟨_, rfl, fun _ => rfl⟩, ⟨_, rfl, fun ρ => by rw [← hl]; rfl⟩, trivial⟩,
            Part.same ⟨⟨by decide, rfl, rfl, _, rfl, fun _ => by show refV _ = [] ++ refV (R1.take k) ++ rlV l ++ refV (R1.drop k); rw [← e1, List.nil_append], by show (refV _).length ≤ c' * 3; rw [refV_len, hout, ← hl]; exact Nat.mul_le_mul_right _ hc', fun _ => Nat.le_refl _, id⟩, trivial⟩ (to1_inj (.inr (by decide)))⟩
      · refine OpL.bsl tabOk ?_
        conv => whnf
        refine ⟨⟨rfl, rfl, trivial⟩, ?_⟩
        conv => whnf
        refine OpL.bsl0 tabOk ?_
        conv => whnf
        refine ⟨⟨rfl, rfl, trivial⟩, ?_⟩
        conv => whnf
        refine OpL.app tabOk ?_
        conv => whnf
        refine ⟨refV (R1.take k), fun ρ => refV_head, by rw [refV_len, List.length_take, Nat.sub_zero, Nat.min_eq_left (by omega)], rfl, rfl, Nat.le_refl _, by omega, by show _ * 24 ≤ 140737488355328; omega, fun b4 c4 hc4 hb4 => ?_⟩
        conv => whnf
        refine ⟨⟨rfl, rfl, trivial⟩, ?_⟩
        conv => whnf
        refine OpL.app tabOk ?_
        conv => whnf
        refine ⟨rlV l, fun ρ => rfl, rfl, by show ([] ++ refV (R1.take k)).length = _; rw [List.nil_append, refV_len, List.length_take, Nat.min_eq_left (by omega), Nat.zero_add, Nat.sub_zero], rfl, hc4, by omega, by show _ * 24 ≤ 140737488355328; omega, fun b7 c7 hc7 hb7 => ?_⟩
        conv => whnf
        refine ⟨⟨rfl, rfl, trivial⟩, ?_⟩
        conv => whnf
        refine OpL.app tabOk ?_
        conv => whnf
        refine ⟨refV (R1.drop k), fun ρ => refV_tail (by omega) hx1.1, by rw [refV_len, List.length_drop], by show ([] ++ refV (R1.take k) ++ rlV l).length = _; rw [List.nil_append, List.length_append, refV_len, List.length_take, Nat.min_eq_left (by omega), Nat.zero_add, Nat.sub_zero]; show _ + 3 = (k + 1) * 3; omega, rfl, hc7, by omega, by show _ * 24 ≤ 140737488355328; omega, fun b' c' hc' hb' => ?_⟩
        conv => whnf
        refine ⟨⟨rfl, rfl, trivial⟩, ?_⟩
        conv => whnf
        have hl : 0 + (k - 0) + 1 + (R1.length - k) = R1.length + 1 := by omega
        exact ⟨(b', c'), to1 3 7, ⟨by rw [← hl]; exact hc', fun h => (hb' h).2⟩, to1_low (by decide), ⟨⟨_, rfl, fun _ => rfl⟩, ⟨_, rfl, fun _ => rfl⟩, ⟨_, rfl, fun ρ => by rw [← hl]; rfl⟩, trivial⟩,
          Part.same ⟨⟨by decide, rfl, rfl, _, rfl, fun _ => by show refV _ = [] ++ refV (R1.take k) ++ rlV l ++ refV (R1.drop k); rw [← e1, List.nil_append], by show (refV _).length ≤ c' * 3; rw [refV_len, hout, ← hl]; exact Nat.mul_le_mul_right _ hc', fun _ => Nat.le_refl _, id⟩, trivial⟩ (to1_inj (.inr (by decide)))⟩
    · obtain ⟨b2, c2⟩ := x
      generalize R1.take k ++ [l] ++ R1.drop k = out at hout e1
      rw [← hout]
      rw [← hout] at hx
      clear e1
      dsimp only
      conv => whnf
      refine ⟨fun h => ?_, fun h => ?_⟩
      · have h : n = 2 := of_decide_eq_true h
        obtain ⟨f, rfl⟩ : ∃ f : Nat, first = f := ⟨first.toNat, by omega⟩
        have e : out.take (f : Int).toNat ++ out.drop ((f : Int).toNat + 1) = out.take f ++ out.drop (f + 1) := by rw [Int.toNat_natCast]
        have ew : IntKind.wrap .i64 ((f : Int) + 1) = ((f + 1 : Nat) : Int) := by rw [wrap_i64' _ (by omega) (by omega)]; omega
        rw [if_pos h, e]
        conv => whnf
        refine CodeL.any tabOk Try.checked.mixed [(3, .row (refV out))] (.take 1 (.take 2 (.take 3 (.take 5 (.take 6 (.take 7 (.take 8 (.alt 0 (.alt 4 (.alt 9 (.take 10 (.fin)) .stop) .stop) .stop)))))))) (by kernel_rfl) rfl ⟨rfl, trivial⟩ rfl ?_
        conv => whnf
        refine VL.slice tabOk ?_
        conv => whnf
        refine ⟨fun h => hx.2 h, 0, f, c2, rfl, rfl, rfl, rfl, Nat.zero_le _, by have := hx.1; omega, Nat.le_refl _, ?_⟩
        conv => whnf
        refine VL.slice tabOk ?_
        conv => whnf
        refine ⟨fun h => hx.2 h, f + 1, out.length, c2, ew, rfl, rfl, rfl, by omega, hx.1, Nat.le_refl _, ?_⟩
        conv => whnf
        refine OpL.bsl0 tabOk ?_
        conv => whnf
        refine ⟨⟨rfl, trivial⟩, ?_⟩
        conv => whnf
        refine OpL.app tabOk ?_
        conv => whnf
        refine ⟨refV (out.take f), fun ρ => refV_head, by rw [refV_len, List.length_take, Nat.sub_zero, Nat.min_eq_left (by omega)], rfl, rfl, Nat.le_refl _, by omega, by show _ * 24 ≤ 140737488355328; omega, fun b4 c4 hc4 hb4 => ?_⟩
        conv => whnf
        refine ⟨⟨rfl, trivial⟩, ?_⟩
        conv => whnf
        refine OpL.app tabOk ?_
        conv => whnf
        refine ⟨refV (out.drop (f + 1)), fun ρ => refV_tail (by omega) hx.1, by rw [refV_len, List.length_drop], by show ([] ++ refV (out.take f)).length = _; rw [List.nil_append, refV_len, List.length_take, Nat.min_eq_left (by omega), Nat.zero_add, Nat.sub_zero], rfl, hc4, by omega, by show _ * 24 ≤ 140737488355328; omega, fun b' c' hc' hb' => ?_⟩
        conv => whnf
        refine ⟨⟨rfl, trivial⟩, ?_⟩
        conv => whnf
        have hl : 0 + (f - 0) + (out.length - (f + 1)) = (out.take f ++ out.drop (f + 1)).length := by simp; omega
        exact ⟨(b', c'), to1 1 6, ⟨by rw [← hl]; exact hc', fun h => (hb' h).2⟩, to1_low (by decide),
          Part.same ⟨⟨by decide, rfl, rfl, _, rfl, fun _ => by show refV _ = [] ++ refV (out.take f) ++ refV (out.drop (f + 1)); rw [refV_append, List.nil_append], by show (refV _).length ≤ c' * 3; rw [refV_len, ← hl]; exact Nat.mul_le_mul_right _ hc', fun _ => Nat.le_refl _, id⟩, trivial⟩ (to1_inj (.inr (by decide))), fun ρ => by rw [← hl]; rfl⟩
      · have h : ¬ n = 2 := of_decide_eq_false h
        rw [if_neg h]
        conv => whnf
        exact ⟨(b2, c2), to1 1 3, hx, to1_low (by decide), Part.same ⟨⟨by decide, rfl, rfl, _, rfl, fun _ => rfl, Nat.le_refl _, fun _ => Nat.le_refl _, id⟩, trivial⟩ (to1_inj (.inr (by decide))), fun ρ => rfl⟩
end Go.Sh.Ytmfpndffepjcpaa
