import Derived.Test.YtjjnomafohpakaaC07b
import Derived.Test.YtjjnomafohpakaaC07f
set_option linter.unusedVariables false
namespace Go.Sh.Ytjjnomafohpakaa
open Go.Proofs Go.Sh

theorem bitsL_get (s : Nat) : ∀ (n k : Nat), k < cnt s n → ∃ b : Nat, (bitsL s n)[k]? = some (.int .i64 b)
  | 0, k, h => absurd h (Nat.not_lt_zero _)
  | n + 1, k, h => by
    rw [bitsL]
    by_cases hk : k < cnt s n
    · obtain ⟨b, hb⟩ := bitsL_get s n k hk
      exact ⟨b, by rw [List.getElem?_append_left (by rw [bitsL_length]; exact hk)]; exact hb⟩
    · rw [cnt] at h
      cases hs : s.testBit n with
      | false => rw [hs] at h; exact absurd h hk
      | true =>
        rw [hs] at h
        have : k = cnt s n := by simp at h; omega
        subst this
        exact ⟨n, by rw [List.getElem?_append_right (by rw [bitsL_length]; exact Nat.le_refl _), bitsL_length, Nat.sub_self]; rfl⟩
theorem cnt_pos (s : Nat) (hs : s < 2 ^ 256) : (!decide (s = 0)) = decide (0 < (cnt s 256 : Int)) := by
  by_cases e : s = 0
  · subst e
    have : ∀ n, cnt 0 n = 0 := fun n => by induction n with | zero => rfl | succ n ih => rw [cnt, ih]; simp
    rw [this]; rfl
  · have : 0 < cnt s 256 := by
      refine Nat.pos_of_ne_zero fun h0 => e ?_
      have key : ∀ n, cnt s n = 0 → ∀ j, j < n → s.testBit j = false := by
        intro n
        induction n with
        | zero => intro _ j hj; omega
        | succ n ih =>
          intro h j hj
          rw [cnt] at h
          by_cases ej : j = n
          · subst ej; cases hb : s.testBit j with
            | false => rfl
            | true => rw [hb] at h; simp at h
          · exact ih (by omega) j (by omega)
      refine Nat.eq_of_testBit_eq fun j => ?_
      rw [Nat.zero_testBit]
      by_cases hj : j < 256
      · exact key 256 h0 j hj
      · exact Nat.testBit_lt_two_pow (Nat.lt_of_lt_of_le hs (Nat.pow_le_pow_right (by omega) (by omega)))
    rw [decide_eq_false e, decide_eq_true (by omega)]; rfl
theorem getB_diff (s t : Nat) (i : Int) : getB (diffS s t) i = (getB s i && !getB t i) := by
  unfold getB
  rw [diffS_bit]
  by_cases h : 0 ≤ i ∧ i < 256
  · simp [h]
  · simp [h]
theorem cnt5 : cnt 5 256 = 2 := by decide +kernel
theorem sameSet' (s : Nat) : (decide (wd s 0 = wd s 0) && (decide (wd s 1 = wd s 1) && (decide (wd s 2 = wd s 2) && decide (wd s 3 = wd s 3)))) = true := by simp

set_option maxHeartbeats 4000000 in
theorem tells_ok (s t : Nat) (i : Int) (hs : s < 2 ^ 256) (ht : t < 2 ^ 256) : Pure Try.prog 4 [setV s, setV t, .int .i64 i] .tt := by
  have hall := all_ok s
  have href := refall_ok s
  have hcount := count_ok s
  have hcp := cnt_pos s hs
  have hget := bitsL_get s 256
  have h5 := count_ok 5
  rw [cnt5] at h5
  have hw := without_ok s t ht
  have hgd := getB_diff s t
  generalize diffS s t = D at hw hgd
  generalize hn : cnt s 256 = n at hall href hcount hcp hget
  have hn2 : n ≤ 256 := hn ▸ cnt_le s 256
  generalize bitsL s 256 = L at hall href hget
  have w1 := with_ok s i true
  have w0 := with_ok s i false
  have v1 := refwith_ok s i true
  have v0 := refwith_ok s i false
  generalize withS s i true = S1 at w1 v1
  generalize withS s i false = S0 at w0 v0
  refine Spec.of_body tabOk Try.func4 rfl (ent Try.func4 rfl (by kernel_rfl)) Try.ntmps4 rfl (by kernel_rfl) (Nat.le_of_ble_eq_true rfl) ?_
  conv => whnf
  refine Spec.makes hall rfl rfl rfl (fun i so hi => by rw [look_cons] at hi; split at hi <;> first | omega | cases hi) (fun _ => rfl) ?_
  conv => whnf
  refine Spec.makes href rfl rfl rfl (fun i so hi => by rw [look_cons] at hi; split at hi <;> first | omega | cases hi) (fun _ => rfl) ?_
  conv => whnf
  refine CodeL.draw tabOk Try.checked.mixed 47 (by kernel_rfl) rfl ?_
  conv => whnf
  refine .f (by simp) ?_
  conv => whnf
  refine QCallL.pure hcount rfl rfl (fun _ => rfl) ?_
  conv => whnf
  refine .f (by simp) ?_
  conv => whnf
  refine QCallL.pure (any_ok s hs) rfl rfl (fun _ => rfl) ?_
  conv => whnf
  refine VL.qop rfl (VL.eq tabOk ?_)
  conv => whnf
  refine .f (by rw [hcp]; simp) ?_
  conv => whnf
  refine QCallL.pure (get_ok s i) rfl rfl (fun _ => rfl) ?_
  conv => whnf
  refine QCallL.pure (refget_ok s i) rfl rfl (fun _ => rfl) ?_
  conv => whnf
  refine VL.qop rfl (VL.eq tabOk ?_)
  conv => whnf
  refine .f (by simp) ?_
  conv => whnf
  refine QCallL.pure w1 rfl rfl (fun _ => rfl) ?_
  conv => whnf
  refine QCallL.pure v1 rfl rfl (fun _ => rfl) ?_
  conv => whnf
  refine VL.qop rfl (VL.eq tabOk ?_)
  conv => whnf
  refine ⟨by kernel_rfl, ?_⟩
  conv => whnf
  refine .f (by rw [sameSet']; rfl) ?_
  conv => whnf
  refine QCallL.pure w0 rfl rfl (fun _ => rfl) ?_
  conv => whnf
  refine QCallL.pure v0 rfl rfl (fun _ => rfl) ?_
  conv => whnf
  refine VL.qop rfl (VL.eq tabOk ?_)
  conv => whnf
  refine ⟨by kernel_rfl, ?_⟩
  conv => whnf
  refine .f (by rw [sameSet']; rfl) ?_
  conv => whnf
  refine Spec.pure hw rfl rfl (fun _ => rfl) ?_
  conv => whnf
  refine CodeL.loop tabOk (fun k : Nat => ([(3, .ptr 0 0), (4, .ptr 1 0), (7, .slicen 2 0 n 3), (8, .slicen 4 0 n 5), (9, .ptr 6 0), (10, .int .i64 k)], [(0, .cells (setCells s)), (1, .cells (setCells t)), (2, .row L), (4, .row L), (6, .cells (setCells D))])) (fun k => 256 - k) (fun k => k ≤ 256) rfl (fun k => ⟨rfl, rfl⟩) 0 (Nat.zero_le _) ⟨⟨rfl, rfl, rfl, rfl, rfl, rfl, trivial⟩, ⟨rfl, rfl, rfl, rfl, rfl, trivial⟩⟩ ?_
  intro k hk
  conv => whnf
  refine ⟨fun g => ?_, fun g => ?_⟩
  · have g : k < 256 := by have := of_decide_eq_true g; omega
    conv => whnf
    refine CodeL.draw tabOk Try.checked.mixed 13 (by kernel_rfl) rfl ?_
    conv => whnf
    refine QCallL.pure (get_ok D k) rfl rfl (fun _ => rfl) ?_
    conv => whnf
    refine QCallL.pure (get_ok s k) rfl rfl (fun _ => rfl) ?_
    conv => whnf
    refine ⟨fun gs => ?_, fun gs => ?_⟩
    · conv => whnf
      refine QCallL.pure (get_ok t k) rfl rfl (fun _ => rfl) ?_
      conv => whnf
      refine VL.qop rfl (VL.eq tabOk ?_)
      conv => whnf
      refine .f (by rw [hgd, gs]; simp) ?_
      conv => whnf
      exact ⟨k + 1, by omega, by omega, ⟨rfl, rfl, rfl, rfl, rfl, congrArg (fun x => some (SV.int .i64 x)) (wrap_succ k g), trivial⟩, ⟨rfl, rfl, rfl, rfl, rfl, trivial⟩⟩
    · conv => whnf
      refine VL.qop rfl (VL.eq tabOk ?_)
      conv => whnf
      refine .f (by rw [hgd, gs]; rfl) ?_
      conv => whnf
      exact ⟨k + 1, by omega, by omega, ⟨rfl, rfl, rfl, rfl, rfl, congrArg (fun x => some (SV.int .i64 x)) (wrap_succ k g), trivial⟩, ⟨rfl, rfl, rfl, rfl, rfl, trivial⟩⟩
  · clear g
    conv => whnf
    refine CodeL.loop tabOk (fun k : Nat => ([(7, .slicen 2 0 n 3), (8, .slicen 4 0 n 5), (11, .int .i64 k)], [(2, .row L), (4, .row L)])) (fun k => n - k) (fun k => k ≤ n) rfl (fun k => ⟨rfl, rfl⟩) 0 (Nat.zero_le _) ⟨⟨rfl, rfl, rfl, trivial⟩, ⟨rfl, rfl, trivial⟩⟩ ?_
    intro k hk
    conv => whnf
    refine ⟨fun g => ?_, fun g => ?_⟩
    · have g : k < n := by have := of_decide_eq_true g; omega
      obtain ⟨b, hb⟩ := hget k g
      have hb' : L[0 + k * 1]? = some (.int .i64 b) := by rw [Nat.zero_add, Nat.mul_one]; exact hb
      conv => whnf
      refine CodeL.draw tabOk Try.checked.mixed 9 (by kernel_rfl) rfl ?_
      conv => whnf
      refine ⟨k, rfl, g, .inr ?_⟩
      conv => whnf
      refine ⟨.int .i64 b, ?_, rfl, hb'⟩
      conv => whnf
      refine ⟨k, rfl, g, .inr ?_⟩
      conv => whnf
      refine ⟨.int .i64 b, ?_, rfl, hb'⟩
      conv => whnf
      refine .f (by simp) ?_
      conv => whnf
      have e : IntKind.wrap .i64 ((k : Int) + 1) = ((k + 1 : Nat) : Int) := by rw [wrap_i64 _ (by omega) (by omega)]; omega
      exact ⟨k + 1, by omega, by omega, ⟨rfl, rfl, congrArg (fun x => some (SV.int .i64 x)) e, trivial⟩, ⟨rfl, rfl, trivial⟩⟩
    · conv => whnf
      refine Spec.pure h5 rfl rfl (fun _ => rfl) ?_
      conv => whnf
      intro ρ
      rfl
end Go.Sh.Ytjjnomafohpakaa
