import Derived.Test.YtjjnomafohpakaaC07b
import Derived.Test.YtjjnomafohpakaaC07d
set_option linter.unusedVariables false
namespace Go.Sh.Ytjjnomafohpakaa
open Go.Proofs Go.Sh

theorem low (x : Int) (hx : i64 x) : band .and .i64 x 4095 = x % 4096 ∧ band .and .i64 x 8191 = x % 8192 := by
  have key : ∀ m : Nat, m < 2 ^ 20 → (BitVec.ofInt 64 x &&& BitVec.ofInt 64 (m : Int)).toNat = (x % 2 ^ 64).toNat &&& m := fun m hm => by
    rw [BitVec.toNat_and, bv_nat, Nat.mod_eq_of_lt (by omega)]
    congr 1
  have a1 : (x % 2 ^ 64).toNat &&& 4095 = (x % 2 ^ 64).toNat % 4096 := Nat.and_two_pow_sub_one_eq_mod _ 12
  have a2 : (x % 2 ^ 64).toNat &&& 8191 = (x % 2 ^ 64).toNat % 8192 := Nat.and_two_pow_sub_one_eq_mod _ 13
  refine ⟨?_, ?_⟩
  · show IntKind.wrap .i64 ((BitVec.ofInt 64 x &&& BitVec.ofInt 64 ((4095 : Nat) : Int)).toNat : Int) = _
    rw [key 4095 (by decide), a1, wrap_i64 _ (by omega) (by omega)]; omega
  · show IntKind.wrap .i64 ((BitVec.ofInt 64 x &&& BitVec.ofInt 64 ((8191 : Nat) : Int)).toNat : Int) = _
    rw [key 8191 (by decide), a2, wrap_i64 _ (by omega) (by omega)]; omega

theorem cnt_one (s m : Nat) : ∀ n, (∀ j, j < n → s.testBit j = decide (j = m)) → cnt s n = if m < n then 1 else 0
  | 0, _ => rfl
  | n + 1, h => by
    rw [cnt, cnt_one s m n (fun j hj => h j (by omega)), h n (by omega)]
    by_cases e : n = m
    · subst e; simp
    · rw [decide_eq_false e]
      have : (m < n + 1) = (m < n) := propext (by omega)
      simp only [this]; split <;> rfl
theorem getB_build (p : Nat → Bool) (i : Int) (h0 : 0 ≤ i) (h1 : i < 256) : getB (buildS p 256) i = p i.toNat := by
  rw [getB, decide_eq_true ⟨h0, h1⟩, Bool.true_and, buildS_bit p 256 _ (by omega)]
  have : i.toNat < 256 := by omega
  simp [this]
/-- A set by its bits: what a law wants of Cover's answer. -/
theorem build_some (p : Nat → Bool) (j : Nat) (hj : j < 256) (h : p j = true) : buildS p 256 ≠ 0 := fun e => by
  have := buildS_bit p 256 j (by omega)
  rw [e, h] at this
  simp [hj] at this
theorem diff_self (s : Nat) : diffS s s = 0 := by
  refine Nat.eq_of_testBit_eq fun j => ?_
  rw [diffS_bit, Nat.zero_testBit]; cases s.testBit j <;> rfl

theorem bytes_ok (off n0 cut : Int) (ho : i64 off) (hn : i64 n0) (hc : i64 cut) : Pure Try.prog 5 [.int .i64 off, .int .i64 n0, .int .i64 cut] .tt := by
  refine Spec.of_body tabOk Try.func5 rfl (ent Try.func5 rfl (by kernel_rfl)) Try.ntmps5 rfl (by kernel_rfl) (Nat.le_of_ble_eq_true rfl) ?_
  have eo := (low off ho).1
  have en := (low n0 hn).2
  conv => whnf
  rw [eo, en]
  have ho0 : 0 ≤ off % 4096 := by omega
  have ho1 : off % 4096 < 4096 := by omega
  have hn0 : 0 ≤ n0 % 8192 := by omega
  have hn1 : n0 % 8192 < 8192 := by omega
  generalize off % 4096 = o at ho0 ho1
  generalize n0 % 8192 = n at hn0 hn1
  refine ⟨fun h => ?_, fun h => ?_⟩
  · have h := of_decide_eq_true h
    conv => whnf
    refine ⟨by omega, ?_⟩
    conv => whnf
    refine ⟨by omega, ?_⟩
    have t0 := Int.lt_tmod_of_pos cut h
    have t1 := Int.tmod_lt_of_pos cut h
    have ek : IntKind.wrap .i64 (cut.tmod n + n) = cut.tmod n + n := wrap_i64 _ (by omega) (by omega)
    have k0 : 0 ≤ (cut.tmod n + n).tmod n := Int.tmod_nonneg _ (by omega)
    have k1 := Int.tmod_lt_of_pos (cut.tmod n + n) h
    conv => whnf
    rw [ek]
    generalize (cut.tmod n + n).tmod n = k at k0 k1
    -- o, n: off, n; k: the cut k, ck: 0 ≤ k ≤ n; kw: 0 < n → k < n
    have ca := cover_ok o k ⟨by omega, by omega⟩ ⟨by omega, by omega⟩
    have cb := cover_ok (o + k) (n - k) ⟨by omega, by omega⟩ ⟨by omega, by omega⟩
    have call := cover_ok o n ⟨by omega, by omega⟩ ⟨by omega, by omega⟩
    have cone := cover_ok o 1 ⟨by omega, by omega⟩ ⟨by omega, by omega⟩
    have cz := cover_ok 4096 5 ⟨by omega, by omega⟩ ⟨by omega, by omega⟩
    have gab : ∀ i : Int, 0 ≤ i → i < 256 → getB (buildS (coverP o n) 256) i = (getB (buildS (coverP o k) 256) i || getB (buildS (coverP (o + k) (n - k)) 256) i) := fun i h0 h1 => by
      rw [getB_build _ i h0 h1, getB_build _ i h0 h1, getB_build _ i h0 h1]
      simp only [coverP, ← Bool.decide_or]
      exact decide_eq_decide.2 (by omega)
    have gone : getB (buildS (coverP o 1) 256) (o / 16) = true := by
      rw [getB_build _ _ (by omega) (by omega)]; exact decide_eq_true (by omega)
    have cone1 : cnt (buildS (coverP o 1) 256) 256 = 1 := by
      rw [cnt_one _ (o / 16).toNat 256 (fun j hj => ?_), if_pos (by omega)]
      rw [buildS_bit _ _ _ (by omega), decide_eq_true hj, Bool.true_and]
      exact decide_eq_decide.2 (by omega)
    have gz : buildS (coverP 4096 5) 256 = 0 := buildS_none _ fun j hj => decide_eq_false (by omega)
    have gn : decide (n = 0) = decide (buildS (coverP o n) 256 = 0) := by
      by_cases e : n = 0
      · rw [decide_eq_true e, decide_eq_true (buildS_none (coverP o n) fun j hj => decide_eq_false (by omega))]
      · rw [decide_eq_false e, decide_eq_false (build_some (coverP o n) (o / 16).toNat (by omega) (decide_eq_true (by omega)))]
    have la := buildS_lt (coverP o n) 256
    rw [gz] at cz
    generalize buildS (coverP o k) 256 = A at ca gab
    generalize buildS (coverP (o + k) (n - k)) 256 = B at cb gab
    generalize buildS (coverP o n) 256 = S at call gab gn la
    generalize buildS (coverP o 1) 256 = S1 at cone gone cone1
    refine Spec.pure ca rfl rfl (fun _ => rfl) ?_
    conv => whnf
    refine Spec.pure cb rfl rfl (fun ρ => by rw [wrap_i64 (o + k) (by omega) (by omega), wrap_i64 (n - k) (by omega) (by omega)]; rfl) ?_
    conv => whnf
    refine Spec.pure call rfl rfl (fun _ => rfl) ?_
    conv => whnf
    refine CodeL.loop tabOk (fun k : Nat => ([(0, .int .i64 o), (1, .int .i64 n), (8, .ptr 0 0), (9, .ptr 1 0), (10, .ptr 2 0), (11, .int .i64 k)], [(0, .cells (setCells A)), (1, .cells (setCells B)), (2, .cells (setCells S))])) (fun k => 256 - k) (fun k => k ≤ 256) rfl (fun k => ⟨rfl, rfl⟩) 0 (Nat.zero_le _) ⟨⟨rfl, rfl, rfl, rfl, rfl, rfl, trivial⟩, ⟨rfl, rfl, rfl, trivial⟩⟩ ?_
    intro i hi
    conv => whnf
    refine ⟨fun g => ?_, fun g => ?_⟩
    · have g : i < 256 := by have := of_decide_eq_true g; omega
      have gi := gab i (by omega) (by omega)
      conv => whnf
      refine CodeL.draw tabOk Try.checked.mixed 12 (by kernel_rfl) rfl ?_
      conv => whnf
      refine QCallL.pure (get_ok S i) rfl rfl (fun _ => rfl) ?_
      conv => whnf
      refine QCallL.pure (get_ok A i) rfl rfl (fun _ => rfl) ?_
      conv => whnf
      refine ⟨fun ga => ?_, fun ga => ?_⟩
      · conv => whnf
        refine VL.qop rfl (VL.eq tabOk ?_)
        conv => whnf
        refine .f (by rw [gi, ga]; rfl) ?_
        conv => whnf
        exact ⟨i + 1, by omega, by omega, ⟨rfl, rfl, rfl, rfl, rfl, congrArg (fun x => some (SV.int .i64 x)) (wrap_succ i g), trivial⟩, ⟨rfl, rfl, rfl, trivial⟩⟩
      · conv => whnf
        refine QCallL.pure (get_ok B i) rfl rfl (fun _ => rfl) ?_
        conv => whnf
        refine VL.qop rfl (VL.eq tabOk ?_)
        conv => whnf
        refine .f (by rw [gi, ga]; simp) ?_
        conv => whnf
        exact ⟨i + 1, by omega, by omega, ⟨rfl, rfl, rfl, rfl, rfl, congrArg (fun x => some (SV.int .i64 x)) (wrap_succ i g), trivial⟩, ⟨rfl, rfl, rfl, trivial⟩⟩
    · conv => whnf
      refine Spec.pure cone rfl rfl (fun _ => rfl) ?_
      conv => whnf
      refine Spec.pure (count_ok S1) rfl rfl (fun _ => rfl) ?_
      conv => whnf
      refine .t (by rw [cone1]; rfl) ?_
      conv => whnf
      refine Spec.pure (get_ok S1 (o / 16)) rfl rfl (fun ρ => by rw [Int.tdiv_eq_ediv_of_nonneg (by omega), wrap_i64 _ (by omega) (by omega)]; rfl) ?_
      conv => whnf
      refine .t gone ?_
      conv => whnf
      refine Spec.pure (any_ok S la) rfl rfl (fun _ => rfl) ?_
      conv => whnf
      refine VL.op (VL.eq tabOk ?_)
      conv => whnf
      refine .t (by rw [gn, Bool.not_not]; simp) ?_
      conv => whnf
      refine Spec.pure cz rfl rfl (fun _ => rfl) ?_
      conv => whnf
      refine Spec.pure (any_ok 0 (by decide)) rfl rfl (fun _ => rfl) ?_
      conv => whnf
      refine .t rfl ?_
      conv => whnf
      refine Spec.pure (without_ok S S la) rfl rfl (fun _ => rfl) ?_
      rw [diff_self]
      conv => whnf
      refine VL.op (VL.eq tabOk ?_)
      conv => whnf
      refine ⟨by kernel_rfl, ?_⟩
      conv => whnf
      intro ρ
      rfl
  · have h := of_decide_eq_false h
    conv => whnf
    -- o, n: off, n; 0: the cut k, ck: 0 ≤ k ≤ n; kw: 0 < n → k < n
    have ca := cover_ok o 0 ⟨by omega, by omega⟩ ⟨by omega, by omega⟩
    have cb := cover_ok (o + 0) (n - 0) ⟨by omega, by omega⟩ ⟨by omega, by omega⟩
    have call := cover_ok o n ⟨by omega, by omega⟩ ⟨by omega, by omega⟩
    have cone := cover_ok o 1 ⟨by omega, by omega⟩ ⟨by omega, by omega⟩
    have cz := cover_ok 4096 5 ⟨by omega, by omega⟩ ⟨by omega, by omega⟩
    have gab : ∀ i : Int, 0 ≤ i → i < 256 → getB (buildS (coverP o n) 256) i = (getB (buildS (coverP o 0) 256) i || getB (buildS (coverP (o + 0) (n - 0)) 256) i) := fun i h0 h1 => by
      rw [getB_build _ i h0 h1, getB_build _ i h0 h1, getB_build _ i h0 h1]
      simp only [coverP, ← Bool.decide_or]
      exact decide_eq_decide.2 (by omega)
    have gone : getB (buildS (coverP o 1) 256) (o / 16) = true := by
      rw [getB_build _ _ (by omega) (by omega)]; exact decide_eq_true (by omega)
    have cone1 : cnt (buildS (coverP o 1) 256) 256 = 1 := by
      rw [cnt_one _ (o / 16).toNat 256 (fun j hj => ?_), if_pos (by omega)]
      rw [buildS_bit _ _ _ (by omega), decide_eq_true hj, Bool.true_and]
      exact decide_eq_decide.2 (by omega)
    have gz : buildS (coverP 4096 5) 256 = 0 := buildS_none _ fun j hj => decide_eq_false (by omega)
    have gn : decide (n = 0) = decide (buildS (coverP o n) 256 = 0) := by
      by_cases e : n = 0
      · rw [decide_eq_true e, decide_eq_true (buildS_none (coverP o n) fun j hj => decide_eq_false (by omega))]
      · rw [decide_eq_false e, decide_eq_false (build_some (coverP o n) (o / 16).toNat (by omega) (decide_eq_true (by omega)))]
    have la := buildS_lt (coverP o n) 256
    rw [gz] at cz
    generalize buildS (coverP o 0) 256 = A at ca gab
    generalize buildS (coverP (o + 0) (n - 0)) 256 = B at cb gab
    generalize buildS (coverP o n) 256 = S at call gab gn la
    generalize buildS (coverP o 1) 256 = S1 at cone gone cone1
    refine Spec.pure ca rfl rfl (fun _ => rfl) ?_
    conv => whnf
    refine Spec.pure cb rfl rfl (fun ρ => by rw [wrap_i64 (o + 0) (by omega) (by omega), wrap_i64 (n - 0) (by omega) (by omega)]; rfl) ?_
    conv => whnf
    refine Spec.pure call rfl rfl (fun _ => rfl) ?_
    conv => whnf
    refine CodeL.loop tabOk (fun k : Nat => ([(0, .int .i64 o), (1, .int .i64 n), (8, .ptr 0 0), (9, .ptr 1 0), (10, .ptr 2 0), (11, .int .i64 k)], [(0, .cells (setCells A)), (1, .cells (setCells B)), (2, .cells (setCells S))])) (fun k => 256 - k) (fun k => k ≤ 256) rfl (fun k => ⟨rfl, rfl⟩) 0 (Nat.zero_le _) ⟨⟨rfl, rfl, rfl, rfl, rfl, rfl, trivial⟩, ⟨rfl, rfl, rfl, trivial⟩⟩ ?_
    intro i hi
    conv => whnf
    refine ⟨fun g => ?_, fun g => ?_⟩
    · have g : i < 256 := by have := of_decide_eq_true g; omega
      have gi := gab i (by omega) (by omega)
      conv => whnf
      refine CodeL.draw tabOk Try.checked.mixed 12 (by kernel_rfl) rfl ?_
      conv => whnf
      refine QCallL.pure (get_ok S i) rfl rfl (fun _ => rfl) ?_
      conv => whnf
      refine QCallL.pure (get_ok A i) rfl rfl (fun _ => rfl) ?_
      conv => whnf
      refine ⟨fun ga => ?_, fun ga => ?_⟩
      · conv => whnf
        refine VL.qop rfl (VL.eq tabOk ?_)
        conv => whnf
        refine .f (by rw [gi, ga]; rfl) ?_
        conv => whnf
        exact ⟨i + 1, by omega, by omega, ⟨rfl, rfl, rfl, rfl, rfl, congrArg (fun x => some (SV.int .i64 x)) (wrap_succ i g), trivial⟩, ⟨rfl, rfl, rfl, trivial⟩⟩
      · conv => whnf
        refine QCallL.pure (get_ok B i) rfl rfl (fun _ => rfl) ?_
        conv => whnf
        refine VL.qop rfl (VL.eq tabOk ?_)
        conv => whnf
        refine .f (by rw [gi, ga]; simp) ?_
        conv => whnf
        exact ⟨i + 1, by omega, by omega, ⟨rfl, rfl, rfl, rfl, rfl, congrArg (fun x => some (SV.int .i64 x)) (wrap_succ i g), trivial⟩, ⟨rfl, rfl, rfl, trivial⟩⟩
    · conv => whnf
      refine Spec.pure cone rfl rfl (fun _ => rfl) ?_
      conv => whnf
      refine Spec.pure (count_ok S1) rfl rfl (fun _ => rfl) ?_
      conv => whnf
      refine .t (by rw [cone1]; rfl) ?_
      conv => whnf
      refine Spec.pure (get_ok S1 (o / 16)) rfl rfl (fun ρ => by rw [Int.tdiv_eq_ediv_of_nonneg (by omega), wrap_i64 _ (by omega) (by omega)]; rfl) ?_
      conv => whnf
      refine .t gone ?_
      conv => whnf
      refine Spec.pure (any_ok S la) rfl rfl (fun _ => rfl) ?_
      conv => whnf
      refine VL.op (VL.eq tabOk ?_)
      conv => whnf
      refine .t (by rw [gn, Bool.not_not]; simp) ?_
      conv => whnf
      refine Spec.pure cz rfl rfl (fun _ => rfl) ?_
      conv => whnf
      refine Spec.pure (any_ok 0 (by decide)) rfl rfl (fun _ => rfl) ?_
      conv => whnf
      refine .t rfl ?_
      conv => whnf
      refine Spec.pure (without_ok S S la) rfl rfl (fun _ => rfl) ?_
      rw [diff_self]
      conv => whnf
      refine VL.op (VL.eq tabOk ?_)
      conv => whnf
      refine ⟨by kernel_rfl, ?_⟩
      conv => whnf
      intro ρ
      rfl
end Go.Sh.Ytjjnomafohpakaa
