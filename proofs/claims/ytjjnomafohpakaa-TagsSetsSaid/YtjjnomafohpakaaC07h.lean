import Derived.Test.YtjjnomafohpakaaC07g
set_option linter.unusedVariables false
namespace Go.Sh.Ytjjnomafohpakaa
open Go.Proofs Go.Sh

theorem low8 (x : Int) : band .and .i64 x 255 = x % 256 := by
  have key : (BitVec.ofInt 64 x &&& BitVec.ofInt 64 ((255 : Nat) : Int)).toNat = (x % 2 ^ 64).toNat &&& 255 := by
    rw [BitVec.toNat_and, bv_nat, Nat.mod_eq_of_lt (by omega)]
    congr 1
  have a1 : (x % 2 ^ 64).toNat &&& 255 = (x % 2 ^ 64).toNat % 256 := Nat.and_two_pow_sub_one_eq_mod _ 8
  show IntKind.wrap .i64 ((BitVec.ofInt 64 x &&& BitVec.ofInt 64 ((255 : Nat) : Int)).toNat : Int) = _
  rw [key, a1, wrap_i64 _ (by omega) (by omega)]; omega
theorem cnt_with (s : Nat) (i : Int) (h0 : 0 ≤ i) : ∀ n : Nat, n ≤ 256 → cnt (withS s i true) n = cnt (withS s i false) n + if i.toNat < n then 1 else 0
  | 0, _ => rfl
  | n + 1, hn => by
    have b1 : ∀ t, (withS s i t).testBit n = if i.toNat = n then t else s.testBit n := fun t => by
      rw [withS_bit]
      by_cases e : i.toNat = n
      · have : 0 ≤ i ∧ i < 256 ∧ i.toNat = n := ⟨h0, by omega, e⟩
        rw [if_pos this, if_pos e]
      · rw [if_neg (fun g => e g.2.2), if_neg e]
    rw [cnt, cnt, cnt_with s i h0 n (by omega), b1, b1]
    by_cases e : i.toNat = n
    · have e1 : ¬ i.toNat < n := by omega
      have e2 : i.toNat < n + 1 := by omega
      simp only [if_pos e, if_neg e1, if_pos e2]; rfl
    · have e3 : (i.toNat < n + 1) = (i.toNat < n) := propext (by omega)
      simp only [if_neg e, e3]; omega
theorem cnt_part (s t : Nat) : ∀ n, cnt (diffS s t) n + cnt (diffS s (diffS s t)) n = cnt s n
  | 0 => rfl
  | n + 1 => by
    have := cnt_part s t n
    rw [cnt, cnt, cnt, diffS_bit, diffS_bit, diffS_bit]
    cases s.testBit n <;> cases t.testBit n <;> simp <;> omega
theorem diff_none (s t : Nat) : diffS (diffS s t) s = 0 := by
  refine Nat.eq_of_testBit_eq fun j => ?_
  rw [diffS_bit, diffS_bit, Nat.zero_testBit]; cases s.testBit j <;> cases t.testBit j <;> rfl
theorem diff_again (s t : Nat) : diffS (diffS s t) t = diffS s t := by
  refine Nat.eq_of_testBit_eq fun j => ?_
  rw [diffS_bit, diffS_bit]; cases s.testBit j <;> cases t.testBit j <;> rfl
theorem getB_with (s : Nat) (i k : Int) (t : Bool) (h0 : 0 ≤ i) (h1 : i < 256) (k0 : 0 ≤ k) (k1 : k < 256) : getB (withS s i t) k = if i = k then t else getB s k := by
  rw [getB, getB, decide_eq_true ⟨k0, k1⟩, Bool.true_and, Bool.true_and, withS_bit]
  by_cases e : i = k
  · rw [if_pos ⟨h0, h1, by rw [e]⟩, if_pos e]
  · rw [if_neg (fun g => e (by omega)), if_neg e]
theorem cov1616 : getB (buildS (coverP 16 16) 256) 1 = true := by
  rw [getB, buildS_bit _ _ _ (by omega)]; decide

set_option maxHeartbeats 4000000 in
theorem sets_ok (s t : Nat) (i0 k0 : Int) (hs : s < 2 ^ 256) (ht : t < 2 ^ 256) : Pure Try.prog 6 [setV s, setV t, .agg [.int .i64 i0, .int .i64 k0]] .tt := by
  have ei := low8 i0
  have ek := low8 k0
  have hi : 0 ≤ i0 % 256 ∧ i0 % 256 < 256 := by omega
  have hk : 0 ≤ k0 % 256 ∧ k0 % 256 < 256 := by omega
  generalize i0 % 256 = i at ei hi
  generalize k0 % 256 = k at ek hk
  have wX := with_ok s i true
  have wY := with_ok s i false
  have gXi := getB_with s i i true hi.1 hi.2 hi.1 hi.2
  have gYi := getB_with s i i false hi.1 hi.2 hi.1 hi.2
  have gXk := getB_with s i k true hi.1 hi.2 hk.1 hk.2
  have gYk := getB_with s i k false hi.1 hi.2 hk.1 hk.2
  rw [if_pos rfl] at gXi gYi
  have cX := count_ok (withS s i true)
  have cY := count_ok (withS s i false)
  have wXf := with_ok (withS s i true) i false
  rw [withS_twice] at wXf
  have hcnt := cnt_with s i hi.1 256 (Nat.le_refl _)
  rw [if_pos (by omega)] at hcnt
  have lX := cnt_le (withS s i true) 256
  have lY := cnt_le (withS s i false) 256
  generalize withS s i true = X at wX gXi gXk cX wXf hcnt lX
  generalize withS s i false = Y at wY gYi gYk cY wXf hcnt lY
  have hall := all_ok s
  have cS := count_ok s
  have wst := without_ok s t ht
  have la := diffS_lt s t hs
  have wsa := without_ok s (diffS s t) la
  have was := without_ok (diffS s t) s hs
  have wat := without_ok (diffS s t) t ht
  rw [diff_none] at was
  rw [diff_again] at wat
  have cA := count_ok (diffS s t)
  have cB := count_ok (diffS s (diffS s t))
  have hpart := cnt_part s t 256
  generalize diffS s (diffS s t) = B at wsa cB hpart
  generalize diffS s t = A at wst la wsa was wat cA hpart
  have lS := cnt_le s 256
  generalize cnt s 256 = nS at hall cS hpart lS
  generalize cnt A 256 = nA at cA hpart
  generalize cnt B 256 = nB at cB hpart
  generalize cnt X 256 = nX at cX hcnt lX
  generalize cnt Y 256 = nY at cY hcnt lY
  generalize bitsL s 256 = L at hall
  have hcov := cover_ok 16 16 ⟨by omega, by omega⟩ ⟨by omega, by omega⟩
  have h1616 := cov1616
  generalize buildS (coverP 16 16) 256 = C at hcov h1616
  refine Spec.of_body tabOk Try.func6 rfl (ent Try.func6 rfl (by kernel_rfl)) Try.ntmps6 rfl (by kernel_rfl) (Nat.le_of_ble_eq_true rfl) ?_
  conv => whnf
  refine CodeL.draw tabOk Try.checked.mixed 8 (by kernel_rfl) rfl ?_
  conv => whnf
  refine Spec.pure wX rfl rfl (fun ρ => by rw [ei]; rfl) ?_
  conv => whnf
  refine Spec.pure wY rfl rfl (fun ρ => by rw [ei]; rfl) ?_
  conv => whnf
  refine CodeL.draw tabOk Try.checked.mixed 47 (by kernel_rfl) rfl ?_
  conv => whnf
  refine QCallL.pure (get_ok X i) rfl rfl (fun ρ => by rw [ei]; rfl) ?_
  conv => whnf
  refine .f (by rw [gXi]; rfl) ?_
  conv => whnf
  refine QCallL.pure (get_ok Y i) rfl rfl (fun ρ => by rw [ei]; rfl) ?_
  conv => whnf
  refine .f gYi ?_
  conv => whnf
  refine ⟨fun e => ?_, fun e => ?_⟩
  · rw [ei, ek] at e
    have e : ¬ i = k := by simpa using e
    rw [if_neg e] at gXk gYk
    conv => whnf
    refine QCallL.pure (get_ok X k) rfl rfl (fun ρ => by rw [ek]; rfl) ?_
    conv => whnf
    refine QCallL.pure (get_ok s k) rfl rfl (fun ρ => by rw [ek]; rfl) ?_
    conv => whnf
    refine VL.qop rfl (VL.eq tabOk ?_)
    conv => whnf
    refine .f (by rw [gXk]; simp) ?_
    conv => whnf
    refine QCallL.pure (get_ok Y k) rfl rfl (fun ρ => by rw [ek]; rfl) ?_
    conv => whnf
    refine QCallL.pure (get_ok s k) rfl rfl (fun ρ => by rw [ek]; rfl) ?_
    conv => whnf
    refine VL.qop rfl (VL.eq tabOk ?_)
    conv => whnf
    refine .f (by rw [gYk]; simp) ?_
    conv => whnf
    refine QCallL.pure cX rfl rfl (fun _ => rfl) ?_
    conv => whnf
    refine QCallL.pure cY rfl rfl (fun _ => rfl) ?_
    conv => whnf
    refine .f (by rw [wrap_i64 _ (by omega) (by omega), hcnt]; simp; omega) ?_
    conv => whnf
    refine QCallL.pure wXf rfl rfl (fun ρ => by rw [ei]; rfl) ?_
    conv => whnf
    refine VL.qop rfl (VL.eq tabOk ?_)
    conv => whnf
    refine ⟨by kernel_rfl, ?_⟩
    conv => whnf
    refine .f (by rw [sameSet']; rfl) ?_
    conv => whnf
    refine Spec.pure wst rfl rfl (fun _ => rfl) ?_
    conv => whnf
    refine Spec.pure wsa rfl rfl (fun _ => rfl) ?_
    conv => whnf
    refine CodeL.draw tabOk Try.checked.mixed 35 (by kernel_rfl) rfl ?_
    conv => whnf
    refine QCallL.pure cA rfl rfl (fun _ => rfl) ?_
    conv => whnf
    refine QCallL.pure cB rfl rfl (fun _ => rfl) ?_
    conv => whnf
    refine QCallL.pure cS rfl rfl (fun _ => rfl) ?_
    conv => whnf
    refine .t (by rw [wrap_i64 _ (by omega) (by omega)]; exact decide_eq_true (by omega)) ?_
    conv => whnf
    refine QCallL.pure was rfl rfl (fun _ => rfl) ?_
    conv => whnf
    refine QCallL.pure (any_ok 0 (by decide)) rfl rfl (fun _ => rfl) ?_
    conv => whnf
    refine .t rfl ?_
    conv => whnf
    refine QCallL.makes hall rfl rfl rfl (fun i so hi => by rw [look_cons] at hi; split at hi <;> first | omega | cases hi) (fun _ => rfl) ?_
    conv => whnf
    refine QCallL.pure cS rfl rfl (fun _ => rfl) ?_
    conv => whnf
    refine .t (by simp) ?_
    conv => whnf
    refine QCallL.pure wat rfl rfl (fun _ => rfl) ?_
    conv => whnf
    refine VL.qop rfl (VL.eq tabOk ?_)
    conv => whnf
    refine ⟨by kernel_rfl, ?_⟩
    conv => whnf
    refine .t (sameSet' _) ?_
    conv => whnf
    refine QCallL.pure hcov rfl rfl (fun _ => rfl) ?_
    conv => whnf
    refine QCallL.pure (get_ok C 1) rfl rfl (fun _ => rfl) ?_
    conv => whnf
    intro ρ
    exact congrArg Value.bool h1616
  · conv => whnf
    refine QCallL.pure cX rfl rfl (fun _ => rfl) ?_
    conv => whnf
    refine QCallL.pure cY rfl rfl (fun _ => rfl) ?_
    conv => whnf
    refine .f (by rw [wrap_i64 _ (by omega) (by omega), hcnt]; simp; omega) ?_
    conv => whnf
    refine QCallL.pure wXf rfl rfl (fun ρ => by rw [ei]; rfl) ?_
    conv => whnf
    refine VL.qop rfl (VL.eq tabOk ?_)
    conv => whnf
    refine ⟨by kernel_rfl, ?_⟩
    conv => whnf
    refine .f (by rw [sameSet']; rfl) ?_
    conv => whnf
    refine Spec.pure wst rfl rfl (fun _ => rfl) ?_
    conv => whnf
    refine Spec.pure wsa rfl rfl (fun _ => rfl) ?_
    conv => whnf
    refine CodeL.draw tabOk Try.checked.mixed 35 (by kernel_rfl) rfl ?_
    conv => whnf
    refine QCallL.pure cA rfl rfl (fun _ => rfl) ?_
    conv => whnf
    refine QCallL.pure cB rfl rfl (fun _ => rfl) ?_
    conv => whnf
    refine QCallL.pure cS rfl rfl (fun _ => rfl) ?_
    conv => whnf
    refine .t (by rw [wrap_i64 _ (by omega) (by omega)]; exact decide_eq_true (by omega)) ?_
    conv => whnf
    refine QCallL.pure was rfl rfl (fun _ => rfl) ?_
    conv => whnf
    refine QCallL.pure (any_ok 0 (by decide)) rfl rfl (fun _ => rfl) ?_
    conv => whnf
    refine .t rfl ?_
    conv => whnf
    refine QCallL.makes hall rfl rfl rfl (fun i so hi => by rw [look_cons] at hi; split at hi <;> first | omega | cases hi) (fun _ => rfl) ?_
    conv => whnf
    refine QCallL.pure cS rfl rfl (fun _ => rfl) ?_
    conv => whnf
    refine .t (by simp) ?_
    conv => whnf
    refine QCallL.pure wat rfl rfl (fun _ => rfl) ?_
    conv => whnf
    refine VL.qop rfl (VL.eq tabOk ?_)
    conv => whnf
    refine ⟨by kernel_rfl, ?_⟩
    conv => whnf
    refine .t (sameSet' _) ?_
    conv => whnf
    refine QCallL.pure hcov rfl rfl (fun _ => rfl) ?_
    conv => whnf
    refine QCallL.pure (get_ok C 1) rfl rfl (fun _ => rfl) ?_
    conv => whnf
    intro ρ
    exact congrArg Value.bool h1616
end Go.Sh.Ytjjnomafohpakaa
