import Derived.Test.YtkopfaenfaelfaaSh18
/- Sets of 256 bits, as numbers: plain lemmas. -/
namespace Go.Sh

/-! ### Words -/
theorem wrap_u64 (x : Int) : IntKind.wrap .u64 x = x % 2 ^ 64 := by simp [IntKind.wrap, IntKind.bits, IntKind.signed]
theorem wrap_i64 (x : Int) (h0 : -9223372036854775808 ≤ x) (h1 : x ≤ 9223372036854775807) : IntKind.wrap .i64 x = x := by
  simp [IntKind.wrap, IntKind.bits, IntKind.signed]; omega
theorem wrap_u64_of (x : Int) (h0 : 0 ≤ x) (h1 : x < 18446744073709551616) : IntKind.wrap .u64 x = x := by rw [wrap_u64]; omega

theorem bv_nat (a : Nat) : (BitVec.ofInt 64 (a : Int)).toNat = a % 2 ^ 64 := by
  simp

theorem wrapn (a : Nat) (h : a < 2 ^ 64) : IntKind.wrap .u64 (a : Int) = a := wrap_u64_of _ (by omega) (by omega)

theorem band_and (a b : Nat) (ha : a < 2 ^ 64) (hb : b < 2 ^ 64) : band .and .u64 (a : Int) (b : Int) = ((a &&& b : Nat) : Int) := by
  have : (BitVec.ofInt 64 (a : Int) &&& BitVec.ofInt 64 (b : Int)).toNat = a &&& b := by
    rw [BitVec.toNat_and, bv_nat, bv_nat, Nat.mod_eq_of_lt ha, Nat.mod_eq_of_lt hb]
  show IntKind.wrap .u64 ((BitVec.ofInt 64 (a : Int) &&& BitVec.ofInt 64 (b : Int)).toNat : Int) = _
  rw [this, wrapn _ (Nat.lt_of_le_of_lt Nat.and_le_left ha)]
theorem band_or (a b : Nat) (ha : a < 2 ^ 64) (hb : b < 2 ^ 64) : band .or .u64 (a : Int) (b : Int) = ((a ||| b : Nat) : Int) := by
  have : (BitVec.ofInt 64 (a : Int) ||| BitVec.ofInt 64 (b : Int)).toNat = a ||| b := by
    rw [BitVec.toNat_or, bv_nat, bv_nat, Nat.mod_eq_of_lt ha, Nat.mod_eq_of_lt hb]
  show IntKind.wrap .u64 ((BitVec.ofInt 64 (a : Int) ||| BitVec.ofInt 64 (b : Int)).toNat : Int) = _
  rw [this, wrapn _ (Nat.or_lt_two_pow ha hb)]
theorem band_andNot (a b : Nat) (ha : a < 2 ^ 64) (hb : b < 2 ^ 64) : band .andNot .u64 (a : Int) (b : Int) = ((a &&& (2 ^ 64 - 1 - b) : Nat) : Int) := by
  have : (BitVec.ofInt 64 (a : Int) &&& ~~~ BitVec.ofInt 64 (b : Int)).toNat = a &&& (2 ^ 64 - 1 - b) := by
    rw [BitVec.toNat_and, BitVec.toNat_not, bv_nat, bv_nat, Nat.mod_eq_of_lt ha, Nat.mod_eq_of_lt hb]
  show IntKind.wrap .u64 ((BitVec.ofInt 64 (a : Int) &&& ~~~ BitVec.ofInt 64 (b : Int)).toNat : Int) = _
  rw [this, wrapn _ (Nat.lt_of_le_of_lt Nat.and_le_left ha)]
theorem shl_one (r : Nat) (hr : r < 64) : shlI .u64 1 (r : Int) = ((2 ^ r : Nat) : Int) := by
  have h : (2 : Nat) ^ r < 2 ^ 64 := Nat.pow_lt_pow_right (by omega) hr
  show IntKind.wrap .u64 (1 * 2 ^ min (r : Int).toNat 64) = _
  rw [Int.toNat_natCast, Nat.min_eq_left (by omega), Int.one_mul, ← wrapn _ h]
  push_cast; rfl
theorem shr_nat (k : IntKind) (a r : Nat) (hr : r ≤ k.bits) : shrI k (a : Int) (r : Int) = ((a >>> r : Nat) : Int) := by
  show (a : Int) / 2 ^ min (r : Int).toNat k.bits = _
  rw [Int.toNat_natCast, Nat.min_eq_left hr, Nat.shiftRight_eq_div_pow]; push_cast; rfl

def i64 (n : Int) : Prop := -9223372036854775808 ≤ n ∧ n ≤ 9223372036854775807
theorem i64_of {a : Int} (h : (Lit.int .i64 a).wf = true) : i64 a := by
  simp only [Lit.wf, Bool.and_eq_true, decide_eq_true_eq, IntKind.min, IntKind.max, IntKind.bits, IntKind.signed] at h
  unfold i64; simp at h; omega

/-! ### Sets -/
def wn (s k : Nat) : Nat := (s >>> (64 * k)) % 2 ^ 64
def wd (s k : Nat) : Int := (wn s k : Int)
def setCells (s : Nat) : List SV := [.int .u64 (wd s 0), .int .u64 (wd s 1), .int .u64 (wd s 2), .int .u64 (wd s 3)]
def setV (s : Nat) : SV := .agg (setCells s)

theorem wn_lt (s k : Nat) : wn s k < 2 ^ 64 := Nat.mod_lt _ (by decide)
theorem wn_bit (s k j : Nat) : (wn s k).testBit j = (decide (j < 64) && s.testBit (64 * k + j)) := by
  rw [wn, Nat.testBit_mod_two_pow, Nat.testBit_shiftRight]

def getB (s : Nat) (i : Int) : Bool := decide (0 ≤ i ∧ i < 256) && s.testBit i.toNat
def withS (s : Nat) (i : Int) (t : Bool) : Nat :=
  if 0 ≤ i ∧ i < 256 then (if t = true then s ||| 2 ^ i.toNat else (s ||| 2 ^ i.toNat) ^^^ 2 ^ i.toNat) else s

theorem getB_nat (s k : Nat) (h : k < 256) : getB s k = s.testBit k := by
  rw [getB, decide_eq_true ⟨by omega, by omega⟩, Bool.true_and, Int.toNat_natCast]
theorem wrap_succ (k : Nat) (h : k < 256) : IntKind.wrap .i64 ((k : Int) + 1) = ((k + 1 : Nat) : Int) := by rw [wrap_i64 _ (by omega) (by omega)]; omega

theorem withS_bit (s : Nat) (i : Int) (t : Bool) (j : Nat) : (withS s i t).testBit j = if 0 ≤ i ∧ i < 256 ∧ i.toNat = j then t else s.testBit j := by
  unfold withS
  by_cases h : 0 ≤ i ∧ i < 256
  · rw [if_pos h]
    cases t
    · simp only [Bool.false_eq_true, if_false, Nat.testBit_xor, Nat.testBit_or, Nat.testBit_two_pow]
      by_cases e : i.toNat = j
      · simp [e, h.1, h.2]
      · simp [e]
    · simp only [if_true, Nat.testBit_or, Nat.testBit_two_pow]
      by_cases e : i.toNat = j
      · simp [e, h.1, h.2]
      · simp [e]
  · rw [if_neg h, if_neg (fun g => h ⟨g.1, g.2.1⟩)]

theorem withS_out (s : Nat) (i : Int) (t : Bool) (h : ¬ (0 ≤ i ∧ i < 256)) : withS s i t = s := if_neg h

theorem idx_word (i : Int) (k : Nat) (h0 : 0 ≤ i) (h1 : i < 256) (hk : i / 64 = k) : IntKind.wrap .i64 (i.tdiv 64) = (k : Int) := by
  rw [Int.tdiv_eq_ediv_of_nonneg h0, wrap_i64 _ (by omega) (by omega), hk]
theorem idx_bit (i : Int) (h0 : 0 ≤ i) : i.tmod 64 = ((i.toNat % 64 : Nat) : Int) := by
  rw [Int.tmod_eq_emod_of_nonneg h0]; omega

theorem bit_lt (i : Int) : 2 ^ (i.toNat % 64) < 2 ^ 64 := Nat.pow_lt_pow_right (by omega) (Nat.mod_lt _ (by omega))

theorem wd_other (s : Nat) (i : Int) (t : Bool) (k : Nat) (hk : ¬ i / 64 = k) : wd (withS s i t) k = wd s k := by
  unfold wd
  congr 1
  refine Nat.eq_of_testBit_eq fun j => ?_
  rw [wn_bit, wn_bit, withS_bit]
  by_cases hj : j < 64
  · rw [if_neg (fun g => hk (by omega))]
  · simp [hj]

theorem wd_set (s : Nat) (i : Int) (k : Nat) (h0 : 0 ≤ i) (h1 : i < 256) (hk : i / 64 = k) : band .or .u64 (wd s k) (shlI .u64 1 (i.tmod 64)) = wd (withS s i true) k := by
  rw [idx_bit i h0, shl_one _ (Nat.mod_lt _ (by omega)), wd, band_or _ _ (wn_lt _ _) (bit_lt i), wd]
  congr 1
  refine Nat.eq_of_testBit_eq fun j => ?_
  rw [wn_bit, withS_bit, Nat.testBit_or, wn_bit, Nat.testBit_two_pow]
  by_cases hj : j < 64
  · by_cases e : i.toNat = 64 * k + j
    · rw [if_pos ⟨h0, h1, e⟩]
      have : i.toNat % 64 = j := by omega
      simp [hj, this]
    · rw [if_neg (fun g => e g.2.2)]
      have : ¬ i.toNat % 64 = j := by omega
      simp [hj, this]
  · have : ¬ i.toNat % 64 = j := by omega
    simp [hj, this]

theorem not_bit (b : Nat) (hb : b < 2 ^ 64) (j : Nat) : (2 ^ 64 - 1 - b).testBit j = (decide (j < 64) && !b.testBit j) := by
  have := Nat.testBit_two_pow_sub_succ (x := b) (n := 64) hb j
  rw [show 2 ^ 64 - 1 - b = 2 ^ 64 - (b + 1) from by omega]; exact this

theorem wd_clear (s : Nat) (i : Int) (k : Nat) (h0 : 0 ≤ i) (h1 : i < 256) (hk : i / 64 = k) : band .andNot .u64 (wd s k) (shlI .u64 1 (i.tmod 64)) = wd (withS s i false) k := by
  rw [idx_bit i h0, shl_one _ (Nat.mod_lt _ (by omega)), wd, band_andNot _ _ (wn_lt _ _) (bit_lt i), wd]
  congr 1
  refine Nat.eq_of_testBit_eq fun j => ?_
  rw [wn_bit, withS_bit, Nat.testBit_and, wn_bit, not_bit _ (bit_lt i), Nat.testBit_two_pow]
  by_cases hj : j < 64
  · by_cases e : i.toNat = 64 * k + j
    · rw [if_pos ⟨h0, h1, e⟩]
      have : i.toNat % 64 = j := by omega
      simp [hj, this]
    · rw [if_neg (fun g => e g.2.2)]
      have : ¬ i.toNat % 64 = j := by omega
      simp [hj, this]
  · simp [hj]

theorem withS_twice (s : Nat) (i : Int) (a b : Bool) : withS (withS s i a) i b = withS s i b := by
  refine Nat.eq_of_testBit_eq fun j => ?_
  rw [withS_bit, withS_bit, withS_bit]
  split <;> rfl

theorem get_word (s : Nat) (i : Int) (k : Nat) (h0 : 0 ≤ i) (h1 : i < 256) (hk : i / 64 = k) :
    band .and .u64 (shrI .u64 (wd s k) (i.tmod 64)) 1 = if s.testBit i.toNat = true then 1 else 0 := by
  have hlt : wn s k >>> (i.toNat % 64) < 2 ^ 64 := Nat.lt_of_le_of_lt (Nat.shiftRight_le _ _) (wn_lt _ _)
  rw [idx_bit i h0, wd, shr_nat _ _ _ (by show _ ≤ 64; omega), show (1 : Int) = ((1 : Nat) : Int) from rfl, band_and _ _ hlt (by decide), Nat.and_one_is_mod, Nat.shiftRight_eq_div_pow, ← Nat.toNat_testBit, wn_bit]
  have e : 64 * k + i.toNat % 64 = i.toNat := by omega
  have hm : i.toNat % 64 < 64 := Nat.mod_lt _ (by omega)
  rw [e, decide_eq_true hm, Bool.true_and]
  cases s.testBit i.toNat <;> rfl

theorem wd_both (s : Nat) (i : Int) (k : Nat) (h0 : 0 ≤ i) (h1 : i < 256) (hk : i / 64 = k) : band .or .u64 (band .andNot .u64 (wd s k) (shlI .u64 1 (i.tmod 64))) (shlI .u64 1 (i.tmod 64)) = wd (withS s i true) k := by
  rw [wd_clear s i k h0 h1 hk, wd_set _ i k h0 h1 hk, withS_twice]
theorem wrap_mod64 (i : Int) (h0 : 0 ≤ i) : IntKind.wrap .u64 (i.tmod 64) = i.tmod 64 := by
  rw [idx_bit i h0, wrapn _ (by omega)]

/-! ### A set built from 0 upward -/
def buildS (p : Nat → Bool) : Nat → Nat
  | 0 => 0
  | n + 1 => withS (buildS p n) n (p n)
theorem buildS_bit (p : Nat → Bool) : ∀ (n j : Nat), n ≤ 256 → (buildS p n).testBit j = (decide (j < n) && p j)
  | 0, j, _ => by simp [buildS]
  | n + 1, j, h => by
    rw [buildS, withS_bit, buildS_bit p n j (by omega)]
    by_cases e : j = n
    · subst e
      rw [if_pos ⟨by omega, by omega, by omega⟩]; simp
    · rw [if_neg (by omega)]
      have : decide (j < n + 1) = decide (j < n) := by simp; omega
      rw [this]
theorem buildS_keep (p : Nat → Bool) (n : Nat) (h : n < 256) (hp : p n = false) : buildS p n = buildS p (n + 1) := by
  refine Nat.eq_of_testBit_eq fun j => ?_
  rw [buildS_bit p n j (by omega), buildS_bit p (n + 1) j (by omega)]
  by_cases e : j = n
  · subst e; simp [hp]
  · have : decide (j < n + 1) = decide (j < n) := by simp; omega
    rw [this]
theorem buildS_congr {p q : Nat → Bool} (h : ∀ j, j < 256 → p j = q j) : buildS p 256 = buildS q 256 := by
  refine Nat.eq_of_testBit_eq fun j => ?_
  rw [buildS_bit p 256 j (by omega), buildS_bit q 256 j (by omega)]
  by_cases e : j < 256
  · rw [h j e]
  · simp [e]

theorem buildS_none (p : Nat → Bool) (h : ∀ j, j < 256 → p j = false) : buildS p 256 = 0 := by
  refine Nat.eq_of_testBit_eq fun j => ?_
  rw [buildS_bit p 256 j (by omega), Nat.zero_testBit]
  by_cases e : j < 256
  · rw [h j e]; simp
  · simp [e]

theorem buildS_zero (p : Nat → Bool) (h : ∀ j, p j = false) : ∀ n, buildS p n = 0
  | 0 => rfl
  | n + 1 => by
    rw [buildS, buildS_zero p h n, h n]
    refine Nat.eq_of_testBit_eq fun j => ?_
    rw [withS_bit, Nat.zero_testBit]; split <;> rfl

theorem wn_shift (s k : Nat) : wn s k = s / 2 ^ (64 * k) % 2 ^ 64 := by rw [wn, Nat.shiftRight_eq_div_pow]
/-- Four words are a set. -/
theorem ofWords (a b c d : Nat) (ha : a < 2 ^ 64) (hb : b < 2 ^ 64) (hc : c < 2 ^ 64) (hd : d < 2 ^ 64) : ∃ s, s < 2 ^ 256 ∧ wn s 0 = a ∧ wn s 1 = b ∧ wn s 2 = c ∧ wn s 3 = d := by
  refine ⟨a + 2 ^ 64 * (b + 2 ^ 64 * (c + 2 ^ 64 * d)), ?_, ?_, ?_, ?_, ?_⟩
  · omega
  all_goals simp only [wn_shift]; omega

theorem set_ext {s t : Nat} (hs : s < 2 ^ 256) (ht : t < 2 ^ 256) (h0 : wn s 0 = wn t 0) (h1 : wn s 1 = wn t 1) (h2 : wn s 2 = wn t 2) (h3 : wn s 3 = wn t 3) : s = t := by
  refine Nat.eq_of_testBit_eq fun j => ?_
  by_cases hj : j < 256
  · have key : ∀ k, wn s k = wn t k → j / 64 = k → s.testBit j = t.testBit j := fun k h e => by
      have := congrArg (fun x => Nat.testBit x (j % 64)) h
      simp only [wn_bit] at this
      have e1 : 64 * k + j % 64 = j := by omega
      have e2 : j % 64 < 64 := Nat.mod_lt _ (by omega)
      rw [e1, decide_eq_true e2, Bool.true_and, Bool.true_and] at this
      exact this
    have : j / 64 = 0 ∨ j / 64 = 1 ∨ j / 64 = 2 ∨ j / 64 = 3 := by omega
    rcases this with e | e | e | e
    · exact key 0 h0 e
    · exact key 1 h1 e
    · exact key 2 h2 e
    · exact key 3 h3 e
  · have h256 : (2 : Nat) ^ 256 ≤ 2 ^ j := Nat.pow_le_pow_right (by omega) (by omega)
    rw [Nat.testBit_lt_two_pow (Nat.lt_of_lt_of_le hs h256), Nat.testBit_lt_two_pow (Nat.lt_of_lt_of_le ht h256)]

theorem withS_lt (s : Nat) (i : Int) (t : Bool) (hs : s < 2 ^ 256) : withS s i t < 2 ^ 256 := by
  unfold withS
  split
  · rename_i h
    have hp : 2 ^ i.toNat < 2 ^ 256 := Nat.pow_lt_pow_right (by omega) (by omega)
    split
    · exact Nat.or_lt_two_pow hs hp
    · exact Nat.xor_lt_two_pow (Nat.or_lt_two_pow hs hp) hp
  · exact hs
theorem buildS_lt (p : Nat → Bool) : ∀ n, buildS p n < 2 ^ 256
  | 0 => by simp [buildS]
  | n + 1 => withS_lt _ _ _ (buildS_lt p n)

theorem setCells_zero : setCells 0 = [.int .u64 0, .int .u64 0, .int .u64 0, .int .u64 0] := by
  have : ∀ k, wd 0 k = 0 := fun k => by simp [wd, wn]
  simp [setCells, this]

theorem setV_cells (ρ : Env) {s : Nat} {a b c d : Int} (h0 : a = wd s 0) (h1 : b = wd s 1) (h2 : c = wd s 2) (h3 : d = wd s 3) : SV.val ρ (oneRes [.agg [.int .u64 a, .int .u64 b, .int .u64 c, .int .u64 d]]) = SV.val ρ (setV s) := by
  subst h0 h1 h2 h3; rfl

theorem IdxL.lit {n : Int} {len : Nat} {Kl Kx : Nat → Prop} (j : Nat) (h : n = (j : Int)) (hj : j < len) (k : Kl j) : IdxL n len Kl Kx := ⟨j, h, hj, .inl k⟩

/-- The four comparisons, as one. -/
theorem set_eq {s t : Nat} (hs : s < 2 ^ 256) (ht : t < 2 ^ 256) : (decide (wd s 0 = wd t 0) && (decide (wd s 1 = wd t 1) && (decide (wd s 2 = wd t 2) && decide (wd s 3 = wd t 3)))) = decide (s = t) := by
  by_cases e : s = t
  · subst e; simp
  · rw [decide_eq_false e]
    by_cases h0 : wd s 0 = wd t 0
    · by_cases h1 : wd s 1 = wd t 1
      · by_cases h2 : wd s 2 = wd t 2
        · by_cases h3 : wd s 3 = wd t 3
          · exact absurd (set_ext hs ht (Int.ofNat.inj h0) (Int.ofNat.inj h1) (Int.ofNat.inj h2) (Int.ofNat.inj h3)) e
          · simp [h3]
        · simp [h2]
      · simp [h1]
    · simp [h0]
end Go.Sh
