import Derived.Test.YtkopfaenfaelfaaSet1
/- Counting bits. -/
set_option linter.unusedVariables false
namespace Go.Sh

def cnt (s : Nat) : Nat → Nat
  | 0 => 0
  | n + 1 => cnt s n + (s.testBit n).toNat
theorem cnt_le (s : Nat) : ∀ n, cnt s n ≤ n
  | 0 => Nat.le_refl _
  | n + 1 => by have := cnt_le s n; have := Bool.toNat_le (s.testBit n); rw [cnt]; omega
theorem cnt_congr {s t : Nat} : ∀ {n : Nat}, (∀ j, j < n → s.testBit j = t.testBit j) → cnt s n = cnt t n
  | 0, _ => rfl
  | n + 1, h => by rw [cnt, cnt, cnt_congr (fun j hj => h j (by omega)), h n (by omega)]
theorem cnt_add (s m : Nat) : ∀ n, cnt s (m + n) = cnt s m + cnt (s >>> m) n
  | 0 => rfl
  | n + 1 => by rw [← Nat.add_assoc, cnt, cnt, cnt_add s m n, Nat.testBit_shiftRight]; omega

/-- Eight bytes. -/
def bs (b0 b1 b2 b3 b4 b5 b6 b7 : Nat) : Nat := b0 + 256 * (b1 + 256 * (b2 + 256 * (b3 + 256 * (b4 + 256 * (b5 + 256 * (b6 + 256 * b7))))))

theorem and_byte (a b c d : Nat) (ha : a < 256) (hc : c < 256) : (a + 256 * b) &&& (c + 256 * d) = (a &&& c) + 256 * (b &&& d) := by
  have hac : a &&& c < 2 ^ 8 := Nat.lt_of_le_of_lt Nat.and_le_left ha
  refine Nat.eq_of_testBit_eq fun j => ?_
  rw [Nat.testBit_and, Nat.add_comm a, Nat.add_comm c, Nat.add_comm (a &&& c), show (256 : Nat) = 2 ^ 8 from rfl, Nat.testBit_two_pow_mul_add _ ha, Nat.testBit_two_pow_mul_add _ hc, Nat.testBit_two_pow_mul_add _ hac]
  split
  · rw [Nat.testBit_and]
  · rw [Nat.testBit_and]

theorem bs_and {a0 a1 a2 a3 a4 a5 a6 a7 m : Nat} (h0 : a0 < 256) (h1 : a1 < 256) (h2 : a2 < 256) (h3 : a3 < 256) (h4 : a4 < 256) (h5 : a5 < 256) (h6 : a6 < 256) (hm : m < 256) :
    bs a0 a1 a2 a3 a4 a5 a6 a7 &&& bs m m m m m m m m = bs (a0 &&& m) (a1 &&& m) (a2 &&& m) (a3 &&& m) (a4 &&& m) (a5 &&& m) (a6 &&& m) (a7 &&& m) := by
  unfold bs
  rw [and_byte _ _ _ _ h0 hm, and_byte _ _ _ _ h1 hm, and_byte _ _ _ _ h2 hm, and_byte _ _ _ _ h3 hm, and_byte _ _ _ _ h4 hm, and_byte _ _ _ _ h5 hm, and_byte _ _ _ _ h6 hm]

def g1 (b : Nat) : Nat := ((b / 2) &&& 85) + (b &&& 85)
def g2 (b : Nat) : Nat := ((g1 b / 4) &&& 51) + (g1 b &&& 51)

theorem k1 : ∀ b : Fin 256, ∀ c : Fin 2, ((b.val / 2 + 128 * c.val) &&& 85) = ((b.val / 2) &&& 85) := by decide +kernel
theorem k2 : ∀ b : Fin 256, ∀ c : Fin 4, ((b.val / 4 + 64 * c.val) &&& 51) = ((b.val / 4) &&& 51) := by decide +kernel
theorem k3 : ∀ b : Fin 256, g1 b.val < 256 ∧ g2 b.val < 256 ∧ g2 b.val / 16 ≤ 4 ∧ g2 b.val % 16 ≤ 4 ∧ g2 b.val / 16 + g2 b.val % 16 = cnt b.val 8 := by decide +kernel
theorem k4 : ∀ c : Fin 256, (c.val &&& 15) = c.val % 16 := by decide +kernel

theorem k1' (b c : Nat) (hb : b < 256) : ((b / 2 + 128 * (c % 2)) &&& 85) = ((b / 2) &&& 85) := k1 ⟨b, hb⟩ ⟨c % 2, Nat.mod_lt _ (by omega)⟩
theorem k2' (b c : Nat) (hb : b < 256) : ((b / 4 + 64 * (c % 4)) &&& 51) = ((b / 4) &&& 51) := k2 ⟨b, hb⟩ ⟨c % 4, Nat.mod_lt _ (by omega)⟩
theorem k4' (c : Nat) (hc : c < 256) : (c &&& 15) = c % 16 := k4 ⟨c, hc⟩

theorem step1 {b0 b1 b2 b3 b4 b5 b6 b7 : Nat} (h0 : b0 < 256) (h1 : b1 < 256) (h2 : b2 < 256) (h3 : b3 < 256) (h4 : b4 < 256) (h5 : b5 < 256) (h6 : b6 < 256) (h7 : b7 < 256) :
    ((bs b0 b1 b2 b3 b4 b5 b6 b7 / 2) &&& bs 85 85 85 85 85 85 85 85) + (bs b0 b1 b2 b3 b4 b5 b6 b7 &&& bs 85 85 85 85 85 85 85 85) = bs (g1 b0) (g1 b1) (g1 b2) (g1 b3) (g1 b4) (g1 b5) (g1 b6) (g1 b7) := by
  have e : bs b0 b1 b2 b3 b4 b5 b6 b7 / 2 = bs (b0 / 2 + 128 * (b1 % 2)) (b1 / 2 + 128 * (b2 % 2)) (b2 / 2 + 128 * (b3 % 2)) (b3 / 2 + 128 * (b4 % 2)) (b4 / 2 + 128 * (b5 % 2)) (b5 / 2 + 128 * (b6 % 2)) (b6 / 2 + 128 * (b7 % 2)) (b7 / 2 + 128 * (0 % 2)) := by
    unfold bs; omega
  rw [e, bs_and (by omega) (by omega) (by omega) (by omega) (by omega) (by omega) (by omega) (by decide), bs_and h0 h1 h2 h3 h4 h5 h6 (by decide), k1' _ _ h0, k1' _ _ h1, k1' _ _ h2, k1' _ _ h3, k1' _ _ h4, k1' _ _ h5, k1' _ _ h6, k1' _ _ h7]
  unfold bs g1; omega
theorem step2 {b0 b1 b2 b3 b4 b5 b6 b7 : Nat} (h0 : b0 < 256) (h1 : b1 < 256) (h2 : b2 < 256) (h3 : b3 < 256) (h4 : b4 < 256) (h5 : b5 < 256) (h6 : b6 < 256) (h7 : b7 < 256) :
    ((bs b0 b1 b2 b3 b4 b5 b6 b7 / 4) &&& bs 51 51 51 51 51 51 51 51) + (bs b0 b1 b2 b3 b4 b5 b6 b7 &&& bs 51 51 51 51 51 51 51 51) =
      bs (((b0 / 4) &&& 51) + (b0 &&& 51)) (((b1 / 4) &&& 51) + (b1 &&& 51)) (((b2 / 4) &&& 51) + (b2 &&& 51)) (((b3 / 4) &&& 51) + (b3 &&& 51)) (((b4 / 4) &&& 51) + (b4 &&& 51)) (((b5 / 4) &&& 51) + (b5 &&& 51)) (((b6 / 4) &&& 51) + (b6 &&& 51)) (((b7 / 4) &&& 51) + (b7 &&& 51)) := by
  have e : bs b0 b1 b2 b3 b4 b5 b6 b7 / 4 = bs (b0 / 4 + 64 * (b1 % 4)) (b1 / 4 + 64 * (b2 % 4)) (b2 / 4 + 64 * (b3 % 4)) (b3 / 4 + 64 * (b4 % 4)) (b4 / 4 + 64 * (b5 % 4)) (b5 / 4 + 64 * (b6 % 4)) (b6 / 4 + 64 * (b7 % 4)) (b7 / 4 + 64 * (0 % 4)) := by
    unfold bs; omega
  rw [e, bs_and (by omega) (by omega) (by omega) (by omega) (by omega) (by omega) (by omega) (by decide), bs_and h0 h1 h2 h3 h4 h5 h6 (by decide), k2' _ _ h0, k2' _ _ h1, k2' _ _ h2, k2' _ _ h3, k2' _ _ h4, k2' _ _ h5, k2' _ _ h6, k2' _ _ h7]
  unfold bs; omega
theorem step3 {c0 c1 c2 c3 c4 c5 c6 c7 : Nat} (h0 : c0 / 16 ≤ 4 ∧ c0 % 16 ≤ 4) (h1 : c1 / 16 ≤ 4 ∧ c1 % 16 ≤ 4) (h2 : c2 / 16 ≤ 4 ∧ c2 % 16 ≤ 4) (h3 : c3 / 16 ≤ 4 ∧ c3 % 16 ≤ 4) (h4 : c4 / 16 ≤ 4 ∧ c4 % 16 ≤ 4) (h5 : c5 / 16 ≤ 4 ∧ c5 % 16 ≤ 4) (h6 : c6 / 16 ≤ 4 ∧ c6 % 16 ≤ 4) (h7 : c7 / 16 ≤ 4 ∧ c7 % 16 ≤ 4) :
    (bs c0 c1 c2 c3 c4 c5 c6 c7 / 16 + bs c0 c1 c2 c3 c4 c5 c6 c7) &&& bs 15 15 15 15 15 15 15 15 =
      bs (c0 / 16 + c0 % 16) (c1 / 16 + c1 % 16) (c2 / 16 + c2 % 16) (c3 / 16 + c3 % 16) (c4 / 16 + c4 % 16) (c5 / 16 + c5 % 16) (c6 / 16 + c6 % 16) (c7 / 16 + c7 % 16) := by
  have e : bs c0 c1 c2 c3 c4 c5 c6 c7 / 16 + bs c0 c1 c2 c3 c4 c5 c6 c7 = bs (c0 / 16 + 16 * (c1 % 16) + c0) (c1 / 16 + 16 * (c2 % 16) + c1) (c2 / 16 + 16 * (c3 % 16) + c2) (c3 / 16 + 16 * (c4 % 16) + c3) (c4 / 16 + 16 * (c5 % 16) + c4) (c5 / 16 + 16 * (c6 % 16) + c5) (c6 / 16 + 16 * (c7 % 16) + c6) (c7 / 16 + c7) := by
    unfold bs; omega
  have f : ∀ a b : Nat, a / 16 ≤ 4 ∧ a % 16 ≤ 4 → b / 16 ≤ 4 ∧ b % 16 ≤ 4 → a / 16 + 16 * (b % 16) + a < 256 ∧ (a / 16 + 16 * (b % 16) + a) % 16 = a / 16 + a % 16 := fun a b h g => by omega
  rw [e, bs_and (f _ _ h0 h1).1 (f _ _ h1 h2).1 (f _ _ h2 h3).1 (f _ _ h3 h4).1 (f _ _ h4 h5).1 (f _ _ h5 h6).1 (f _ _ h6 h7).1 (by decide), k4' _ (f _ _ h0 h1).1, k4' _ (f _ _ h1 h2).1, k4' _ (f _ _ h2 h3).1, k4' _ (f _ _ h3 h4).1, k4' _ (f _ _ h4 h5).1, k4' _ (f _ _ h5 h6).1, k4' _ (f _ _ h6 h7).1, k4' (c7 / 16 + c7) (by omega),
    (f _ _ h0 h1).2, (f _ _ h1 h2).2, (f _ _ h2 h3).2, (f _ _ h3 h4).2, (f _ _ h4 h5).2, (f _ _ h5 h6).2, (f _ _ h6 h7).2]
  unfold bs; omega

theorem shr_div (a b : Nat) : (a + 256 * b) >>> 8 = b + a / 256 := by rw [Nat.shiftRight_eq_div_pow]; omega
theorem cnt_bs {b0 b1 b2 b3 b4 b5 b6 b7 : Nat} (h0 : b0 < 256) (h1 : b1 < 256) (h2 : b2 < 256) (h3 : b3 < 256) (h4 : b4 < 256) (h5 : b5 < 256) (h6 : b6 < 256) (h7 : b7 < 256) :
    cnt (bs b0 b1 b2 b3 b4 b5 b6 b7) 64 = cnt b0 8 + (cnt b1 8 + (cnt b2 8 + (cnt b3 8 + (cnt b4 8 + (cnt b5 8 + (cnt b6 8 + cnt b7 8)))))) := by
  have e : ∀ (a b n : Nat), a < 256 → cnt (a + 256 * b) (8 + n) = cnt a 8 + cnt b n := fun a b n ha => by
    rw [cnt_add, shr_div, Nat.div_eq_of_lt ha, Nat.add_zero]
    congr 1
    refine cnt_congr fun j hj => ?_
    rw [Nat.add_comm, show (256 : Nat) = 2 ^ 8 from rfl, Nat.testBit_two_pow_mul_add _ ha, if_pos hj]
  unfold bs
  rw [show (64 : Nat) = 8 + (8 + (8 + (8 + (8 + (8 + (8 + 8)))))) from rfl, e _ _ _ h0, e _ _ _ h1, e _ _ _ h2, e _ _ _ h3, e _ _ _ h4, e _ _ _ h5, e _ _ _ h6]

/-- The whole count. -/
def swar (x : Nat) : Nat :=
  let x1 := ((x / 2) &&& bs 85 85 85 85 85 85 85 85) + (x &&& bs 85 85 85 85 85 85 85 85)
  let x2 := ((x1 / 4) &&& bs 51 51 51 51 51 51 51 51) + (x1 &&& bs 51 51 51 51 51 51 51 51)
  let x3 := (x2 / 16 + x2) &&& bs 15 15 15 15 15 15 15 15
  x3
theorem bytes_of (x : Nat) (h : x < 2 ^ 64) : ∃ b0 b1 b2 b3 b4 b5 b6 b7, (b0 < 256 ∧ b1 < 256 ∧ b2 < 256 ∧ b3 < 256 ∧ b4 < 256 ∧ b5 < 256 ∧ b6 < 256 ∧ b7 < 256) ∧ x = bs b0 b1 b2 b3 b4 b5 b6 b7 :=
  ⟨x % 256, x / 256 % 256, x / 65536 % 256, x / 16777216 % 256, x / 4294967296 % 256, x / 1099511627776 % 256, x / 281474976710656 % 256, x / 72057594037927936 % 256, by omega, by unfold bs; omega⟩

theorem swar_parts (x : Nat) (h : x < 2 ^ 64) : ∃ p0 p1 p2 p3 p4 p5 p6 p7, (p0 ≤ 8 ∧ p1 ≤ 8 ∧ p2 ≤ 8 ∧ p3 ≤ 8 ∧ p4 ≤ 8 ∧ p5 ≤ 8 ∧ p6 ≤ 8 ∧ p7 ≤ 8) ∧ swar x = bs p0 p1 p2 p3 p4 p5 p6 p7 ∧ cnt x 64 = p0 + (p1 + (p2 + (p3 + (p4 + (p5 + (p6 + p7)))))) ∧
    ((x / 2) &&& bs 85 85 85 85 85 85 85 85) + (x &&& bs 85 85 85 85 85 85 85 85) < 2 ^ 64 := by
  obtain ⟨b0, b1, b2, b3, b4, b5, b6, b7, ⟨h0, h1, h2, h3, h4, h5, h6, h7⟩, rfl⟩ := bytes_of x h
  have f0 := k3 ⟨b0, h0⟩; have f1 := k3 ⟨b1, h1⟩; have f2 := k3 ⟨b2, h2⟩; have f3 := k3 ⟨b3, h3⟩; have f4 := k3 ⟨b4, h4⟩; have f5 := k3 ⟨b5, h5⟩; have f6 := k3 ⟨b6, h6⟩; have f7 := k3 ⟨b7, h7⟩
  simp only at f0 f1 f2 f3 f4 f5 f6 f7
  refine ⟨cnt b0 8, cnt b1 8, cnt b2 8, cnt b3 8, cnt b4 8, cnt b5 8, cnt b6 8, cnt b7 8, ⟨cnt_le _ _, cnt_le _ _, cnt_le _ _, cnt_le _ _, cnt_le _ _, cnt_le _ _, cnt_le _ _, cnt_le _ _⟩, ?_, cnt_bs h0 h1 h2 h3 h4 h5 h6 h7, ?_⟩
  · show (_ / 16 + _) &&& _ = _
    rw [step1 h0 h1 h2 h3 h4 h5 h6 h7, step2 f0.1 f1.1 f2.1 f3.1 f4.1 f5.1 f6.1 f7.1]
    show (bs (g2 b0) (g2 b1) (g2 b2) (g2 b3) (g2 b4) (g2 b5) (g2 b6) (g2 b7) / 16 + bs (g2 b0) (g2 b1) (g2 b2) (g2 b3) (g2 b4) (g2 b5) (g2 b6) (g2 b7)) &&& _ = _
    rw [step3 ⟨f0.2.2.1, f0.2.2.2.1⟩ ⟨f1.2.2.1, f1.2.2.2.1⟩ ⟨f2.2.2.1, f2.2.2.2.1⟩ ⟨f3.2.2.1, f3.2.2.2.1⟩ ⟨f4.2.2.1, f4.2.2.2.1⟩ ⟨f5.2.2.1, f5.2.2.2.1⟩ ⟨f6.2.2.1, f6.2.2.2.1⟩ ⟨f7.2.2.1, f7.2.2.2.1⟩,
      f0.2.2.2.2, f1.2.2.2.2, f2.2.2.2.2, f3.2.2.2.2, f4.2.2.2.2, f5.2.2.2.2, f6.2.2.2.2, f7.2.2.2.2]
  · rw [step1 h0 h1 h2 h3 h4 h5 h6 h7]
    unfold bs; omega

theorem shr_lit (a r : Nat) (h : r ≤ 64) : shrI .u64 (a : Int) (r : Int) = ((a / 2 ^ r : Nat) : Int) := by
  rw [shr_nat .u64 a r h, Nat.shiftRight_eq_div_pow]
theorem band_and_i64 (a b : Nat) (ha : a < 2 ^ 63) (hb : b < 2 ^ 63) : band .and .i64 (a : Int) (b : Int) = ((a &&& b : Nat) : Int) := by
  have h2 : a &&& b < 2 ^ 63 := Nat.lt_of_le_of_lt Nat.and_le_left ha
  have : (BitVec.ofInt 64 (a : Int) &&& BitVec.ofInt 64 (b : Int)).toNat = a &&& b := by
    rw [BitVec.toNat_and, bv_nat, bv_nat, Nat.mod_eq_of_lt (by omega), Nat.mod_eq_of_lt (by omega)]
  show IntKind.wrap .i64 ((BitVec.ofInt 64 (a : Int) &&& BitVec.ofInt 64 (b : Int)).toNat : Int) = _
  rw [this, wrap_i64 _ (by omega) (by omega)]
theorem wrap_add (a b : Nat) (h : a + b < 2 ^ 64) : IntKind.wrap .u64 ((a : Int) + (b : Int)) = ((a + b : Nat) : Int) := by
  rw [← Int.natCast_add, wrapn _ h]

theorem bs_shr1 {a0 a1 a2 a3 a4 a5 a6 a7 : Nat} (h0 : a0 < 256) : bs a0 a1 a2 a3 a4 a5 a6 a7 / 256 = bs a1 a2 a3 a4 a5 a6 a7 0 := by unfold bs; omega
theorem bs_add (a0 a1 a2 a3 a4 a5 a6 a7 b0 b1 b2 b3 b4 b5 b6 b7 : Nat) : bs a0 a1 a2 a3 a4 a5 a6 a7 + bs b0 b1 b2 b3 b4 b5 b6 b7 = bs (a0 + b0) (a1 + b1) (a2 + b2) (a3 + b3) (a4 + b4) (a5 + b5) (a6 + b6) (a7 + b7) := by unfold bs; omega
theorem fold_bs {p0 p1 p2 p3 p4 p5 p6 p7 : Nat} (h0 : p0 ≤ 8) (h1 : p1 ≤ 8) (h2 : p2 ≤ 8) (h3 : p3 ≤ 8) (h4 : p4 ≤ 8) (h5 : p5 ≤ 8) (h6 : p6 ≤ 8) (h7 : p7 ≤ 8) :
    (bs p0 p1 p2 p3 p4 p5 p6 p7 + bs p0 p1 p2 p3 p4 p5 p6 p7 / 256 + (bs p0 p1 p2 p3 p4 p5 p6 p7 + bs p0 p1 p2 p3 p4 p5 p6 p7 / 256) / 65536 + (bs p0 p1 p2 p3 p4 p5 p6 p7 + bs p0 p1 p2 p3 p4 p5 p6 p7 / 256 + (bs p0 p1 p2 p3 p4 p5 p6 p7 + bs p0 p1 p2 p3 p4 p5 p6 p7 / 256) / 65536) / 4294967296) % 2 ^ 7 =
      p0 + (p1 + (p2 + (p3 + (p4 + (p5 + (p6 + p7)))))) := by
  have d2 : ∀ n : Nat, n / 65536 = n / 256 / 256 := fun n => by omega
  have d4 : ∀ n : Nat, n / 4294967296 = n / 256 / 256 / 256 / 256 := fun n => by omega
  rw [bs_shr1 (by omega), bs_add, d2, bs_shr1 (by omega), bs_shr1 (by omega), bs_add, d4, bs_shr1 (by omega), bs_shr1 (by omega), bs_shr1 (by omega), bs_shr1 (by omega), bs_add]
  unfold bs
  omega

/-- What bits.OnesCount64 computes. -/
theorem ones_int (x : Nat) (h : x < 2 ^ 64) :
    (let x1 := IntKind.wrap .u64 (band .and .u64 (shrI .u64 (x : Int) 1) 6148914691236517205 + band .and .u64 (x : Int) 6148914691236517205)
     let x2 := IntKind.wrap .u64 (band .and .u64 (shrI .u64 x1 2) 3689348814741910323 + band .and .u64 x1 3689348814741910323)
     let x3 := band .and .u64 (IntKind.wrap .u64 (shrI .u64 x2 4 + x2)) 1085102592571150095
     let x4 := IntKind.wrap .u64 (x3 + shrI .u64 x3 8)
     let x5 := IntKind.wrap .u64 (x4 + shrI .u64 x4 16)
     let x6 := IntKind.wrap .u64 (x5 + shrI .u64 x5 32)
     band .and .i64 (IntKind.wrap .i64 x6) 127) = ((cnt x 64 : Nat) : Int) := by
  obtain ⟨p0, p1, p2, p3, p4, p5, p6, p7, ⟨h0, h1, h2, h3, h4, h5, h6, h7⟩, hs, hc, hb⟩ := swar_parts x h
  have m1 : (6148914691236517205 : Int) = ((bs 85 85 85 85 85 85 85 85 : Nat) : Int) := by decide
  have m2 : (3689348814741910323 : Int) = ((bs 51 51 51 51 51 51 51 51 : Nat) : Int) := by decide
  have m3 : (1085102592571150095 : Int) = ((bs 15 15 15 15 15 15 15 15 : Nat) : Int) := by decide
  have l1 : bs 85 85 85 85 85 85 85 85 < 2 ^ 64 := by decide
  have l2 : bs 51 51 51 51 51 51 51 51 < 2 ^ 64 := by decide
  have l3 : bs 15 15 15 15 15 15 15 15 < 2 ^ 64 := by decide
  have s1 : ∀ a : Nat, shrI .u64 (a : Int) 1 = ((a / 2 : Nat) : Int) := fun a => shr_lit a 1 (by omega)
  have s2 : ∀ a : Nat, shrI .u64 (a : Int) 2 = ((a / 4 : Nat) : Int) := fun a => shr_lit a 2 (by omega)
  have s4 : ∀ a : Nat, shrI .u64 (a : Int) 4 = ((a / 16 : Nat) : Int) := fun a => shr_lit a 4 (by omega)
  have s8 : ∀ a : Nat, shrI .u64 (a : Int) 8 = ((a / 256 : Nat) : Int) := fun a => shr_lit a 8 (by omega)
  have s16 : ∀ a : Nat, shrI .u64 (a : Int) 16 = ((a / 65536 : Nat) : Int) := fun a => shr_lit a 16 (by omega)
  have s32 : ∀ a : Nat, shrI .u64 (a : Int) 32 = ((a / 4294967296 : Nat) : Int) := fun a => shr_lit a 32 (by omega)
  simp only
  rw [m1, s1, band_and _ _ (by omega) l1, band_and _ _ h l1, wrap_add _ _ hb]
  generalize hx1 : ((x / 2) &&& bs 85 85 85 85 85 85 85 85) + (x &&& bs 85 85 85 85 85 85 85 85) = x1 at hb
  have hb2 : ((x1 / 4) &&& bs 51 51 51 51 51 51 51 51) + (x1 &&& bs 51 51 51 51 51 51 51 51) < 2 ^ 63 := by
    have a1 : (x1 / 4) &&& bs 51 51 51 51 51 51 51 51 ≤ bs 51 51 51 51 51 51 51 51 := Nat.and_le_right
    have a2 : x1 &&& bs 51 51 51 51 51 51 51 51 ≤ bs 51 51 51 51 51 51 51 51 := Nat.and_le_right
    have : bs 51 51 51 51 51 51 51 51 + bs 51 51 51 51 51 51 51 51 < 2 ^ 63 := by decide
    omega
  rw [m2, s2, band_and _ _ (by omega) l2, band_and _ _ hb l2, wrap_add _ _ (by omega)]
  generalize hx2 : ((x1 / 4) &&& bs 51 51 51 51 51 51 51 51) + (x1 &&& bs 51 51 51 51 51 51 51 51) = x2 at hb2
  rw [m3, s4, wrap_add _ _ (by omega), band_and _ _ (by omega) l3]
  have hsw : (x2 / 16 + x2) &&& bs 15 15 15 15 15 15 15 15 = swar x := by rw [← hx2, ← hx1]; rfl
  rw [hsw, hs, s8]
  have q3 : bs p0 p1 p2 p3 p4 p5 p6 p7 < 2 ^ 60 := by unfold bs; omega
  rw [wrap_add _ _ (by omega), s16, wrap_add _ _ (by omega), s32, wrap_add _ _ (by omega), wrap_i64 _ (by omega) (by omega), show (127 : Int) = ((127 : Nat) : Int) from rfl, band_and_i64 _ _ (by omega) (by decide)]
  congr 1
  rw [show (127 : Nat) = 2 ^ 7 - 1 from rfl, Nat.and_two_pow_sub_one_eq_mod, hc]
  exact fold_bs h0 h1 h2 h3 h4 h5 h6 h7

/-! ### Sets: counting, differences -/
theorem cnt_word (s k : Nat) : cnt (wn s k) 64 = cnt (s >>> (64 * k)) 64 := cnt_congr fun j hj => by
  rw [wn_bit, decide_eq_true hj, Bool.true_and, Nat.testBit_shiftRight]
theorem cnt_step (s k : Nat) : cnt s (64 * k) + cnt (wn s k) 64 = cnt s (64 * (k + 1)) := by
  rw [cnt_word, Nat.mul_add, Nat.mul_one, cnt_add]

def diffS (s t : Nat) : Nat := s ^^^ (s &&& t)
theorem diffS_bit (s t j : Nat) : (diffS s t).testBit j = (s.testBit j && !t.testBit j) := by
  rw [diffS, Nat.testBit_xor, Nat.testBit_and]
  cases s.testBit j <;> cases t.testBit j <;> rfl
/-- The first k words' difference. -/
def mixS (s t k : Nat) : Nat := diffS s (t % 2 ^ (64 * k))
theorem mixS_bit (s t k j : Nat) : (mixS s t k).testBit j = (s.testBit j && !(decide (j < 64 * k) && t.testBit j)) := by
  rw [mixS, diffS_bit, Nat.testBit_mod_two_pow]
theorem mixS_zero (s t : Nat) : mixS s t 0 = s := by
  refine Nat.eq_of_testBit_eq fun j => ?_
  rw [mixS_bit]; simp
theorem mixS_four (s t : Nat) (ht : t < 2 ^ 256) : mixS s t 4 = diffS s t := by
  rw [mixS, show 64 * 4 = 256 from rfl, Nat.mod_eq_of_lt ht]
theorem wd_mix_other (s t k i : Nat) (h : i ≠ k) : wd (mixS s t k) i = wd (mixS s t (k + 1)) i := by
  unfold wd
  refine congrArg (fun n : Nat => (n : Int)) ?_
  refine Nat.eq_of_testBit_eq fun j => ?_
  rw [wn_bit, wn_bit, mixS_bit, mixS_bit]
  by_cases hj : j < 64
  · have : decide (64 * i + j < 64 * k) = decide (64 * i + j < 64 * (k + 1)) := decide_eq_decide.2 (by omega)
    rw [this]
  · simp [hj]
theorem wd_mix_at (s t k : Nat) : band .andNot .u64 (wd (mixS s t k) k) (wd t k) = wd (mixS s t (k + 1)) k := by
  rw [wd, wd, band_andNot _ _ (wn_lt _ _) (wn_lt _ _), wd]
  refine congrArg (fun n : Nat => (n : Int)) ?_
  refine Nat.eq_of_testBit_eq fun j => ?_
  rw [Nat.testBit_and, not_bit _ (wn_lt _ _), wn_bit, wn_bit, wn_bit, mixS_bit, mixS_bit]
  by_cases hj : j < 64
  · have e1 : ¬ 64 * k + j < 64 * k := by omega
    have e2 : 64 * k + j < 64 * (k + 1) := by omega
    simp [hj, e1, e2]
  · simp [hj]
theorem diffS_lt (s t : Nat) (hs : s < 2 ^ 256) : diffS s t < 2 ^ 256 := Nat.xor_lt_two_pow hs (Nat.lt_of_le_of_lt Nat.and_le_left hs)
end Go.Sh
