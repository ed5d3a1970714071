import Derived.Test.YtkopfaenfaelfaaRam1
/- Entries of page tables, and their numbers: plain. -/
set_option linter.unusedVariables false
namespace Go.Sh
open Go.RowKit

def bn (b : Bool) : Nat := b.toNat
theorem bn_lt (b : Bool) : bn b ≤ 1 := Bool.toNat_le b
def okE (e : Ent) : Prop := 0 ≤ e.fr ∧ e.fr < 18446744073709551616
def frN (e : Ent) : Nat := e.fr.toNat % 17592186044416
/-- The number, its first i flags laid. -/
def wA (e : Ent) (i : Nat) : Nat :=
  frN e * 1024 + (if 0 < i then bn e.v else 0) + (if 1 < i then 2 * bn e.r else 0) + (if 2 < i then 4 * bn e.w else 0) + (if 3 < i then 8 * bn e.x else 0) + (if 4 < i then 16 * bn e.u else 0) + (if 5 < i then 32 * bn e.g else 0) + (if 6 < i then 64 * bn e.a else 0) + (if 7 < i then 128 * bn e.d else 0) +
    (if 8 < i then 288230376151711744 * bn e.cw else 0) + (if 9 < i then 576460752303423488 * bn e.cr else 0) + (if 10 < i then 1152921504606846976 * bn e.cd else 0) + (if 11 < i then 2305843009213693952 * bn e.gn else 0)
def entW (e : Ent) : Nat := wA e 12
theorem frN_lt (e : Ent) : frN e < 17592186044416 := Nat.mod_lt _ (by decide)
theorem ite_le (p : Prop) [Decidable p] (x : Nat) : (if p then x else 0) ≤ x := by split <;> omega
theorem wA_lt (e : Ent) (i : Nat) : wA e i < 2 ^ 64 := by
  have := frN_lt e
  have h1 := bn_lt e.v; have h2 := bn_lt e.r; have h3 := bn_lt e.w; have h4 := bn_lt e.x; have h5 := bn_lt e.u; have h6 := bn_lt e.g; have h7 := bn_lt e.a; have h8 := bn_lt e.d; have h9 := bn_lt e.cw; have h10 := bn_lt e.cr; have h11 := bn_lt e.cd; have h12 := bn_lt e.gn
  unfold wA
  have a0 := ite_le (0 < i) (bn e.v)
  have a1 := ite_le (1 < i) (2 * bn e.r)
  have a2 := ite_le (2 < i) (4 * bn e.w)
  have a3 := ite_le (3 < i) (8 * bn e.x)
  have a4 := ite_le (4 < i) (16 * bn e.u)
  have a5 := ite_le (5 < i) (32 * bn e.g)
  have a6 := ite_le (6 < i) (64 * bn e.a)
  have a7 := ite_le (7 < i) (128 * bn e.d)
  have a8 := ite_le (8 < i) (288230376151711744 * bn e.cw)
  have a9 := ite_le (9 < i) (576460752303423488 * bn e.cr)
  have a10 := ite_le (10 < i) (1152921504606846976 * bn e.cd)
  have a11 := ite_le (11 < i) (2305843009213693952 * bn e.gn)
  generalize (if 0 < i then bn e.v else 0) = t0 at a0 ⊢
  generalize (if 1 < i then 2 * bn e.r else 0) = t1 at a1 ⊢
  generalize (if 2 < i then 4 * bn e.w else 0) = t2 at a2 ⊢
  generalize (if 3 < i then 8 * bn e.x else 0) = t3 at a3 ⊢
  generalize (if 4 < i then 16 * bn e.u else 0) = t4 at a4 ⊢
  generalize (if 5 < i then 32 * bn e.g else 0) = t5 at a5 ⊢
  generalize (if 6 < i then 64 * bn e.a else 0) = t6 at a6 ⊢
  generalize (if 7 < i then 128 * bn e.d else 0) = t7 at a7 ⊢
  generalize (if 8 < i then 288230376151711744 * bn e.cw else 0) = t8 at a8 ⊢
  generalize (if 9 < i then 576460752303423488 * bn e.cr else 0) = t9 at a9 ⊢
  generalize (if 10 < i then 1152921504606846976 * bn e.cd else 0) = t10 at a10 ⊢
  generalize (if 11 < i then 2305843009213693952 * bn e.gn else 0) = t11 at a11 ⊢
  omega
theorem entW_lt (e : Ent) : entW e < 2 ^ 64 := wA_lt e 12
theorem or_bit {x p : Nat} (h : x / 2 ^ p % 2 = 0) : x ||| 2 ^ p = x + 2 ^ p := by
  have hb : x.testBit p = false := by
    rw [Nat.testBit_eq_decide_div_mod_eq, h]; rfl
  have h1 : x = x / 2 ^ (p + 1) * 2 ^ (p + 1) + x % 2 ^ p := by
    have e1 := Nat.div_add_mod x (2 ^ p)
    have e2 := Nat.div_add_mod (x / 2 ^ p) 2
    rw [h, Nat.add_zero, Nat.div_div_eq_div_mul, ← Nat.pow_succ] at e2
    rw [← e2] at e1
    rw [Nat.pow_succ, Nat.mul_comm (x / (2 ^ p * 2)), Nat.mul_assoc]
    rw [Nat.pow_succ] at e1
    exact e1.symm
  have h2 : x % 2 ^ p < 2 ^ p := Nat.mod_lt _ (Nat.pow_pos (by decide))
  refine Nat.eq_of_testBit_eq fun j => ?_
  have key : ∀ q r, r < 2 ^ p → (q * 2 ^ (p + 1) + r + 2 ^ p).testBit j = ((q * 2 ^ (p + 1) + r).testBit j || decide (p = j)) := by
    intro q r hr
    have e : q * 2 ^ (p + 1) + r + 2 ^ p = (2 * q + 1) * 2 ^ p + r := by rw [Nat.pow_succ, Nat.add_mul, Nat.mul_comm 2 q, Nat.mul_assoc, Nat.mul_comm 2]; omega
    have e' : q * 2 ^ (p + 1) + r = (2 * q) * 2 ^ p + r := by rw [Nat.pow_succ, Nat.mul_comm 2 q, Nat.mul_assoc, Nat.mul_comm 2]
    rw [e, e', Nat.mul_comm (2 * q + 1), Nat.mul_comm (2 * q), Nat.testBit_two_pow_mul_add _ hr, Nat.testBit_two_pow_mul_add _ hr]
    by_cases c : j < p
    · rw [if_pos c, if_pos c]; simp; omega
    · rw [if_neg c, if_neg c]
      by_cases c2 : p = j
      · subst c2; simp [Nat.testBit_zero]
      · obtain ⟨k, hk⟩ : ∃ k, j - p = k + 1 := ⟨j - p - 1, by omega⟩
        rw [hk, Nat.testBit_succ, Nat.testBit_succ, show (2 * q + 1) / 2 = q by omega, show 2 * q / 2 = q by omega]
        simp [c2]
  have k2 := key (x / 2 ^ (p + 1)) (x % 2 ^ p) h2
  rw [← h1] at k2
  rw [k2, Nat.testBit_or, Nat.testBit_two_pow]

/-- Has a number the bit p? (As the code asks.) -/
def hasB (w : Int) (p : Int) : Bool := !decide (band .and .u64 (shrI .u64 w p) 1 = 0)
theorem hasB_eq (w p : Nat) (hw : w < 2 ^ 64) (hp : p ≤ 64) : hasB (w : Int) (p : Int) = w.testBit p := by
  have hs : w >>> p < 2 ^ 64 := Nat.lt_of_le_of_lt (Nat.shiftRight_le _ _) hw
  rw [hasB, shr_nat .u64 w p hp, show (1 : Int) = ((1 : Nat) : Int) from rfl, band_and _ _ hs (by decide), Nat.and_one_is_mod, Nat.shiftRight_eq_div_pow, Nat.testBit_eq_decide_div_mod_eq]
  have : w / 2 ^ p % 2 = 0 ∨ w / 2 ^ p % 2 = 1 := by omega
  rcases this with h | h <;> rw [h] <;> rfl
def entOf (w : Nat) : Ent := ⟨w.testBit 0, w.testBit 1, w.testBit 2, w.testBit 3, w.testBit 4, w.testBit 5, w.testBit 6, w.testBit 7, w.testBit 58, w.testBit 59, w.testBit 60, w.testBit 61, (w / 1024 % 17592186044416 : Nat)⟩
theorem entOf_ok (w : Nat) : okE (entOf w) := by
  unfold okE entOf; simp only; omega
theorem bn_eq (b : Bool) (x : Nat) (h : x % 2 = bn b) : decide (x % 2 = 1) = b := by
  cases b
  · rw [h]; rfl
  · rw [h]; rfl
/-- What is laid is told, its frame cut. -/
theorem entOf_entW (e : Ent) : entOf (entW e) = { e with fr := (frN e : Nat) } := by
  have h0 := frN_lt e
  have h1 := bn_lt e.v; have h2 := bn_lt e.r; have h3 := bn_lt e.w; have h4 := bn_lt e.x; have h5 := bn_lt e.u; have h6 := bn_lt e.g; have h7 := bn_lt e.a; have h8 := bn_lt e.d; have h9 := bn_lt e.cw; have h10 := bn_lt e.cr; have h11 := bn_lt e.cd; have h12 := bn_lt e.gn
  have hw : entW e = frN e * 1024 + bn e.v + 2 * bn e.r + 4 * bn e.w + 8 * bn e.x + 16 * bn e.u + 32 * bn e.g + 64 * bn e.a + 128 * bn e.d + 288230376151711744 * bn e.cw + 576460752303423488 * bn e.cr + 1152921504606846976 * bn e.cd + 2305843009213693952 * bn e.gn := rfl
  unfold entOf
  simp only [Nat.testBit_eq_decide_div_mod_eq, hw]
  obtain ⟨v, r, w, x, u, g, a, d, cw, cr, cd, gn, fr⟩ := e
  simp only [Ent.mk.injEq]
  refine ⟨bn_eq _ _ ?_, bn_eq _ _ ?_, bn_eq _ _ ?_, bn_eq _ _ ?_, bn_eq _ _ ?_, bn_eq _ _ ?_, bn_eq _ _ ?_, bn_eq _ _ ?_, bn_eq _ _ ?_, bn_eq _ _ ?_, bn_eq _ _ ?_, bn_eq _ _ ?_, ?_⟩ <;> simp only [Nat.reducePow] at * <;> omega

/-! ### What entries let be done -/
def leafB (e : Ent) : Bool := e.v && (e.r || e.w || e.x)
def rightB (e : Ent) : Bool := !e.v || (!(e.w && !e.r) && !(e.cw && !e.w) && !(e.cr && !e.r) && decide (e.fr ≤ 17592186044415) && (leafB e || (!e.r && !e.w && !e.x && !e.u && !e.a && !e.d && !e.cw && !e.cr && !e.cd && !e.gn)))
def letsB (e : Ent) (k : Int) : Bool := decide (k = 0) && e.x || (decide (k = 1) || decide (k = 3)) && e.r || (decide (k = 2) || decide (k = 4)) && e.w
def chkE (e : Ent) (k : Int) (tagged gen : Bool) : Int :=
  if leafB e = false then 1 else if (!e.u || !letsB e k) = true then 2 else if (decide (k = 3) && e.cr && (e.gn != gen)) = true then 3 else if (decide (k = 4) && tagged && !e.cw) = true then 4 else 0
def markE (e : Ent) (k : Int) (tagged : Bool) : Ent := { e with a := true, d := e.d || (decide (k = 2) || decide (k = 4)), cd := e.cd || (decide (k = 4) && tagged) }
def stripB (e : Ent) (k : Int) : Bool := decide (k = 3) && !e.cr
def idxN (va level : Nat) : Nat := va / 2 ^ (12 + 9 * level) % 512
end Go.Sh
