import Derived.Test.YtkopfaenfaelfaaPte1
/- Numbers that memory's laws ask of: plain. -/
set_option linter.unusedVariables false
namespace Go.Sh
open Go.RowKit

theorem band_mask (x : Int) (m : Nat) (hm : m < 63) : band .and .i64 x ((2 ^ m - 1 : Nat) : Int) = ((x % ((2 ^ m : Nat) : Int)).toNat : Int) := by
  have hp : 2 ^ m < 2 ^ 63 := Nat.pow_lt_pow_right (by decide) hm
  have hpos : 0 < 2 ^ m := Nat.pow_pos (by decide)
  have h1 : (BitVec.ofInt 64 x &&& BitVec.ofInt 64 ((2 ^ m - 1 : Nat) : Int)).toNat = (x % ((2 ^ m : Nat) : Int)).toNat := by
    rw [BitVec.toNat_and, bv_nat, Nat.mod_eq_of_lt (show 2 ^ m - 1 < 2 ^ 64 by omega), Nat.and_two_pow_sub_one_eq_mod, BitVec.toNat_ofInt]
    have hd : ((2 ^ m : Nat) : Int) ∣ ((2 ^ 64 : Nat) : Int) := Int.natCast_dvd_natCast.2 (Nat.pow_dvd_pow 2 (by omega))
    have h2 : x % ((2 ^ 64 : Nat) : Int) % ((2 ^ m : Nat) : Int) = x % ((2 ^ m : Nat) : Int) := Int.emod_emod_of_dvd x hd
    have h3 : 0 ≤ x % ((2 ^ 64 : Nat) : Int) := Int.emod_nonneg _ (by decide)
    have h4 : 0 ≤ x % ((2 ^ m : Nat) : Int) := Int.emod_nonneg _ (by omega)
    have h5 : (((x % ((2 ^ 64 : Nat) : Int)).toNat % 2 ^ m : Nat) : Int) = x % ((2 ^ m : Nat) : Int) := by
      rw [Int.natCast_emod, Int.toNat_of_nonneg h3, h2]
    omega
  have h6 : (x % ((2 ^ m : Nat) : Int)).toNat < 2 ^ m := by
    have := Int.emod_lt_of_pos x (show 0 < ((2 ^ m : Nat) : Int) by omega)
    have := Int.emod_nonneg x (show ((2 ^ m : Nat) : Int) ≠ 0 by omega)
    omega
  show IntKind.wrap .i64 ((BitVec.ofInt 64 x &&& BitVec.ofInt 64 ((2 ^ m - 1 : Nat) : Int)).toNat : Int) = _
  rw [h1, wrap_i64 _ (by omega) (by omega)]
theorem quo_nat (a n : Nat) (h : a < 2 ^ 64) : IntKind.wrap .u64 ((a : Int).tdiv (n : Int)) = ((a / n : Nat) : Int) := by
  rw [Int.ofNat_tdiv]; exact wrapn _ (Nat.lt_of_le_of_lt (Nat.div_le_self _ _) h)
theorem rem_nat (a n : Nat) : (a : Int).tmod (n : Int) = ((a % n : Nat) : Int) := Int.ofNat_tmod a n
def okN (n : Nat) : Prop := n = 1 ∨ n = 2 ∨ n = 4 ∨ n = 8
theorem mod_lt' (x : Int) {m : Nat} (hm : 0 < m) : (x % (m : Int)).toNat < m := by
  have := Int.emod_lt_of_pos x (show 0 < (m : Int) by omega)
  have := Int.emod_nonneg x (show (m : Int) ≠ 0 by omega)
  omega
end Go.Sh
