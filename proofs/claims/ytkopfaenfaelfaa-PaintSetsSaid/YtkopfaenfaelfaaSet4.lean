import Derived.Test.YtkopfaenfaelfaaSet2
/- Two sets, as one: plain. -/
set_option linter.unusedVariables false
namespace Go.Sh
def omixS (s t k : Nat) : Nat := s ||| (t % 2 ^ (64 * k))
theorem omixS_bit (s t k j : Nat) : (omixS s t k).testBit j = (s.testBit j || (decide (j < 64 * k) && t.testBit j)) := by
  rw [omixS, Nat.testBit_or, Nat.testBit_mod_two_pow]
theorem omixS_zero (s t : Nat) : omixS s t 0 = s := by
  simp [omixS, Nat.mod_one]
theorem omixS_four (s t : Nat) (ht : t < 2 ^ 256) : omixS s t 4 = s ||| t := by
  rw [omixS, Nat.mod_eq_of_lt ht]
theorem wn_omix_other (s t k i : Nat) (h : i ≠ k) : wn (omixS s t k) i = wn (omixS s t (k + 1)) i := by
  apply Nat.eq_of_testBit_eq
  intro j
  rw [wn_bit, wn_bit, omixS_bit, omixS_bit]
  by_cases hj : j < 64
  · have e : decide (64 * i + j < 64 * k) = decide (64 * i + j < 64 * (k + 1)) := decide_eq_decide.2 (by omega)
    rw [e]
  · simp [hj]
theorem wd_omix_other (s t k i : Nat) (h : i ≠ k) : wd (omixS s t k) i = wd (omixS s t (k + 1)) i := congrArg (fun n : Nat => (n : Int)) (wn_omix_other s t k i h)
theorem wd_omix_at (s t k : Nat) : band .or .u64 (wd (omixS s t k) k) (wd t k) = wd (omixS s t (k + 1)) k := by
  unfold wd
  rw [band_or _ _ (wn_lt _ _) (wn_lt _ _)]
  congr 1
  apply Nat.eq_of_testBit_eq
  intro j
  rw [Nat.testBit_or, wn_bit, wn_bit, wn_bit, omixS_bit, omixS_bit]
  by_cases hj : j < 64
  · have e1 : decide (64 * k + j < 64 * k) = false := decide_eq_false (by omega)
    have e2 : decide (64 * k + j < 64 * (k + 1)) = true := decide_eq_true (by omega)
    simp [hj, e1, e2]
  · simp [hj]
end Go.Sh
