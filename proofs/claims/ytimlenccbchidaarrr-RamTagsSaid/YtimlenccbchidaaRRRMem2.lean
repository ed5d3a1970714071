/- Sixteen bytes in memory, and the numbers they make: plain. -/
import Derived.Test.YtimlenccbchidaaRRRMem1
set_option linter.unusedVariables false
namespace Go.Sh
open Go.RowKit

def capF (m a : Nat) : Nat → Nat := fun i => if i < 8 then a / 2 ^ (8 * i) % 256 else m / 2 ^ (8 * (i - 8)) % 256
def b16 (f : Nat → Nat) : List SV := [.int .u8 (f 0 : Nat), .int .u8 (f 1 : Nat), .int .u8 (f 2 : Nat), .int .u8 (f 3 : Nat), .int .u8 (f 4 : Nat), .int .u8 (f 5 : Nat), .int .u8 (f 6 : Nat), .int .u8 (f 7 : Nat), .int .u8 (f 8 : Nat), .int .u8 (f 9 : Nat), .int .u8 (f 10 : Nat), .int .u8 (f 11 : Nat), .int .u8 (f 12 : Nat), .int .u8 (f 13 : Nat), .int .u8 (f 14 : Nat), .int .u8 (f 15 : Nat)]
theorem sixteen {i : Nat} (h : i < 16) : i = 0 ∨ i = 1 ∨ i = 2 ∨ i = 3 ∨ i = 4 ∨ i = 5 ∨ i = 6 ∨ i = 7 ∨ i = 8 ∨ i = 9 ∨ i = 10 ∨ i = 11 ∨ i = 12 ∨ i = 13 ∨ i = 14 ∨ i = 15 := by omega
theorem b16_get (f : Nat → Nat) {i : Nat} (h : i < 16) : (SV.vals zenv (b16 f))[i]? = some (.int .u8 (f i : Nat)) := by
  rcases sixteen h with rfl | rfl | rfl | rfl | rfl | rfl | rfl | rfl | rfl | rfl | rfl | rfl | rfl | rfl | rfl | rfl <;> rfl
theorem b16_len (f : Nat → Nat) : (SV.vals zenv (b16 f)).length = 16 := rfl
theorem capF_ok (m a : Nat) : okB (capF m a) := fun i => by unfold capF; split <;> exact Nat.mod_lt _ (by decide)
/-- Sixteen bytes laid at p. -/
def cpB (b : Nat → Nat) (p : Nat) (f : Nat → Nat) : Nat → Nat := fun k => if p ≤ k ∧ k < p + 16 then f (k - p) else b k
theorem cpB_in {b : Nat → Nat} {p : Nat} {f : Nat → Nat} {k : Nat} (h : p ≤ k ∧ k < p + 16) : cpB b p f k = f (k - p) := if_pos h
theorem cpB_out {b : Nat → Nat} {p : Nat} {f : Nat → Nat} {k : Nat} (h : ¬ (p ≤ k ∧ k < p + 16)) : cpB b p f k = b k := if_neg h
theorem cpB_ok {b f : Nat → Nat} (hb : okB b) (hf : okB f) (p : Nat) : okB (cpB b p f) := fun k => by
  by_cases c : p ≤ k ∧ k < p + 16
  · unfold cpB; rw [if_pos c]; exact hf _
  · unfold cpB; rw [if_neg c]; exact hb _
theorem ramV_b16 {n f o : Nat} (b t : Nat → Nat) (hf : f < n) (ho : o + 16 ≤ 4096) : ((ramV n b t).drop (f * 4100 + o)).take 16 = SV.vals zenv (b16 fun i => b (f * 4096 + o + i)) := by
  refine List.ext_getElem? fun k => ?_
  rw [List.getElem?_take]
  by_cases hk : k < 16
  · rw [if_pos hk, List.getElem?_drop, b16_get _ hk, show f * 4100 + o + k = f * 4100 + (o + k) by omega, ramV_byte b t hf (by omega), Nat.add_assoc]
  · rw [if_neg hk, List.getElem?_eq_none (by rw [b16_len]; omega)]
theorem cp_math1 {f o k : Nat} (h : k < 16) : f * 4096 + o ≤ f * 4096 + (o + k) ∧ f * 4096 + (o + k) < f * 4096 + o + 16 := by omega
theorem cp_math2 {f o j : Nat} (e : ¬ (f * 4100 + o ≤ j ∧ j < f * 4100 + o + 16)) (ho : o + 16 ≤ 4096) (c : j % 4100 < 4096) : ¬ (f * 4096 + o ≤ j / 4100 * 4096 + j % 4100 ∧ j / 4100 * 4096 + j % 4100 < f * 4096 + o + 16) := by
  have h := Nat.div_add_mod j 4100
  generalize j / 4100 = q at *
  generalize j % 4100 = r at *
  subst h
  rcases Nat.lt_trichotomy q f with h | h | h
  · obtain ⟨d, rfl⟩ : ∃ d, f = q + 1 + d := ⟨f - q - 1, by omega⟩
    clear e h
    intro g
    have := g.1
    clear g
    omega
  · subst h; intro g; apply e; constructor <;> omega
  · obtain ⟨d, rfl⟩ : ∃ d, q = f + 1 + d := ⟨q - f - 1, by omega⟩
    clear e h
    intro g
    have := g.2
    clear g
    omega
theorem ramV_cp {n f o : Nat} (b t g : Nat → Nat) (hf : f < n) (ho : o + 16 ≤ 4096) : setRange (ramV n b t) (f * 4100 + o) (SV.vals zenv (b16 g)) = ramV n (cpB b (f * 4096 + o) g) t := by
  refine List.ext_getElem? fun j => ?_
  rw [setRange_get (by rw [ramV_len, b16_len]; omega), b16_len]
  by_cases hj : j < n * 4100
  · rw [ramV_get _ _ hj, ramV_get _ _ hj]
    by_cases e : f * 4100 + o ≤ j ∧ j < f * 4100 + o + 16
    · rw [if_pos e, b16_get g (by omega)]
      obtain ⟨k, hk⟩ : ∃ k, j - (f * 4100 + o) = k := ⟨_, rfl⟩
      have hj2 : j = f * 4100 + (o + k) := by omega
      rw [hk, hj2, ramCell_byte _ _ _ _ (by omega)]
      have h1 : f * 4096 + o ≤ f * 4096 + (o + k) ∧ f * 4096 + (o + k) < f * 4096 + o + 16 := cp_math1 (by omega)
      have h2 : f * 4096 + (o + k) - (f * 4096 + o) = k := by omega
      have h3 : cpB b (f * 4096 + o) g (f * 4096 + (o + k)) = g (f * 4096 + (o + k) - (f * 4096 + o)) := cpB_in h1
      rw [h3, h2]
    · rw [if_neg e]
      refine congrArg some ?_
      unfold ramCell
      by_cases c : j % 4100 < 4096
      · rw [if_pos c, if_pos c]
        have h1 : ¬ (f * 4096 + o ≤ j / 4100 * 4096 + j % 4100 ∧ j / 4100 * 4096 + j % 4100 < f * 4096 + o + 16) := cp_math2 e ho c
        have h3 : cpB b (f * 4096 + o) g (j / 4100 * 4096 + j % 4100) = b (j / 4100 * 4096 + j % 4100) := cpB_out h1
        rw [h3]
      · rw [if_neg c, if_neg c]
  · rw [if_neg (by omega), List.getElem?_eq_none (by rw [ramV_len]; omega), List.getElem?_eq_none (by rw [ramV_len]; omega)]
theorem rdN_num {f : Nat → Nat} {p v : Nat} {n : Nat} (h : ∀ j, j < n → f (p + j) = v / 2 ^ (8 * j) % 256) : rdN f p n = v % 2 ^ (8 * n) := by
  rw [← rd_st (fun _ => 0) p v (Nat.le_refl n)]
  exact rdN_congr fun j hj => by rw [h j hj]; unfold stB; rw [if_pos (by omega), Nat.add_sub_cancel_left]
theorem rdN_byte {f : Nat → Nat} (hf : okB f) (p : Nat) : ∀ {n i : Nat}, i < n → rdN f p n / 2 ^ (8 * i) % 256 = f (p + i)
  | n + 1, i, h => by
    rw [rdN]
    by_cases e : i = n
    · subst e
      rw [Nat.add_mul_div_right _ _ (Nat.pow_pos (by decide)), Nat.div_eq_of_lt (rdN_lt hf p i), Nat.zero_add, Nat.mod_eq_of_lt (hf _)]
    · have hi : i < n := by omega
      rw [← rdN_byte hf p hi]
      have h2 : 2 ^ (8 * n) = 2 ^ (8 * i) * (256 * 2 ^ (8 * (n - 1 - i))) := by
        rw [show (256 : Nat) = 2 ^ 8 from rfl, ← Nat.pow_add, ← Nat.pow_add]; congr 1; omega
      rw [h2, show f (p + n) * (2 ^ (8 * i) * (256 * 2 ^ (8 * (n - 1 - i)))) = (f (p + n) * 2 ^ (8 * (n - 1 - i)) * 256) * 2 ^ (8 * i) by
        rw [Nat.mul_comm (2 ^ (8 * i)), ← Nat.mul_assoc, ← Nat.mul_assoc, Nat.mul_right_comm (f (p + n)) 256]]
      rw [Nat.add_mul_div_right _ _ (Nat.pow_pos (by decide)), Nat.add_mul_mod_self_right]
/-- The bytes of what is read back. -/
theorem capF_rd {f : Nat → Nat} (hf : okB f) {i : Nat} (h : i < 16) : capF (rdN f 8 8) (rdN f 0 8) i = f i := by
  unfold capF
  split
  · rename_i c; rw [rdN_byte hf 0 c, Nat.zero_add]
  · rw [rdN_byte hf 8 (by omega)]; congr 1; omega
theorem rd_capF {f : Nat → Nat} {m a : Nat} (hm : m < 2 ^ 64) (ha : a < 2 ^ 64) (h : ∀ i, i < 16 → f i = capF m a i) : rdN f 8 8 = m ∧ rdN f 0 8 = a := by
  constructor
  · rw [rdN_num (v := m) fun j hj => by rw [h _ (by omega)]; unfold capF; rw [if_neg (by omega), Nat.add_sub_cancel_left], Nat.mod_eq_of_lt hm]
  · rw [rdN_num (v := a) fun j hj => by rw [h _ (by omega)]; unfold capF; rw [if_pos (by omega), Nat.zero_add], Nat.mod_eq_of_lt ha]
end Go.Sh
