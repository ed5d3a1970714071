import Derived.Test.YtkopfaenfaelfaaSh28
import Derived.Test.YtkopfaenfaelfaaTlb1
import Derived.Test.YtkopfaenfaelfaaSet2
/- Memory: bytes and tags as a row of cells; numbers of bytes. Plain. -/
set_option linter.unusedVariables false
namespace Go.Sh
open Go.RowKit

/-- The cell j of the frames: bytes b (by address), tags t (by frame). -/
def ramCell (b t : Nat → Nat) (j : Nat) : Value := if j % 4100 < 4096 then .int .u8 (b (j / 4100 * 4096 + j % 4100) : Nat) else .int .u64 (wd (t (j / 4100)) (j % 4100 - 4096))
def ramV (n : Nat) (b t : Nat → Nat) : List Value := (List.range (n * 4100)).map (ramCell b t)
theorem ramV_len (n : Nat) (b t : Nat → Nat) : (ramV n b t).length = n * 4100 := by simp [ramV]
theorem ramV_get {n j : Nat} (b t : Nat → Nat) (h : j < n * 4100) : (ramV n b t)[j]? = some (ramCell b t j) := by simp [ramV, h]
theorem ramCell_byte (b t : Nat → Nat) (f o : Nat) (h : o < 4096) : ramCell b t (f * 4100 + o) = .int .u8 (b (f * 4096 + o) : Nat) := by
  have e1 : (f * 4100 + o) % 4100 = o := by omega
  have e2 : (f * 4100 + o) / 4100 = f := by omega
  rw [ramCell, e1, e2, if_pos h]
theorem ramCell_tag (b t : Nat → Nat) (f k : Nat) (h : k < 4) : ramCell b t (f * 4100 + 4096 + k) = .int .u64 (wd (t f) k) := by
  have e1 : (f * 4100 + 4096 + k) % 4100 = 4096 + k := by omega
  have e2 : (f * 4100 + 4096 + k) / 4100 = f := by omega
  rw [ramCell, e1, e2, if_neg (by omega), Nat.add_sub_cancel_left]
theorem ramV_byte {n f o : Nat} (b t : Nat → Nat) (hf : f < n) (ho : o < 4096) : (ramV n b t)[f * 4100 + o]? = some (.int .u8 (b (f * 4096 + o) : Nat)) := by
  rw [ramV_get b t (by omega), ramCell_byte b t f o ho]
theorem tag_get (s : Nat) {k : Nat} (h : k < 4) : (SV.vals zenv (setCells s))[k]? = some (.int .u64 (wd s k)) := by
  have : k = 0 ∨ k = 1 ∨ k = 2 ∨ k = 3 := by omega
  rcases this with rfl | rfl | rfl | rfl <;> rfl
theorem ramV_tags {n f : Nat} (b t : Nat → Nat) (hf : f < n) : ((ramV n b t).drop (f * 4100 + 4096)).take 4 = SV.vals zenv (setCells (t f)) := by
  refine List.ext_getElem? fun k => ?_
  rw [List.getElem?_take]
  by_cases hk : k < 4
  · rw [if_pos hk, List.getElem?_drop, ramV_get b t (by omega), ramCell_tag b t f k hk]
    have : k = 0 ∨ k = 1 ∨ k = 2 ∨ k = 3 := by omega
    rcases this with rfl | rfl | rfl | rfl <;> rfl
  · rw [if_neg hk]
    have : (SV.vals zenv (setCells (t f))).length = 4 := rfl
    rw [List.getElem?_eq_none (by omega)]
theorem setRange_get {α : Type} {cs vs : List α} {o j : Nat} (h : o + vs.length ≤ cs.length) : (setRange cs o vs)[j]? = if o ≤ j ∧ j < o + vs.length then vs[j - o]? else cs[j]? := by
  rw [setRange]
  by_cases c1 : j < o
  · rw [if_neg (by omega), List.append_assoc, List.getElem?_append_left (by simp; omega), List.getElem?_take, if_pos c1]
  · by_cases c2 : j < o + vs.length
    · rw [if_pos ⟨by omega, c2⟩, List.append_assoc, List.getElem?_append_right (by simp; omega), List.getElem?_append_left (by simp; omega)]
      congr 1
      simp; omega
    · rw [if_neg (by omega), List.getElem?_append_right (by simp; omega), List.getElem?_drop]
      congr 1
      simp; omega
theorem ramV_setb {n f o : Nat} (b t : Nat → Nat) (x : Nat) (hf : f < n) (ho : o < 4096) : setRange (ramV n b t) (f * 4100 + o) [.int .u8 (x : Nat)] = ramV n (fset b (f * 4096 + o) x) t := by
  refine List.ext_getElem? fun j => ?_
  rw [setRange_get (by rw [ramV_len]; simp; omega)]
  by_cases hj : j < n * 4100
  · rw [ramV_get _ _ hj, ramV_get _ _ hj]
    by_cases e : j = f * 4100 + o
    · subst e
      rw [if_pos ⟨by omega, by simp⟩, Nat.sub_self, ramCell_byte _ _ _ _ ho, fset_same]; rfl
    · rw [if_neg (by simp; omega)]
      refine congrArg some ?_
      unfold ramCell
      by_cases c : j % 4100 < 4096
      · rw [if_pos c, if_pos c, fset_ne _ _ (by omega)]
      · rw [if_neg c, if_neg c]
  · rw [if_neg (by simp; omega), List.getElem?_eq_none (by rw [ramV_len]; omega), List.getElem?_eq_none (by rw [ramV_len]; omega)]
theorem ramV_sett {n f : Nat} (b t : Nat → Nat) (s : Nat) (hf : f < n) : setRange (ramV n b t) (f * 4100 + 4096) (SV.vals zenv (setCells s)) = ramV n b (fset t f s) := by
  have hl : (SV.vals zenv (setCells s)).length = 4 := rfl
  refine List.ext_getElem? fun j => ?_
  rw [setRange_get (by rw [ramV_len, hl]; omega), hl]
  by_cases hj : j < n * 4100
  · rw [ramV_get _ _ hj, ramV_get _ _ hj]
    by_cases e : f * 4100 + 4096 ≤ j ∧ j < f * 4100 + 4096 + 4
    · rw [if_pos e]
      obtain ⟨k, hk⟩ : ∃ k, j - (f * 4100 + 4096) = k := ⟨_, rfl⟩
      have hk4 : k < 4 := by omega
      have hj2 : j = f * 4100 + 4096 + k := by omega
      have e3 := ramCell_tag b (fset t f s) f k hk4
      rw [fset_same, ← hj2] at e3
      rw [hk, e3]
      exact tag_get s hk4
    · rw [if_neg e]
      refine congrArg some ?_
      unfold ramCell
      by_cases c : j % 4100 < 4096
      · rw [if_pos c, if_pos c]
      · rw [if_neg c, if_neg c, fset_ne _ _ (by omega)]
  · rw [if_neg (by omega), List.getElem?_eq_none (by rw [ramV_len]; omega), List.getElem?_eq_none (by rw [ramV_len]; omega)]

/-! ### Numbers of bytes -/
def okB (b : Nat → Nat) : Prop := ∀ a, b a < 256
def rdN (b : Nat → Nat) (at_ : Nat) : Nat → Nat
  | 0 => 0
  | n + 1 => rdN b at_ n + b (at_ + n) * 2 ^ (8 * n)
theorem rdN_lt {b : Nat → Nat} (h : okB b) (a : Nat) : ∀ n, rdN b a n < 2 ^ (8 * n)
  | 0 => by simp [rdN]
  | n + 1 => by
    have h1 := rdN_lt h a n
    have h2 := h (a + n)
    rw [rdN, show 8 * (n + 1) = 8 * n + 8 by omega, Nat.pow_add]
    have h3 : b (a + n) * 2 ^ (8 * n) ≤ 255 * 2 ^ (8 * n) := Nat.mul_le_mul_right _ (by omega)
    have : 2 ^ (8 * n) * 2 ^ 8 = 255 * 2 ^ (8 * n) + 2 ^ (8 * n) := by omega
    omega
theorem rdN_congr {b b' : Nat → Nat} {a : Nat} : ∀ {n : Nat}, (∀ j, j < n → b (a + j) = b' (a + j)) → rdN b a n = rdN b' a n
  | 0, _ => rfl
  | n + 1, h => by rw [rdN, rdN, rdN_congr fun j hj => h j (by omega), h n (by omega)]
/-- The bytes with n of a number's laid from a on. -/
def stB (b : Nat → Nat) (a v n : Nat) : Nat → Nat := fun k => if a ≤ k ∧ k < a + n then v / 2 ^ (8 * (k - a)) % 256 else b k
theorem stB_zero (b : Nat → Nat) (a v : Nat) : stB b a v 0 = b := by funext k; exact if_neg (by omega)
theorem stB_succ (b : Nat → Nat) (a v n : Nat) : fset (stB b a v n) (a + n) (v / 2 ^ (8 * n) % 256) = stB b a v (n + 1) := by
  funext k
  unfold fset stB
  by_cases e : k = a + n
  · subst e; rw [if_pos rfl, if_pos (by omega), Nat.add_sub_cancel_left]
  · rw [if_neg e]
    by_cases c : a ≤ k ∧ k < a + n
    · rw [if_pos c, if_pos (by omega)]
    · rw [if_neg c, if_neg (by omega)]
theorem stB_ok {b : Nat → Nat} (h : okB b) (a v n : Nat) : okB (stB b a v n) := fun k => by
  unfold stB; split
  · exact Nat.mod_lt _ (by decide)
  · exact h k
theorem rd_st (b : Nat → Nat) (a v : Nat) {m : Nat} : ∀ {n : Nat}, n ≤ m → rdN (stB b a v m) a n = v % 2 ^ (8 * n)
  | 0, _ => by simp [rdN, Nat.mod_one]
  | n + 1, h => by
    rw [rdN, rd_st b a v (n := n) (by omega)]
    unfold stB
    rw [if_pos (by omega), Nat.add_sub_cancel_left, show 8 * (n + 1) = 8 * n + 8 by omega, Nat.pow_add, Nat.mod_mul, Nat.mul_comm (v / 2 ^ (8 * n) % 256)]
theorem rd_st_far (b : Nat → Nat) (a v m a' n : Nat) (h : a' + n ≤ a ∨ a + m ≤ a') : rdN (stB b a v m) a' n = rdN b a' n :=
  rdN_congr fun j hj => if_neg (by omega)

theorem shl_nat (x r : Nat) (hr : r ≤ 64) (h : x * 2 ^ r < 2 ^ 64) : shlI .u64 (x : Int) (r : Int) = ((x * 2 ^ r : Nat) : Int) := by
  show IntKind.wrap .u64 ((x : Int) * 2 ^ min (r : Int).toNat 64) = _
  rw [Int.toNat_natCast, Nat.min_eq_left hr, ← wrapn _ h]
  push_cast; rfl
theorem or_add (x y k : Nat) (h : x < 2 ^ k) : x ||| (y * 2 ^ k) = x + y * 2 ^ k := by
  rw [Nat.mul_comm y, Nat.or_comm, Nat.add_comm, Nat.two_pow_add_eq_or_of_lt h]
/-- One byte more. -/
theorem or_byte {acc x i : Nat} (ha : acc < 2 ^ (8 * i)) (hx : x < 256) (hi : i < 8) : band .or .u64 (acc : Int) (shlI .u64 (IntKind.wrap .u64 (x : Int)) (IntKind.wrap .i64 (8 * (i : Int)))) = ((acc + x * 2 ^ (8 * i) : Nat) : Int) := by
  have h1 : x * 2 ^ (8 * i) < 2 ^ 64 := by
    have : 2 ^ (8 * i) * 256 ≤ 2 ^ 64 := by
      rw [show (256 : Nat) = 2 ^ 8 from rfl, ← Nat.pow_add]; exact Nat.pow_le_pow_right (by decide) (by omega)
    have h2 : x * 2 ^ (8 * i) < 256 * 2 ^ (8 * i) := Nat.mul_lt_mul_of_pos_right hx (Nat.pow_pos (by decide))
    omega
  have h2 : acc < 2 ^ 64 := Nat.lt_of_lt_of_le ha (Nat.pow_le_pow_right (by decide) (by omega))
  rw [wrap_i64 _ (by omega) (by omega), show (8 * (i : Int)) = ((8 * i : Nat) : Int) by omega, wrapn x (by omega), shl_nat x (8 * i) (by omega) h1, band_or _ _ h2 h1, or_add _ _ _ ha]
/-- A byte of a number. -/
theorem shr_byte {v i : Nat} (hi : i < 8) : IntKind.wrap .u8 (shrI .u64 (v : Int) (IntKind.wrap .i64 (8 * (i : Int)))) = ((v / 2 ^ (8 * i) % 256 : Nat) : Int) := by
  rw [wrap_i64 _ (by omega) (by omega), show (8 * (i : Int)) = ((8 * i : Nat) : Int) by omega, shr_nat .u64 v (8 * i) (by show 8 * i ≤ 64; omega), Nat.shiftRight_eq_div_pow]
  simp [IntKind.wrap, IntKind.bits, IntKind.signed]
end Go.Sh
