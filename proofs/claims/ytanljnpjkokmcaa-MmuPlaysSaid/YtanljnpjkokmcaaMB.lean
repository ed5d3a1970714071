import Derived.Test.YtanljnpjkokmcaaMA
import Derived.Test.YtanljnpjkokmcaaML
import Derived.Test.YtanljnpjkokmcaaSet2
/- Memory: bytes and tags as a row of cells; numbers of bytes. Plain. -/
set_option linter.unusedVariables false
namespace Go.Sh
open Go.RowKit

/-- The cell j of the frames: bytes b (by address), tags t (by frame). -/
def ramCell (b t : Nat → Nat) (j : Nat) : Value := if j % 4100 < 4096 then .int .u8 (b (j / 4100 * 4096 + j % 4100) : Nat) else .int .u64 (wd (t (j / 4100)) (j % 4100 - 4096))
def ramV (n : Nat) (b t : Nat → Nat) : List Value := (List.range (n * 4100)).map (ramCell b t)
theorem ramV_len (n : Nat) (b t : Nat → Nat) : (ramV n b t).length = n * 4100 := by simp [ramV]
theorem ramV_get {n j : Nat} (b t : Nat → Nat) (h : j < n * 4100) : (ramV n b t)[j]? = some (ramCell b t j) := by simp [ramV, h]
theorem ramCell_byte (b t : Nat → Nat) (f o : Nat) (h : o < 4096) : ramCell b t (f * 4100 + o) = .int .u8 (b (f * 4096 + o) : Nat) := by
  have e1 : (f * 4100 + o) % 4100 = o := by omega
  have e2 : (f * 4100 + o) / 4100 = f := by omega
  rw [ramCell, e1, e2, if_pos h]
theorem ramCell_tag (b t : Nat → Nat) (f k : Nat) (h : k < 4) : ramCell b t (f * 4100 + 4096 + k) = .int .u64 (wd (t f) k) := by
  have e1 : (f * 4100 + 4096 + k) % 4100 = 4096 + k := by omega
  have e2 : (f * 4100 + 4096 + k) / 4100 = f := by omega
  rw [ramCell, e1, e2, if_neg (by omega), Nat.add_sub_cancel_left]
theorem ramV_byte {n f o : Nat} (b t : Nat → Nat) (hf : f < n) (ho : o < 4096) : (ramV n b t)[f * 4100 + o]? = some (.int .u8 (b (f * 4096 + o) : Nat)) := by
  rw [ramV_get b t (by omega), ramCell_byte b t f o ho]
theorem tag_get (s : Nat) {k : Nat} (h : k < 4) : (SV.vals zenv (setCells s))[k]? = some (.int .u64 (wd s k)) := by
  have : k = 0 ∨ k = 1 ∨ k = 2 ∨ k = 3 := by omega
  rcases this with rfl | rfl | rfl | rfl <;> rfl
theorem ramV_tags {n f : Nat} (b t : Nat → Nat) (hf : f < n) : ((ramV n b t).drop (f * 4100 + 4096)).take 4 = SV.vals zenv (setCells (t f)) := by
  refine List.ext_getElem? fun k => ?_
  rw [List.getElem?_take]
  by_cases hk : k < 4
  · rw [if_pos hk, List.getElem?_drop, ramV_get b t (by omega), ramCell_tag b t f k hk]
    have : k = 0 ∨ k = 1 ∨ k = 2 ∨ k = 3 := by omega
    rcases this with rfl | rfl | rfl | rfl <;> rfl
  · rw [if_neg hk]
    have : (SV.vals zenv (setCells (t f))).length = 4 := rfl
    rw [List.getElem?_eq_none (by omega)]
theorem setRange_get {α : Type} {cs vs : List α} {o j : Nat} (h : o + vs.length ≤ cs.length) : (setRange cs o vs)[j]? = if o ≤ j ∧ j < o + vs.length then vs[j - o]? else cs[j]? := by
  rw [setRange]
  by_cases c1 : j < o
  · rw [if_neg (by omega), List.append_assoc, List.getElem?_append_left (by simp; omega), List.getElem?_take, if_pos c1]
  · by_cases c2 : j < o + vs.length
    · rw [if_pos ⟨by omega, c2⟩, List.append_assoc, List.getElem?_append_right (by simp; omega), List.getElem?_append_left (by simp; omega)]
      congr 1
      simp; omega
    · rw [if_neg (by omega), List.getElem?_append_right (by simp; omega), List.getElem?_drop]
      congr 1
      simp; omega
theorem ramV_setb {n f o : Nat} (b t : Nat → Nat) (x : Nat) (hf : f < n) (ho : o < 4096) : setRange (ramV n b t) (f * 4100 + o) [.int .u8 (x : Nat)] = ramV n (fset b (f * 4096 + o) x) t := by
  refine List.ext_getElem? fun j => ?_
  rw [setRange_get (by rw [ramV_len]; simp; omega)]
  by_cases hj : j < n * 4100
  · rw [ramV_get _ _ hj, ramV_get _ _ hj]
    by_cases e : j = f * 4100 + o
    · subst e
      rw [if_pos ⟨by omega, by simp⟩, Nat.sub_self, ramCell_byte _ _ _ _ ho, fset_same]; rfl
    · rw [if_neg (by simp; omega)]
      refine congrArg some ?_
      unfold ramCell
      by_cases c : j % 4100 < 4096
      · rw [if_pos c, if_pos c, fset_ne _ _ (by omega)]
      · rw [if_neg c, if_neg c]
  · rw [if_neg (by simp; omega), List.getElem?_eq_none (by rw [ramV_len]; omega), List.getElem?_eq_none (by rw [ramV_len]; omega)]
theorem ramV_sett {n f : Nat} (b t : Nat → Nat) (s : Nat) (hf : f < n) : setRange (ramV n b t) (f * 4100 + 4096) (SV.vals zenv (setCells s)) = ramV n b (fset t f s) := by
  have hl : (SV.vals zenv (setCells s)).length = 4 := rfl
  refine List.ext_getElem? fun j => ?_
  rw [setRange_get (by rw [ramV_len, hl]; omega), hl]
  by_cases hj : j < n * 4100
  · rw [ramV_get _ _ hj, ramV_get _ _ hj]
    by_cases e : f * 4100 + 4096 ≤ j ∧ j < f * 4100 + 4096 + 4
    · rw [if_pos e]
      obtain ⟨k, hk⟩ : ∃ k, j - (f * 4100 + 4096) = k := ⟨_, rfl⟩
      have hk4 : k < 4 := by omega
      have hj2 : j = f * 4100 + 4096 + k := by omega
      have e3 := ramCell_tag b (fset t f s) f k hk4
      rw [fset_same, ← hj2] at e3
      rw [hk, e3]
      exact tag_get s hk4
    · rw [if_neg e]
      refine congrArg some ?_
      unfold ramCell
      by_cases c : j % 4100 < 4096
      · rw [if_pos c, if_pos c]
      · rw [if_neg c, if_neg c, fset_ne _ _ (by omega)]
  · rw [if_neg (by omega), List.getElem?_eq_none (by rw [ramV_len]; omega), List.getElem?_eq_none (by rw [ramV_len]; omega)]

/-! ### Numbers of bytes -/
def okB (b : Nat → Nat) : Prop := ∀ a, b a < 256
def rdN (b : Nat → Nat) (at_ : Nat) : Nat → Nat
  | 0 => 0
  | n + 1 => rdN b at_ n + b (at_ + n) * 2 ^ (8 * n)
theorem rdN_lt {b : Nat → Nat} (h : okB b) (a : Nat) : ∀ n, rdN b a n < 2 ^ (8 * n)
  | 0 => by simp [rdN]
  | n + 1 => by
    have h1 := rdN_lt h a n
    have h2 := h (a + n)
    rw [rdN, show 8 * (n + 1) = 8 * n + 8 by omega, Nat.pow_add]
    have h3 : b (a + n) * 2 ^ (8 * n) ≤ 255 * 2 ^ (8 * n) := Nat.mul_le_mul_right _ (by omega)
    have : 2 ^ (8 * n) * 2 ^ 8 = 255 * 2 ^ (8 * n) + 2 ^ (8 * n) := by omega
    omega
theorem rdN_congr {b b' : Nat → Nat} {a : Nat} : ∀ {n : Nat}, (∀ j, j < n → b (a + j) = b' (a + j)) → rdN b a n = rdN b' a n
  | 0, _ => rfl
  | n + 1, h => by rw [rdN, rdN, rdN_congr fun j hj => h j (by omega), h n (by omega)]
/-- The bytes with n of a number's laid from a on. -/
def stB (b : Nat → Nat) (a v n : Nat) : Nat → Nat := fun k => if a ≤ k ∧ k < a + n then v / 2 ^ (8 * (k - a)) % 256 else b k
theorem stB_zero (b : Nat → Nat) (a v : Nat) : stB b a v 0 = b := by funext k; exact if_neg (by omega)
theorem stB_succ (b : Nat → Nat) (a v n : Nat) : fset (stB b a v n) (a + n) (v / 2 ^ (8 * n) % 256) = stB b a v (n + 1) := by
  funext k
  unfold fset stB
  by_cases e : k = a + n
  · subst e; rw [if_pos rfl, if_pos (by omega), Nat.add_sub_cancel_left]
  · rw [if_neg e]
    by_cases c : a ≤ k ∧ k < a + n
    · rw [if_pos c, if_pos (by omega)]
    · rw [if_neg c, if_neg (by omega)]
theorem stB_ok {b : Nat → Nat} (h : okB b) (a v n : Nat) : okB (stB b a v n) := fun k => by
  unfold stB; split
  · exact Nat.mod_lt _ (by decide)
  · exact h k
theorem rd_st (b : Nat → Nat) (a v : Nat) {m : Nat} : ∀ {n : Nat}, n ≤ m → rdN (stB b a v m) a n = v % 2 ^ (8 * n)
  | 0, _ => by simp [rdN, Nat.mod_one]
  | n + 1, h => by
    rw [rdN, rd_st b a v (n := n) (by omega)]
    unfold stB
    rw [if_pos (by omega), Nat.add_sub_cancel_left, show 8 * (n + 1) = 8 * n + 8 by omega, Nat.pow_add, Nat.mod_mul, Nat.mul_comm (v / 2 ^ (8 * n) % 256)]
theorem rd_st_far (b : Nat → Nat) (a v m a' n : Nat) (h : a' + n ≤ a ∨ a + m ≤ a') : rdN (stB b a v m) a' n = rdN b a' n :=
  rdN_congr fun j hj => if_neg (by omega)

theorem shl_nat (x r : Nat) (hr : r ≤ 64) (h : x * 2 ^ r < 2 ^ 64) : shlI .u64 (x : Int) (r : Int) = ((x * 2 ^ r : Nat) : Int) := by
  show IntKind.wrap .u64 ((x : Int) * 2 ^ min (r : Int).toNat 64) = _
  rw [Int.toNat_natCast, Nat.min_eq_left hr, ← wrapn _ h]
  push_cast; rfl
theorem or_add (x y k : Nat) (h : x < 2 ^ k) : x ||| (y * 2 ^ k) = x + y * 2 ^ k := by
  rw [Nat.mul_comm y, Nat.or_comm, Nat.add_comm, Nat.two_pow_add_eq_or_of_lt h]
/-- One byte more. -/
theorem or_byte {acc x i : Nat} (ha : acc < 2 ^ (8 * i)) (hx : x < 256) (hi : i < 8) : band .or .u64 (acc : Int) (shlI .u64 (IntKind.wrap .u64 (x : Int)) (IntKind.wrap .i64 (8 * (i : Int)))) = ((acc + x * 2 ^ (8 * i) : Nat) : Int) := by
  have h1 : x * 2 ^ (8 * i) < 2 ^ 64 := by
    have : 2 ^ (8 * i) * 256 ≤ 2 ^ 64 := by
      rw [show (256 : Nat) = 2 ^ 8 from rfl, ← Nat.pow_add]; exact Nat.pow_le_pow_right (by decide) (by omega)
    have h2 : x * 2 ^ (8 * i) < 256 * 2 ^ (8 * i) := Nat.mul_lt_mul_of_pos_right hx (Nat.pow_pos (by decide))
    omega
  have h2 : acc < 2 ^ 64 := Nat.lt_of_lt_of_le ha (Nat.pow_le_pow_right (by decide) (by omega))
  rw [wrap_i64 _ (by omega) (by omega), show (8 * (i : Int)) = ((8 * i : Nat) : Int) by omega, wrapn x (by omega), shl_nat x (8 * i) (by omega) h1, band_or _ _ h2 h1, or_add _ _ _ ha]
/-- A byte of a number. -/
theorem shr_byte {v i : Nat} (hi : i < 8) : IntKind.wrap .u8 (shrI .u64 (v : Int) (IntKind.wrap .i64 (8 * (i : Int)))) = ((v / 2 ^ (8 * i) % 256 : Nat) : Int) := by
  rw [wrap_i64 _ (by omega) (by omega), show (8 * (i : Int)) = ((8 * i : Nat) : Int) by omega, shr_nat .u64 v (8 * i) (by show 8 * i ≤ 64; omega), Nat.shiftRight_eq_div_pow]
  simp [IntKind.wrap, IntKind.bits, IntKind.signed]
end Go.Sh

/- Entries of page tables, and their numbers: plain. -/
set_option linter.unusedVariables false
namespace Go.Sh
open Go.RowKit

def bn (b : Bool) : Nat := b.toNat
theorem bn_lt (b : Bool) : bn b ≤ 1 := Bool.toNat_le b
def okE (e : Ent) : Prop := 0 ≤ e.fr ∧ e.fr < 18446744073709551616
def frN (e : Ent) : Nat := e.fr.toNat % 17592186044416
/-- The number, its first i flags laid. -/
def wA (e : Ent) (i : Nat) : Nat :=
  frN e * 1024 + (if 0 < i then bn e.v else 0) + (if 1 < i then 2 * bn e.r else 0) + (if 2 < i then 4 * bn e.w else 0) + (if 3 < i then 8 * bn e.x else 0) + (if 4 < i then 16 * bn e.u else 0) + (if 5 < i then 32 * bn e.g else 0) + (if 6 < i then 64 * bn e.a else 0) + (if 7 < i then 128 * bn e.d else 0) +
    (if 8 < i then 288230376151711744 * bn e.cw else 0) + (if 9 < i then 576460752303423488 * bn e.cr else 0) + (if 10 < i then 1152921504606846976 * bn e.cd else 0) + (if 11 < i then 2305843009213693952 * bn e.gn else 0)
def entW (e : Ent) : Nat := wA e 12
theorem frN_lt (e : Ent) : frN e < 17592186044416 := Nat.mod_lt _ (by decide)
theorem ite_le (p : Prop) [Decidable p] (x : Nat) : (if p then x else 0) ≤ x := by split <;> omega
theorem wA_lt (e : Ent) (i : Nat) : wA e i < 2 ^ 64 := by
  have := frN_lt e
  have h1 := bn_lt e.v; have h2 := bn_lt e.r; have h3 := bn_lt e.w; have h4 := bn_lt e.x; have h5 := bn_lt e.u; have h6 := bn_lt e.g; have h7 := bn_lt e.a; have h8 := bn_lt e.d; have h9 := bn_lt e.cw; have h10 := bn_lt e.cr; have h11 := bn_lt e.cd; have h12 := bn_lt e.gn
  unfold wA
  have a0 := ite_le (0 < i) (bn e.v)
  have a1 := ite_le (1 < i) (2 * bn e.r)
  have a2 := ite_le (2 < i) (4 * bn e.w)
  have a3 := ite_le (3 < i) (8 * bn e.x)
  have a4 := ite_le (4 < i) (16 * bn e.u)
  have a5 := ite_le (5 < i) (32 * bn e.g)
  have a6 := ite_le (6 < i) (64 * bn e.a)
  have a7 := ite_le (7 < i) (128 * bn e.d)
  have a8 := ite_le (8 < i) (288230376151711744 * bn e.cw)
  have a9 := ite_le (9 < i) (576460752303423488 * bn e.cr)
  have a10 := ite_le (10 < i) (1152921504606846976 * bn e.cd)
  have a11 := ite_le (11 < i) (2305843009213693952 * bn e.gn)
  generalize (if 0 < i then bn e.v else 0) = t0 at a0 ⊢
  generalize (if 1 < i then 2 * bn e.r else 0) = t1 at a1 ⊢
  generalize (if 2 < i then 4 * bn e.w else 0) = t2 at a2 ⊢
  generalize (if 3 < i then 8 * bn e.x else 0) = t3 at a3 ⊢
  generalize (if 4 < i then 16 * bn e.u else 0) = t4 at a4 ⊢
  generalize (if 5 < i then 32 * bn e.g else 0) = t5 at a5 ⊢
  generalize (if 6 < i then 64 * bn e.a else 0) = t6 at a6 ⊢
  generalize (if 7 < i then 128 * bn e.d else 0) = t7 at a7 ⊢
  generalize (if 8 < i then 288230376151711744 * bn e.cw else 0) = t8 at a8 ⊢
  generalize (if 9 < i then 576460752303423488 * bn e.cr else 0) = t9 at a9 ⊢
  generalize (if 10 < i then 1152921504606846976 * bn e.cd else 0) = t10 at a10 ⊢
  generalize (if 11 < i then 2305843009213693952 * bn e.gn else 0) = t11 at a11 ⊢
  omega
theorem entW_lt (e : Ent) : entW e < 2 ^ 64 := wA_lt e 12
theorem or_bit {x p : Nat} (h : x / 2 ^ p % 2 = 0) : x ||| 2 ^ p = x + 2 ^ p := by
  have hb : x.testBit p = false := by
    rw [Nat.testBit_eq_decide_div_mod_eq, h]; rfl
  have h1 : x = x / 2 ^ (p + 1) * 2 ^ (p + 1) + x % 2 ^ p := by
    have e1 := Nat.div_add_mod x (2 ^ p)
    have e2 := Nat.div_add_mod (x / 2 ^ p) 2
    rw [h, Nat.add_zero, Nat.div_div_eq_div_mul, ← Nat.pow_succ] at e2
    rw [← e2] at e1
    rw [Nat.pow_succ, Nat.mul_comm (x / (2 ^ p * 2)), Nat.mul_assoc]
    rw [Nat.pow_succ] at e1
    exact e1.symm
  have h2 : x % 2 ^ p < 2 ^ p := Nat.mod_lt _ (Nat.pow_pos (by decide))
  refine Nat.eq_of_testBit_eq fun j => ?_
  have key : ∀ q r, r < 2 ^ p → (q * 2 ^ (p + 1) + r + 2 ^ p).testBit j = ((q * 2 ^ (p + 1) + r).testBit j || decide (p = j)) := by
    intro q r hr
    have e : q * 2 ^ (p + 1) + r + 2 ^ p = (2 * q + 1) * 2 ^ p + r := by rw [Nat.pow_succ, Nat.add_mul, Nat.mul_comm 2 q, Nat.mul_assoc, Nat.mul_comm 2]; omega
    have e' : q * 2 ^ (p + 1) + r = (2 * q) * 2 ^ p + r := by rw [Nat.pow_succ, Nat.mul_comm 2 q, Nat.mul_assoc, Nat.mul_comm 2]
    rw [e, e', Nat.mul_comm (2 * q + 1), Nat.mul_comm (2 * q), Nat.testBit_two_pow_mul_add _ hr, Nat.testBit_two_pow_mul_add _ hr]
    by_cases c : j < p
    · rw [if_pos c, if_pos c]; simp; omega
    · rw [if_neg c, if_neg c]
      by_cases c2 : p = j
      · subst c2; simp [Nat.testBit_zero]
      · obtain ⟨k, hk⟩ : ∃ k, j - p = k + 1 := ⟨j - p - 1, by omega⟩
        rw [hk, Nat.testBit_succ, Nat.testBit_succ, show (2 * q + 1) / 2 = q by omega, show 2 * q / 2 = q by omega]
        simp [c2]
  have k2 := key (x / 2 ^ (p + 1)) (x % 2 ^ p) h2
  rw [← h1] at k2
  rw [k2, Nat.testBit_or, Nat.testBit_two_pow]

/-- Has a number the bit p? (As the code asks.) -/
def hasB (w : Int) (p : Int) : Bool := !decide (band .and .u64 (shrI .u64 w p) 1 = 0)
theorem hasB_eq (w p : Nat) (hw : w < 2 ^ 64) (hp : p ≤ 64) : hasB (w : Int) (p : Int) = w.testBit p := by
  have hs : w >>> p < 2 ^ 64 := Nat.lt_of_le_of_lt (Nat.shiftRight_le _ _) hw
  rw [hasB, shr_nat .u64 w p hp, show (1 : Int) = ((1 : Nat) : Int) from rfl, band_and _ _ hs (by decide), Nat.and_one_is_mod, Nat.shiftRight_eq_div_pow, Nat.testBit_eq_decide_div_mod_eq]
  have : w / 2 ^ p % 2 = 0 ∨ w / 2 ^ p % 2 = 1 := by omega
  rcases this with h | h <;> rw [h] <;> rfl
def entOf (w : Nat) : Ent := ⟨w.testBit 0, w.testBit 1, w.testBit 2, w.testBit 3, w.testBit 4, w.testBit 5, w.testBit 6, w.testBit 7, w.testBit 58, w.testBit 59, w.testBit 60, w.testBit 61, (w / 1024 % 17592186044416 : Nat)⟩
theorem entOf_ok (w : Nat) : okE (entOf w) := by
  unfold okE entOf; simp only; omega
theorem bn_eq (b : Bool) (x : Nat) (h : x % 2 = bn b) : decide (x % 2 = 1) = b := by
  cases b
  · rw [h]; rfl
  · rw [h]; rfl
/-- What is laid is told, its frame cut. -/
theorem entOf_entW (e : Ent) : entOf (entW e) = { e with fr := (frN e : Nat) } := by
  have h0 := frN_lt e
  have h1 := bn_lt e.v; have h2 := bn_lt e.r; have h3 := bn_lt e.w; have h4 := bn_lt e.x; have h5 := bn_lt e.u; have h6 := bn_lt e.g; have h7 := bn_lt e.a; have h8 := bn_lt e.d; have h9 := bn_lt e.cw; have h10 := bn_lt e.cr; have h11 := bn_lt e.cd; have h12 := bn_lt e.gn
  have hw : entW e = frN e * 1024 + bn e.v + 2 * bn e.r + 4 * bn e.w + 8 * bn e.x + 16 * bn e.u + 32 * bn e.g + 64 * bn e.a + 128 * bn e.d + 288230376151711744 * bn e.cw + 576460752303423488 * bn e.cr + 1152921504606846976 * bn e.cd + 2305843009213693952 * bn e.gn := rfl
  unfold entOf
  simp only [Nat.testBit_eq_decide_div_mod_eq, hw]
  obtain ⟨v, r, w, x, u, g, a, d, cw, cr, cd, gn, fr⟩ := e
  simp only [Ent.mk.injEq]
  refine ⟨bn_eq _ _ ?_, bn_eq _ _ ?_, bn_eq _ _ ?_, bn_eq _ _ ?_, bn_eq _ _ ?_, bn_eq _ _ ?_, bn_eq _ _ ?_, bn_eq _ _ ?_, bn_eq _ _ ?_, bn_eq _ _ ?_, bn_eq _ _ ?_, bn_eq _ _ ?_, ?_⟩ <;> simp only [Nat.reducePow] at * <;> omega

/-! ### What entries let be done -/
def leafB (e : Ent) : Bool := e.v && (e.r || e.w || e.x)
def rightB (e : Ent) : Bool := !e.v || (!(e.w && !e.r) && !(e.cw && !e.w) && !(e.cr && !e.r) && decide (e.fr ≤ 17592186044415) && (leafB e || (!e.r && !e.w && !e.x && !e.u && !e.a && !e.d && !e.cw && !e.cr && !e.cd && !e.gn)))
def letsB (e : Ent) (k : Int) : Bool := decide (k = 0) && e.x || (decide (k = 1) || decide (k = 3)) && e.r || (decide (k = 2) || decide (k = 4)) && e.w
def chkE (e : Ent) (k : Int) (tagged gen : Bool) : Int :=
  if leafB e = false then 1 else if (!e.u || !letsB e k) = true then 2 else if (decide (k = 3) && e.cr && (e.gn != gen)) = true then 3 else if (decide (k = 4) && tagged && !e.cw) = true then 4 else 0
def markE (e : Ent) (k : Int) (tagged : Bool) : Ent := { e with a := true, d := e.d || (decide (k = 2) || decide (k = 4)), cd := e.cd || (decide (k = 4) && tagged) }
def stripB (e : Ent) (k : Int) : Bool := decide (k = 3) && !e.cr
def idxN (va level : Nat) : Nat := va / 2 ^ (12 + 9 * level) % 512
end Go.Sh

/- Numbers that memory's laws ask of: plain. -/
set_option linter.unusedVariables false
namespace Go.Sh
open Go.RowKit

theorem band_mask (x : Int) (m : Nat) (hm : m < 63) : band .and .i64 x ((2 ^ m - 1 : Nat) : Int) = ((x % ((2 ^ m : Nat) : Int)).toNat : Int) := by
  have hp : 2 ^ m < 2 ^ 63 := Nat.pow_lt_pow_right (by decide) hm
  have hpos : 0 < 2 ^ m := Nat.pow_pos (by decide)
  have h1 : (BitVec.ofInt 64 x &&& BitVec.ofInt 64 ((2 ^ m - 1 : Nat) : Int)).toNat = (x % ((2 ^ m : Nat) : Int)).toNat := by
    rw [BitVec.toNat_and, bv_nat, Nat.mod_eq_of_lt (show 2 ^ m - 1 < 2 ^ 64 by omega), Nat.and_two_pow_sub_one_eq_mod, BitVec.toNat_ofInt]
    have hd : ((2 ^ m : Nat) : Int) ∣ ((2 ^ 64 : Nat) : Int) := Int.natCast_dvd_natCast.2 (Nat.pow_dvd_pow 2 (by omega))
    have h2 : x % ((2 ^ 64 : Nat) : Int) % ((2 ^ m : Nat) : Int) = x % ((2 ^ m : Nat) : Int) := Int.emod_emod_of_dvd x hd
    have h3 : 0 ≤ x % ((2 ^ 64 : Nat) : Int) := Int.emod_nonneg _ (by decide)
    have h4 : 0 ≤ x % ((2 ^ m : Nat) : Int) := Int.emod_nonneg _ (by omega)
    have h5 : (((x % ((2 ^ 64 : Nat) : Int)).toNat % 2 ^ m : Nat) : Int) = x % ((2 ^ m : Nat) : Int) := by
      rw [Int.natCast_emod, Int.toNat_of_nonneg h3, h2]
    omega
  have h6 : (x % ((2 ^ m : Nat) : Int)).toNat < 2 ^ m := by
    have := Int.emod_lt_of_pos x (show 0 < ((2 ^ m : Nat) : Int) by omega)
    have := Int.emod_nonneg x (show ((2 ^ m : Nat) : Int) ≠ 0 by omega)
    omega
  show IntKind.wrap .i64 ((BitVec.ofInt 64 x &&& BitVec.ofInt 64 ((2 ^ m - 1 : Nat) : Int)).toNat : Int) = _
  rw [h1, wrap_i64 _ (by omega) (by omega)]
theorem quo_nat (a n : Nat) (h : a < 2 ^ 64) : IntKind.wrap .u64 ((a : Int).tdiv (n : Int)) = ((a / n : Nat) : Int) := by
  rw [Int.ofNat_tdiv]; exact wrapn _ (Nat.lt_of_le_of_lt (Nat.div_le_self _ _) h)
theorem rem_nat (a n : Nat) : (a : Int).tmod (n : Int) = ((a % n : Nat) : Int) := Int.ofNat_tmod a n
def okN (n : Nat) : Prop := n = 1 ∨ n = 2 ∨ n = 4 ∨ n = 8
theorem mod_lt' (x : Int) {m : Nat} (hm : 0 < m) : (x % (m : Int)).toNat < m := by
  have := Int.emod_lt_of_pos x (show 0 < (m : Int) by omega)
  have := Int.emod_nonneg x (show (m : Int) ≠ 0 by omega)
  omega
end Go.Sh

/- The number of an entry, flag by flag. -/
set_option linter.unusedVariables false
namespace Go.Sh
open Go.RowKit

theorem twelve {i : Nat} (h : i < 12) : i = 0 ∨ i = 1 ∨ i = 2 ∨ i = 3 ∨ i = 4 ∨ i = 5 ∨ i = 6 ∨ i = 7 ∨ i = 8 ∨ i = 9 ∨ i = 10 ∨ i = 11 := by omega
theorem or_lit {x p : Nat} (hp : p < 64) (hx : x < 2 ^ 64) (h : x / 2 ^ p % 2 = 0) : band .or .u64 (x : Int) (shlI .u64 1 (p : Int)) = ((x + 2 ^ p : Nat) : Int) := by
  rw [shl_one p hp, band_or _ _ hx (Nat.pow_lt_pow_right (by decide) hp), or_bit h]
theorem wA0 (e : Ent) : wA e 0 = frN e * 1024 := by unfold wA; simp
theorem wA1 (e : Ent) : wA e 1 = frN e * 1024 + bn e.v := by unfold wA; simp
theorem wA2 (e : Ent) : wA e 2 = frN e * 1024 + bn e.v + 2 * bn e.r := by unfold wA; simp
theorem wA3 (e : Ent) : wA e 3 = frN e * 1024 + bn e.v + 2 * bn e.r + 4 * bn e.w := by unfold wA; simp
theorem wA4 (e : Ent) : wA e 4 = frN e * 1024 + bn e.v + 2 * bn e.r + 4 * bn e.w + 8 * bn e.x := by unfold wA; simp
theorem wA5 (e : Ent) : wA e 5 = frN e * 1024 + bn e.v + 2 * bn e.r + 4 * bn e.w + 8 * bn e.x + 16 * bn e.u := by unfold wA; simp
theorem wA6 (e : Ent) : wA e 6 = frN e * 1024 + bn e.v + 2 * bn e.r + 4 * bn e.w + 8 * bn e.x + 16 * bn e.u + 32 * bn e.g := by unfold wA; simp
theorem wA7 (e : Ent) : wA e 7 = frN e * 1024 + bn e.v + 2 * bn e.r + 4 * bn e.w + 8 * bn e.x + 16 * bn e.u + 32 * bn e.g + 64 * bn e.a := by unfold wA; simp
theorem wA8 (e : Ent) : wA e 8 = frN e * 1024 + bn e.v + 2 * bn e.r + 4 * bn e.w + 8 * bn e.x + 16 * bn e.u + 32 * bn e.g + 64 * bn e.a + 128 * bn e.d := by unfold wA; simp
theorem wA9 (e : Ent) : wA e 9 = frN e * 1024 + bn e.v + 2 * bn e.r + 4 * bn e.w + 8 * bn e.x + 16 * bn e.u + 32 * bn e.g + 64 * bn e.a + 128 * bn e.d + 288230376151711744 * bn e.cw := by unfold wA; simp
theorem wA10 (e : Ent) : wA e 10 = frN e * 1024 + bn e.v + 2 * bn e.r + 4 * bn e.w + 8 * bn e.x + 16 * bn e.u + 32 * bn e.g + 64 * bn e.a + 128 * bn e.d + 288230376151711744 * bn e.cw + 576460752303423488 * bn e.cr := by unfold wA; simp
theorem wA11 (e : Ent) : wA e 11 = frN e * 1024 + bn e.v + 2 * bn e.r + 4 * bn e.w + 8 * bn e.x + 16 * bn e.u + 32 * bn e.g + 64 * bn e.a + 128 * bn e.d + 288230376151711744 * bn e.cw + 576460752303423488 * bn e.cr + 1152921504606846976 * bn e.cd := by unfold wA; simp
theorem wA12 (e : Ent) : wA e 12 = frN e * 1024 + bn e.v + 2 * bn e.r + 4 * bn e.w + 8 * bn e.x + 16 * bn e.u + 32 * bn e.g + 64 * bn e.a + 128 * bn e.d + 288230376151711744 * bn e.cw + 576460752303423488 * bn e.cr + 1152921504606846976 * bn e.cd + 2305843009213693952 * bn e.gn := by unfold wA; simp
theorem wA_t0 (e : Ent) (h : e.v = true) : band .or .u64 (wA e 0 : Int) (shlI .u64 1 0) = ((wA e 1 : Nat) : Int) := by
  have h0 := frN_lt e
  skip
  have hz : wA e 0 / 2 ^ 0 % 2 = 0 := by rw [wA0]; omega
  have hb : bn e.v = 1 := by rw [h]; rfl
  have := or_lit (x := wA e 0) (p := 0) (by decide) (wA_lt e 0) hz
  refine Eq.trans this ?_
  rw [wA0, wA1, hb]
theorem wA_f0 (e : Ent) (h : e.v = false) : wA e 0 = wA e 1 := by
  have hb : bn e.v = 0 := by rw [h]; rfl
  rw [wA0, wA1, hb]; omega
theorem wA_t1 (e : Ent) (h : e.r = true) : band .or .u64 (wA e 1 : Int) (shlI .u64 1 1) = ((wA e 2 : Nat) : Int) := by
  have h0 := frN_lt e
  have b0 := bn_lt e.v
  have hz : wA e 1 / 2 ^ 1 % 2 = 0 := by rw [wA1]; omega
  have hb : bn e.r = 1 := by rw [h]; rfl
  have := or_lit (x := wA e 1) (p := 1) (by decide) (wA_lt e 1) hz
  refine Eq.trans this ?_
  rw [wA1, wA2, hb]
theorem wA_f1 (e : Ent) (h : e.r = false) : wA e 1 = wA e 2 := by
  have hb : bn e.r = 0 := by rw [h]; rfl
  rw [wA1, wA2, hb]; omega
theorem wA_t2 (e : Ent) (h : e.w = true) : band .or .u64 (wA e 2 : Int) (shlI .u64 1 2) = ((wA e 3 : Nat) : Int) := by
  have h0 := frN_lt e
  have b0 := bn_lt e.v; have b1 := bn_lt e.r
  have hz : wA e 2 / 2 ^ 2 % 2 = 0 := by rw [wA2]; omega
  have hb : bn e.w = 1 := by rw [h]; rfl
  have := or_lit (x := wA e 2) (p := 2) (by decide) (wA_lt e 2) hz
  refine Eq.trans this ?_
  rw [wA2, wA3, hb]
theorem wA_f2 (e : Ent) (h : e.w = false) : wA e 2 = wA e 3 := by
  have hb : bn e.w = 0 := by rw [h]; rfl
  rw [wA2, wA3, hb]; omega
theorem wA_t3 (e : Ent) (h : e.x = true) : band .or .u64 (wA e 3 : Int) (shlI .u64 1 3) = ((wA e 4 : Nat) : Int) := by
  have h0 := frN_lt e
  have b0 := bn_lt e.v; have b1 := bn_lt e.r; have b2 := bn_lt e.w
  have hz : wA e 3 / 2 ^ 3 % 2 = 0 := by rw [wA3]; omega
  have hb : bn e.x = 1 := by rw [h]; rfl
  have := or_lit (x := wA e 3) (p := 3) (by decide) (wA_lt e 3) hz
  refine Eq.trans this ?_
  rw [wA3, wA4, hb]
theorem wA_f3 (e : Ent) (h : e.x = false) : wA e 3 = wA e 4 := by
  have hb : bn e.x = 0 := by rw [h]; rfl
  rw [wA3, wA4, hb]; omega
theorem wA_t4 (e : Ent) (h : e.u = true) : band .or .u64 (wA e 4 : Int) (shlI .u64 1 4) = ((wA e 5 : Nat) : Int) := by
  have h0 := frN_lt e
  have b0 := bn_lt e.v; have b1 := bn_lt e.r; have b2 := bn_lt e.w; have b3 := bn_lt e.x
  have hz : wA e 4 / 2 ^ 4 % 2 = 0 := by rw [wA4]; omega
  have hb : bn e.u = 1 := by rw [h]; rfl
  have := or_lit (x := wA e 4) (p := 4) (by decide) (wA_lt e 4) hz
  refine Eq.trans this ?_
  rw [wA4, wA5, hb]
theorem wA_f4 (e : Ent) (h : e.u = false) : wA e 4 = wA e 5 := by
  have hb : bn e.u = 0 := by rw [h]; rfl
  rw [wA4, wA5, hb]; omega
theorem wA_t5 (e : Ent) (h : e.g = true) : band .or .u64 (wA e 5 : Int) (shlI .u64 1 5) = ((wA e 6 : Nat) : Int) := by
  have h0 := frN_lt e
  have b0 := bn_lt e.v; have b1 := bn_lt e.r; have b2 := bn_lt e.w; have b3 := bn_lt e.x; have b4 := bn_lt e.u
  have hz : wA e 5 / 2 ^ 5 % 2 = 0 := by rw [wA5]; omega
  have hb : bn e.g = 1 := by rw [h]; rfl
  have := or_lit (x := wA e 5) (p := 5) (by decide) (wA_lt e 5) hz
  refine Eq.trans this ?_
  rw [wA5, wA6, hb]
theorem wA_f5 (e : Ent) (h : e.g = false) : wA e 5 = wA e 6 := by
  have hb : bn e.g = 0 := by rw [h]; rfl
  rw [wA5, wA6, hb]; omega
theorem wA_t6 (e : Ent) (h : e.a = true) : band .or .u64 (wA e 6 : Int) (shlI .u64 1 6) = ((wA e 7 : Nat) : Int) := by
  have h0 := frN_lt e
  have b0 := bn_lt e.v; have b1 := bn_lt e.r; have b2 := bn_lt e.w; have b3 := bn_lt e.x; have b4 := bn_lt e.u; have b5 := bn_lt e.g
  have hz : wA e 6 / 2 ^ 6 % 2 = 0 := by rw [wA6]; omega
  have hb : bn e.a = 1 := by rw [h]; rfl
  have := or_lit (x := wA e 6) (p := 6) (by decide) (wA_lt e 6) hz
  refine Eq.trans this ?_
  rw [wA6, wA7, hb]
theorem wA_f6 (e : Ent) (h : e.a = false) : wA e 6 = wA e 7 := by
  have hb : bn e.a = 0 := by rw [h]; rfl
  rw [wA6, wA7, hb]; omega
theorem wA_t7 (e : Ent) (h : e.d = true) : band .or .u64 (wA e 7 : Int) (shlI .u64 1 7) = ((wA e 8 : Nat) : Int) := by
  have h0 := frN_lt e
  have b0 := bn_lt e.v; have b1 := bn_lt e.r; have b2 := bn_lt e.w; have b3 := bn_lt e.x; have b4 := bn_lt e.u; have b5 := bn_lt e.g; have b6 := bn_lt e.a
  have hz : wA e 7 / 2 ^ 7 % 2 = 0 := by rw [wA7]; omega
  have hb : bn e.d = 1 := by rw [h]; rfl
  have := or_lit (x := wA e 7) (p := 7) (by decide) (wA_lt e 7) hz
  refine Eq.trans this ?_
  rw [wA7, wA8, hb]
theorem wA_f7 (e : Ent) (h : e.d = false) : wA e 7 = wA e 8 := by
  have hb : bn e.d = 0 := by rw [h]; rfl
  rw [wA7, wA8, hb]; omega
theorem wA_t8 (e : Ent) (h : e.cw = true) : band .or .u64 (wA e 8 : Int) (shlI .u64 1 58) = ((wA e 9 : Nat) : Int) := by
  have h0 := frN_lt e
  have b0 := bn_lt e.v; have b1 := bn_lt e.r; have b2 := bn_lt e.w; have b3 := bn_lt e.x; have b4 := bn_lt e.u; have b5 := bn_lt e.g; have b6 := bn_lt e.a; have b7 := bn_lt e.d
  have hz : wA e 8 / 2 ^ 58 % 2 = 0 := by rw [wA8]; omega
  have hb : bn e.cw = 1 := by rw [h]; rfl
  have := or_lit (x := wA e 8) (p := 58) (by decide) (wA_lt e 8) hz
  refine Eq.trans this ?_
  rw [wA8, wA9, hb]
theorem wA_f8 (e : Ent) (h : e.cw = false) : wA e 8 = wA e 9 := by
  have hb : bn e.cw = 0 := by rw [h]; rfl
  rw [wA8, wA9, hb]; omega
theorem wA_t9 (e : Ent) (h : e.cr = true) : band .or .u64 (wA e 9 : Int) (shlI .u64 1 59) = ((wA e 10 : Nat) : Int) := by
  have h0 := frN_lt e
  have b0 := bn_lt e.v; have b1 := bn_lt e.r; have b2 := bn_lt e.w; have b3 := bn_lt e.x; have b4 := bn_lt e.u; have b5 := bn_lt e.g; have b6 := bn_lt e.a; have b7 := bn_lt e.d; have b8 := bn_lt e.cw
  have hz : wA e 9 / 2 ^ 59 % 2 = 0 := by rw [wA9]; omega
  have hb : bn e.cr = 1 := by rw [h]; rfl
  have := or_lit (x := wA e 9) (p := 59) (by decide) (wA_lt e 9) hz
  refine Eq.trans this ?_
  rw [wA9, wA10, hb]
theorem wA_f9 (e : Ent) (h : e.cr = false) : wA e 9 = wA e 10 := by
  have hb : bn e.cr = 0 := by rw [h]; rfl
  rw [wA9, wA10, hb]; omega
theorem wA_t10 (e : Ent) (h : e.cd = true) : band .or .u64 (wA e 10 : Int) (shlI .u64 1 60) = ((wA e 11 : Nat) : Int) := by
  have h0 := frN_lt e
  have b0 := bn_lt e.v; have b1 := bn_lt e.r; have b2 := bn_lt e.w; have b3 := bn_lt e.x; have b4 := bn_lt e.u; have b5 := bn_lt e.g; have b6 := bn_lt e.a; have b7 := bn_lt e.d; have b8 := bn_lt e.cw; have b9 := bn_lt e.cr
  have hz : wA e 10 / 2 ^ 60 % 2 = 0 := by rw [wA10]; omega
  have hb : bn e.cd = 1 := by rw [h]; rfl
  have := or_lit (x := wA e 10) (p := 60) (by decide) (wA_lt e 10) hz
  refine Eq.trans this ?_
  rw [wA10, wA11, hb]
theorem wA_f10 (e : Ent) (h : e.cd = false) : wA e 10 = wA e 11 := by
  have hb : bn e.cd = 0 := by rw [h]; rfl
  rw [wA10, wA11, hb]; omega
theorem wA_t11 (e : Ent) (h : e.gn = true) : band .or .u64 (wA e 11 : Int) (shlI .u64 1 61) = ((wA e 12 : Nat) : Int) := by
  have h0 := frN_lt e
  have b0 := bn_lt e.v; have b1 := bn_lt e.r; have b2 := bn_lt e.w; have b3 := bn_lt e.x; have b4 := bn_lt e.u; have b5 := bn_lt e.g; have b6 := bn_lt e.a; have b7 := bn_lt e.d; have b8 := bn_lt e.cw; have b9 := bn_lt e.cr; have b10 := bn_lt e.cd
  have hz : wA e 11 / 2 ^ 61 % 2 = 0 := by rw [wA11]; omega
  have hb : bn e.gn = 1 := by rw [h]; rfl
  have := or_lit (x := wA e 11) (p := 61) (by decide) (wA_lt e 11) hz
  refine Eq.trans this ?_
  rw [wA11, wA12, hb]
theorem wA_f11 (e : Ent) (h : e.gn = false) : wA e 11 = wA e 12 := by
  have hb : bn e.gn = 0 := by rw [h]; rfl
  rw [wA11, wA12, hb]; omega
end Go.Sh

/- The entry of a number, flag by flag. -/
set_option linter.unusedVariables false
namespace Go.Sh
open Go.RowKit

def entI (w i : Nat) : List SV := [if 0 < i then .bool (hasB (w : Int) 0) else .ff, if 1 < i then .bool (hasB (w : Int) 1) else .ff, if 2 < i then .bool (hasB (w : Int) 2) else .ff, if 3 < i then .bool (hasB (w : Int) 3) else .ff, if 4 < i then .bool (hasB (w : Int) 4) else .ff, if 5 < i then .bool (hasB (w : Int) 5) else .ff, if 6 < i then .bool (hasB (w : Int) 6) else .ff, if 7 < i then .bool (hasB (w : Int) 7) else .ff, if 8 < i then .bool (hasB (w : Int) 58) else .ff, if 9 < i then .bool (hasB (w : Int) 59) else .ff, if 10 < i then .bool (hasB (w : Int) 60) else .ff, if 11 < i then .bool (hasB (w : Int) 61) else .ff, .int .u64 ((w / 1024 % 17592186044416 : Nat) : Int)]
theorem ite_ok (c : Prop) [Decidable c] (b : Bool) (u : Nat) : (if c then SV.bool b else SV.ff).ok u = true := by split <;> rfl
theorem entI_oks (u w i : Nat) : SV.oks u (entI w i) = true := by simp only [entI, SV.oks, ite_ok, Bool.true_and]; rfl
theorem entI_all (w : Nat) (hw : w < 2 ^ 64) : entI w 12 = entC (entOf w) := by
  have h0 : hasB (w : Int) 0 = w.testBit 0 := hasB_eq w 0 hw (by decide)
  have h1 : hasB (w : Int) 1 = w.testBit 1 := hasB_eq w 1 hw (by decide)
  have h2 : hasB (w : Int) 2 = w.testBit 2 := hasB_eq w 2 hw (by decide)
  have h3 : hasB (w : Int) 3 = w.testBit 3 := hasB_eq w 3 hw (by decide)
  have h4 : hasB (w : Int) 4 = w.testBit 4 := hasB_eq w 4 hw (by decide)
  have h5 : hasB (w : Int) 5 = w.testBit 5 := hasB_eq w 5 hw (by decide)
  have h6 : hasB (w : Int) 6 = w.testBit 6 := hasB_eq w 6 hw (by decide)
  have h7 : hasB (w : Int) 7 = w.testBit 7 := hasB_eq w 7 hw (by decide)
  have h58 : hasB (w : Int) 58 = w.testBit 58 := hasB_eq w 58 hw (by decide)
  have h59 : hasB (w : Int) 59 = w.testBit 59 := hasB_eq w 59 hw (by decide)
  have h60 : hasB (w : Int) 60 = w.testBit 60 := hasB_eq w 60 hw (by decide)
  have h61 : hasB (w : Int) 61 = w.testBit 61 := hasB_eq w 61 hw (by decide)
  simp only [entI, entC, entOf, h0, h1, h2, h3, h4, h5, h6, h7, h58, h59, h60, h61]
  simp
end Go.Sh

/- The document's memory: what was laid, one behind the other. Plain. -/
set_option linter.unusedVariables false
namespace Go.Sh
open Go.RowKit

def atV (l : List (Nat × Nat)) : List Value := l.map fun p => .int .u64 (p.1 : Nat)
def byV (l : List (Nat × Nat)) : List Value := l.map fun p => .int .u8 (p.2 : Nat)
theorem atV_len (l : List (Nat × Nat)) : (atV l).length = l.length := by simp [atV]
theorem byV_len (l : List (Nat × Nat)) : (byV l).length = l.length := by simp [byV]
theorem atV_get {l : List (Nat × Nat)} {i : Nat} {p : Nat × Nat} (h : l[i]? = some p) : (atV l)[i]? = some (.int .u64 (p.1 : Nat)) := by simp [atV, h]
theorem byV_get {l : List (Nat × Nat)} {i : Nat} {p : Nat × Nat} (h : l[i]? = some p) : (byV l)[i]? = some (.int .u8 (p.2 : Nat)) := by simp [byV, h]
theorem atV_append (l m : List (Nat × Nat)) : atV (l ++ m) = atV l ++ atV m := by simp [atV]
theorem byV_append (l m : List (Nat × Nat)) : byV (l ++ m) = byV l ++ byV m := by simp [byV]
/-- The bytes that were laid. -/
def bL (l : List (Nat × Nat)) : Nat → Nat := l.foldl (fun b p => fset b p.1 p.2) (fun _ => 0)
theorem bL_nil : bL [] = fun _ => 0 := rfl
theorem bL_one (l : List (Nat × Nat)) (a x : Nat) : bL (l ++ [(a, x)]) = fset (bL l) a x := by simp [bL, List.foldl_append]
def stL (a v n : Nat) : List (Nat × Nat) := (List.range n).map fun j => (a + j, v / 2 ^ (8 * j) % 256)
theorem stL_succ (a v n : Nat) : stL a v (n + 1) = stL a v n ++ [(a + n, v / 2 ^ (8 * n) % 256)] := by simp [stL, List.range_succ]
theorem stL_len (a v n : Nat) : (stL a v n).length = n := by simp [stL]
theorem bL_st (l : List (Nat × Nat)) (a v : Nat) : ∀ n, bL (l ++ stL a v n) = stB (bL l) a v n
  | 0 => by rw [stB_zero]; simp [stL]
  | n + 1 => by rw [stL_succ, ← List.append_assoc, bL_one, bL_st l a v n, stB_succ]
theorem bL_take {l : List (Nat × Nat)} {i : Nat} {p : Nat × Nat} (h : l[i]? = some p) (k : Nat) : bL (l.take (i + 1)) k = if p.1 = k then p.2 else bL (l.take i) k := by
  have : l.take (i + 1) = l.take i ++ [p] := by rw [List.take_add_one, h]; rfl
  rw [this]
  obtain ⟨a, x⟩ := p
  rw [bL_one]
  unfold fset
  by_cases e : k = a
  · rw [if_pos e, if_pos e.symm]
  · rw [if_neg e, if_neg (fun g => e g.symm)]
def okL (l : List (Nat × Nat)) : Prop := ∀ p ∈ l, p.1 < 2 ^ 64 ∧ p.2 < 256
theorem okL_st {l : List (Nat × Nat)} (h : okL l) {a v n : Nat} (ha : a + n < 2 ^ 64) : okL (l ++ stL a v n) := fun p hp => by
  rcases List.mem_append.1 hp with h1 | h1
  · exact h p h1
  · simp only [stL, List.mem_map, List.mem_range] at h1
    obtain ⟨j, hj, rfl⟩ := h1
    exact ⟨by show a + j < _; omega, Nat.mod_lt _ (by decide)⟩
theorem bL_ok {l : List (Nat × Nat)} (h : okL l) : okB (bL l) := by
  have key : ∀ (m : List (Nat × Nat)) (b : Nat → Nat), okB b → (∀ p ∈ m, p.2 < 256) → okB (m.foldl (fun b p => fset b p.1 p.2) b) := by
    intro m
    induction m with
    | nil => intro b hb _; exact hb
    | cons p m ih =>
      intro b hb hm
      refine ih _ (fun k => ?_) fun q hq => hm q (List.mem_cons_of_mem _ hq)
      show (if k = p.1 then p.2 else b k) < 256
      split
      · exact hm p (List.mem_cons_self ..)
      · exact hb k
  exact key l _ (fun _ => by decide) fun p hp => (h p hp).2
end Go.Sh

/- What a walk finds: plain. -/
set_option linter.unusedVariables false
namespace Go.Sh
open Go.RowKit

def badS (N : Nat) (e : Ent) (L : Nat) : Bool := !e.v || (!rightB e || ((leafB e != decide (L = 0)) || decide ((N : Int) ≤ e.fr)))
def atF (va f L : Nat) : Nat := f * 4096 + idxN va L * 8
def contF (b : Nat → Nat) (N va : Nat) : Nat → Nat → Option (Ent × Nat)
  | 0, f => if N ≤ f then none else if badS N (entOf (rdN b (atF va f 0) 8)) 0 = true then none else some (entOf (rdN b (atF va f 0) 8), atF va f 0)
  | L + 1, f => if N ≤ f then none else if badS N (entOf (rdN b (atF va f (L + 1)) 8)) (L + 1) = true then none else contF b N va L (entOf (rdN b (atF va f (L + 1)) 8)).fr.toNat
def walkF (b : Nat → Nat) (N root va : Nat) : Option (Ent × Nat) := if va < 274877906944 then contF b N va 2 root else none
theorem contF_ge {b : Nat → Nat} {N va L f : Nat} (h : N ≤ f) : contF b N va L f = none := by
  cases L <;> rw [contF, if_pos h]
theorem contF_bad {b : Nat → Nat} {N va L f : Nat} (h : badS N (entOf (rdN b (atF va f L) 8)) L = true) : contF b N va L f = none := by
  cases L <;> rw [contF] <;> split <;> first | rfl | rw [if_pos h]
theorem contF_zero {b : Nat → Nat} {N va f : Nat} (h1 : ¬ N ≤ f) (h : ¬ badS N (entOf (rdN b (atF va f 0) 8)) 0 = true) : contF b N va 0 f = some (entOf (rdN b (atF va f 0) 8), atF va f 0) := by
  rw [contF, if_neg h1, if_neg h]
theorem contF_succ {b : Nat → Nat} {N va f L : Nat} (h1 : ¬ N ≤ f) (h : ¬ badS N (entOf (rdN b (atF va f (L + 1)) 8)) (L + 1) = true) : contF b N va (L + 1) f = contF b N va L (entOf (rdN b (atF va f (L + 1)) 8)).fr.toNat := by
  rw [contF, if_neg h1, if_neg h]
theorem idxN_lt (va L : Nat) : idxN va L < 512 := Nat.mod_lt _ (by decide)
theorem atF_ok {va f L N : Nat} (h : f < N) : atF va f L < N * 4096 ∧ atF va f L % 8 = 0 := by
  have := idxN_lt va L
  unfold atF; omega
theorem at_eq {va f L : Nat} (hf : f < 64) : IntKind.wrap .u64 (IntKind.wrap .u64 ((f : Int) * 4096) + IntKind.wrap .u64 (IntKind.wrap .u64 (idxN va L : Int) * 8)) = ((atF va f L : Nat) : Int) := by
  have := idxN_lt va L
  unfold atF
  rw [show (f : Int) * 4096 = ((f * 4096 : Nat) : Int) by omega, wrapn _ (by omega), wrapn (idxN va L) (by omega), show (idxN va L : Int) * 8 = ((idxN va L * 8 : Nat) : Int) by omega, wrapn _ (by omega), ← Int.natCast_add, wrapn _ (by omega)]
theorem at_eq' {va f L : Nat} (hf : f < 64) : IntKind.wrap .u64 (IntKind.wrap .u64 ((f : Int) * 4096) + IntKind.wrap .u64 (8 * IntKind.wrap .u64 (idxN va L : Int))) = ((atF va f L : Nat) : Int) := by
  rw [Int.mul_comm 8]; exact at_eq hf
/-- The cells of what is found. -/
def fndC (e : Ent) (at_ : Int) : List SV := [.bool e.v, .bool e.r, .bool e.w, .bool e.x, .bool e.u, .bool e.g, .bool e.a, .bool e.d, .bool e.cw, .bool e.cr, .bool e.cd, .bool e.gn, .int .u64 e.fr, .int .u64 at_]
def walkR : Option (Ent × Nat) → SV
  | none => .tup [.agg (fndC ent0 0), .int .i64 1]
  | some (e, a) => .tup [.agg (fndC e (a : Int)), .int .i64 0]
def walkR2 : Option (Ent × Nat) → SV
  | none => .tup [.agg (entC ent0), .int .u64 0, .int .i64 1]
  | some (e, a) => .tup [.agg (entC e), .int .u64 (a : Int), .int .i64 0]
theorem walkR_ok (o : Option (Ent × Nat)) (u : Nat) : (walkR o).ok u = true := by cases o <;> rfl
theorem walkR2_ok (o : Option (Ent × Nat)) (u : Nat) : (walkR2 o).ok u = true := by cases o <;> rfl
end Go.Sh

/- Entries that are laid: plain. -/
set_option linter.unusedVariables false
namespace Go.Sh
open Go.RowKit

structure Lay where
  fr : Int
  ix : Int
  e : Ent
def layV (x : Lay) : List Value := [.int .i64 x.fr, .int .i64 x.ix, .bool x.e.v, .bool x.e.r, .bool x.e.w, .bool x.e.x, .bool x.e.u, .bool x.e.g, .bool x.e.a, .bool x.e.d, .bool x.e.cw, .bool x.e.cr, .bool x.e.cd, .bool x.e.gn, .int .u64 x.e.fr]
theorem layV_len (x : Lay) : (layV x).length = 15 := rfl
def laysV (A : List Lay) : List Value := A.flatMap layV
theorem laysV_len : ∀ A : List Lay, (laysV A).length = A.length * 15
  | [] => rfl
  | x :: r => by
    have := laysV_len r
    unfold laysV at *
    rw [List.flatMap_cons, List.length_append, layV_len, this, List.length_cons]; omega
theorem laysV_drop : ∀ {A : List Lay} {i : Nat} {x : Lay}, A[i]? = some x → ∃ r, (laysV A).drop (i * 15) = layV x ++ r
  | [], i, x, h => by simp at h
  | y :: r, 0, x, h => by
    simp only [List.getElem?_cons_zero, Option.some.injEq] at h
    subst h
    exact ⟨laysV r, by simp [laysV]⟩
  | y :: r, i + 1, x, h => by
    obtain ⟨s, hs⟩ := laysV_drop (A := r) (i := i) (by simpa using h)
    refine ⟨s, ?_⟩
    rw [← hs]
    unfold laysV
    rw [List.flatMap_cons, show (i + 1) * 15 = (layV y).length + i * 15 by rw [layV_len]; omega, List.drop_append, ]
    simp [layV_len]
theorem laysV_get {A : List Lay} {i : Nat} {x : Lay} (h : A[i]? = some x) {k : Nat} (hk : k < 15) : (laysV A)[i * 15 + k]? = (layV x)[k]? := by
  obtain ⟨r, hr⟩ := laysV_drop h
  rw [← List.getElem?_drop, hr, List.getElem?_append_left (by rw [layV_len]; exact hk)]
theorem laysV_ent {A : List Lay} {i : Nat} {x : Lay} (h : A[i]? = some x) : ((laysV A).drop (i * 15 + 2)).take 13 = SV.vals zenv (entC x.e) := by
  obtain ⟨r, hr⟩ := laysV_drop h
  rw [← List.drop_drop, hr]; rfl
def atOf (x : Lay) : Nat := (x.fr % (8 : Nat)).toNat * 4096 + (x.ix % (512 : Nat)).toNat * 8
theorem atOf_ok (x : Lay) : atOf x < 8 * 4096 ∧ atOf x % 8 = 0 := by
  have h1 := mod_lt' x.fr (m := 8) (by decide)
  have h2 := mod_lt' x.ix (m := 512) (by decide)
  unfold atOf; omega
def logL (A : List Lay) : List (Nat × Nat) := A.flatMap fun x => stL (atOf x) (entW x.e) 8
theorem logL_len : ∀ A : List Lay, (logL A).length = A.length * 8
  | [] => rfl
  | x :: r => by
    have := logL_len r
    unfold logL at *
    rw [List.flatMap_cons, List.length_append, stL_len, this, List.length_cons]; omega
theorem logL_succ {A : List Lay} {i : Nat} {x : Lay} (h : A[i]? = some x) : logL (A.take (i + 1)) = logL (A.take i) ++ stL (atOf x) (entW x.e) 8 := by
  rw [List.take_add_one, h]
  unfold logL
  simp
theorem logL_ok (A : List Lay) : okL (logL A) := fun p hp => by
  simp only [logL, List.mem_flatMap] at hp
  obtain ⟨x, _, hx⟩ := hp
  have := atOf_ok x
  simp only [stL, List.mem_map, List.mem_range] at hx
  obtain ⟨j, hj, rfl⟩ := hx
  exact ⟨by show atOf x + j < _; omega, Nat.mod_lt _ (by decide)⟩
/-- The memory that lays make. -/
def memL (A : List Lay) : Nat → Nat := bL (logL A)
theorem memL_ok (A : List Lay) : okB (memL A) := bL_ok (logL_ok A)
theorem memL_nil : memL [] = fun _ => 0 := rfl
theorem memL_succ {A : List Lay} {i : Nat} {x : Lay} (h : A[i]? = some x) : memL (A.take (i + 1)) = stB (memL (A.take i)) (atOf x) (entW x.e) 8 := by
  unfold memL
  rw [logL_succ h, bL_st]
theorem memL_snoc (A : List Lay) (x : Lay) : memL (A ++ [x]) = stB (memL A) (atOf x) (entW x.e) 8 := by
  unfold memL logL
  have : [x].flatMap (fun x => stL (atOf x) (entW x.e) 8) = stL (atOf x) (entW x.e) 8 := by simp
  rw [List.flatMap_append, this, bL_st]
theorem at8_eq (x : Lay) : IntKind.wrap .u64 (IntKind.wrap .u64 (IntKind.wrap .u64 (band .and .i64 x.fr 7) * 4096) + IntKind.wrap .u64 (IntKind.wrap .u64 (band .and .i64 x.ix 511) * 8)) = ((atOf x : Nat) : Int) := by
  have h1 := mod_lt' x.fr (m := 8) (by decide)
  have h2 := mod_lt' x.ix (m := 512) (by decide)
  have e1 : band .and .i64 x.fr 7 = ((x.fr % (8 : Nat)).toNat : Int) := band_mask x.fr 3 (by decide)
  have e2 : band .and .i64 x.ix 511 = ((x.ix % (512 : Nat)).toNat : Int) := band_mask x.ix 9 (by decide)
  unfold atOf
  rw [e1, e2]
  generalize (x.fr % (8 : Nat)).toNat = p at h1
  generalize (x.ix % (512 : Nat)).toNat = q at h2
  rw [wrapn p (by omega), wrapn q (by omega), show (p : Int) * 4096 = ((p * 4096 : Nat) : Int) by omega, show (q : Int) * 8 = ((q * 8 : Nat) : Int) by omega, wrapn (p * 4096) (by omega), wrapn (q * 8) (by omega), wrap_add _ _ (by omega)]
end Go.Sh

/- Walks in tables that were laid: plain. -/
set_option linter.unusedVariables false
namespace Go.Sh
open Go.RowKit

/-- The entry behind its number. -/
def cutE (e : Ent) : Ent := { e with fr := (frN e : Nat) }
def eAtR : List Lay → Nat → Ent
  | [], _ => ent0
  | x :: r, a => if atOf x = a then cutE x.e else eAtR r a
def eAt (A : List Lay) (a : Nat) : Ent := eAtR A.reverse a
theorem rd_zero (a : Nat) : ∀ n, rdN (fun _ => 0) a n = 0
  | 0 => rfl
  | n + 1 => by rw [rdN, rd_zero a n]; simp
theorem entOf_zero : entOf 0 = ent0 := by kernel_rfl
theorem eAt_eqR {a : Nat} (ha : a % 8 = 0) : ∀ B : List Lay, entOf (rdN (memL B.reverse) a 8) = eAtR B a
  | [] => by
    show entOf (rdN (fun _ => 0) a 8) = ent0
    rw [rd_zero, entOf_zero]
  | x :: r => by
    have hx := atOf_ok x
    rw [List.reverse_cons, memL_snoc, eAtR]
    by_cases e : atOf x = a
    · rw [if_pos e, ← e, rd_st _ _ _ (Nat.le_refl 8), Nat.mod_eq_of_lt (entW_lt x.e), entOf_entW]; rfl
    · rw [if_neg e, rd_st_far _ _ _ _ _ _ (by omega), eAt_eqR ha r]
theorem eAt_eq (A : List Lay) {a : Nat} (ha : a % 8 = 0) : entOf (rdN (memL A) a 8) = eAt A a := by
  have := eAt_eqR ha A.reverse
  rw [List.reverse_reverse] at this
  exact this
def contG (A : List Lay) (N va : Nat) : Nat → Nat → Option (Ent × Nat)
  | 0, f => if N ≤ f then none else if badS N (eAt A (atF va f 0)) 0 = true then none else some (eAt A (atF va f 0), atF va f 0)
  | L + 1, f => if N ≤ f then none else if badS N (eAt A (atF va f (L + 1))) (L + 1) = true then none else contG A N va L (eAt A (atF va f (L + 1))).fr.toNat
def walkG (A : List Lay) (N root va : Nat) : Option (Ent × Nat) := if va < 274877906944 then contG A N va 2 root else none
theorem atF_al (va f L : Nat) : atF va f L % 8 = 0 := by unfold atF; omega
theorem contF_memL (A : List Lay) (N va : Nat) : ∀ L f, contF (memL A) N va L f = contG A N va L f
  | 0, f => by rw [contF, contG, eAt_eq A (atF_al _ _ _)]
  | L + 1, f => by rw [contF, contG, eAt_eq A (atF_al _ _ _), contF_memL A N va L]
theorem walkF_memL (A : List Lay) (N root va : Nat) : walkF (memL A) N root va = walkG A N root va := by
  unfold walkF walkG; rw [contF_memL]
def eT (f : Int) : Ent := ⟨true, false, false, false, false, false, false, false, false, false, false, false, f⟩
def A3 : List Lay := [⟨0, 0, eT 1⟩, ⟨1, 0, eT 2⟩, ⟨2, 3, ⟨true, true, false, false, false, false, false, false, false, false, false, false, 7⟩⟩]
theorem one1 : walkG A3 8 0 12288 = some (⟨true, true, false, false, false, false, false, false, false, false, false, false, 7⟩, 8216) := by kernel_rfl
theorem one2 : walkG A3 8 0 16384 = none := by kernel_rfl
end Go.Sh

/- Walks in three tables: plain. -/
set_option linter.unusedVariables false
namespace Go.Sh
open Go.RowKit

def vaN (a b c : Nat) : Nat := a * 1073741824 + b * 2097152 + c * 4096
theorem idx_va {a b c : Nat} (ha : a < 256) (hb : b < 512) (hc : c < 512) : idxN (vaN a b c) 2 = a ∧ idxN (vaN a b c) 1 = b ∧ idxN (vaN a b c) 0 = c ∧ vaN a b c < 274877906944 := by
  unfold idxN vaN
  simp only [Nat.reduceMul, Nat.reduceAdd, Nat.reducePow]
  omega
theorem shlor {a b c : Nat} (ha : a < 256) (hb : b < 512) (hc : c < 512) : band .or .u64 (band .or .u64 (shlI .u64 (IntKind.wrap .u64 (a : Int)) 30) (shlI .u64 (IntKind.wrap .u64 (b : Int)) 21)) (shlI .u64 (IntKind.wrap .u64 (c : Int)) 12) = ((vaN a b c : Nat) : Int) := by
  have e1 : shlI .u64 (a : Int) 30 = ((a * 2 ^ 30 : Nat) : Int) := shl_nat a 30 (by decide) (by omega)
  have e2 : shlI .u64 (b : Int) 21 = ((b * 2 ^ 21 : Nat) : Int) := shl_nat b 21 (by decide) (by omega)
  have e3 : shlI .u64 (c : Int) 12 = ((c * 2 ^ 12 : Nat) : Int) := shl_nat c 12 (by decide) (by omega)
  rw [wrapn a (by omega), wrapn b (by omega), wrapn c (by omega), e1, e2, e3, band_or _ _ (by omega) (by omega), Nat.or_comm (a * 2 ^ 30), or_add (b * 2 ^ 21) a 30 (by omega)]
  rw [band_or _ _ (by omega) (by omega), Nat.or_comm]
  have h : b * 2 ^ 21 + a * 2 ^ 30 = (b + a * 2 ^ 9) * 2 ^ 21 := by omega
  rw [h, or_add (c * 2 ^ 12) (b + a * 2 ^ 9) 21 (by omega)]
  have h2 : c * 2 ^ 12 + (b + a * 2 ^ 9) * 2 ^ 21 = vaN a b c := by
    unfold vaN
    rw [Nat.add_mul, Nat.mul_assoc a, show 2 ^ 9 * 2 ^ 21 = 1073741824 from rfl, show (2 : Nat) ^ 21 = 2097152 from rfl, show (2 : Nat) ^ 12 = 4096 from rfl, Nat.add_comm, Nat.add_comm (b * 2097152)]
  rw [h2]
def AL (i j k : Nat) (e : Ent) : List Lay := [⟨0, (i : Int), eT 1⟩, ⟨1, (j : Int), eT 2⟩, ⟨2, (k : Int), e⟩]
theorem at0 {i : Nat} (p : Int) (e : Ent) (h : i < 512) : atOf ⟨p, (i : Int), e⟩ = (p % (8 : Nat)).toNat * 4096 + i * 8 := by
  unfold atOf
  show _ + ((i : Int) % (512 : Nat)).toNat * 8 = _
  congr 2
  omega
theorem eAt3 {i j k : Nat} (e : Ent) (hi : i < 512) (hj : j < 512) (hk : k < 512) (a : Nat) : eAt (AL i j k e) a = if 8192 + k * 8 = a then cutE e else if 4096 + j * 8 = a then eT 2 else if i * 8 = a then eT 1 else ent0 := by
  show eAtR [⟨2, (k : Int), e⟩, ⟨1, (j : Int), eT 2⟩, ⟨0, (i : Int), eT 1⟩] a = _
  simp only [eAtR, at0 _ _ hi, at0 _ _ hj, at0 _ _ hk]
  have h0 : ((0 : Int) % ((8 : Nat) : Int)).toNat * 4096 + i * 8 = i * 8 := by simp
  have h1 : ((1 : Int) % ((8 : Nat) : Int)).toNat * 4096 + j * 8 = 4096 + j * 8 := rfl
  have h2 : ((2 : Int) % ((8 : Nat) : Int)).toNat * 4096 + k * 8 = 8192 + k * 8 := rfl
  rw [h0, h1, h2]
  rfl
theorem bad0 (N L : Nat) : badS N ent0 L = true := rfl
def goodB (e : Ent) : Bool := leafB e && rightB e
theorem bad_leaf (e : Ent) (h : e.fr = 7) : badS 8 e 0 = !goodB e := by
  have h1 : decide (((8 : Nat) : Int) ≤ e.fr) = false := by rw [h]; rfl
  unfold badS goodB
  rw [h1]
  unfold leafB
  cases e.v <;> cases (e.r || e.w || e.x) <;> cases rightB e <;> rfl
theorem bad_top (e : Ent) (h : badS 8 e 2 = false) : leafB e = false := by
  unfold badS at h
  cases hl : leafB e
  · rfl
  · rw [hl] at h; simp at h
theorem cut7 {e : Ent} (h : e.fr = 7) : cutE e = e := by
  unfold cutE frN; rw [h]; obtain ⟨v, r, w, x, u, g, a, d, cw, cr, cd, gn, fr⟩ := e; simp at h; subst h; rfl
theorem walk3 {i j k x y z : Nat} {e : Ent} (h7 : e.fr = 7) (hi : i < 256) (hj : j < 512) (hk : k < 512) (hx : x < 256) (hy : y < 512) (hz : z < 512) :
    walkG (AL i j k e) 8 0 (vaN x y z) = if (x = i ∧ y = j ∧ z = k) ∧ goodB e = true then some (e, 8192 + k * 8) else none := by
  obtain ⟨v2, v1, v0, hv⟩ := idx_va hx hy hz
  have E := eAt3 (i := i) (j := j) (k := k) e (by omega) hj hk
  rw [cut7 h7] at E
  have E2 : eAt (AL i j k e) (x * 8) = if x = i then eT 1 else ent0 := by
    rw [E, if_neg (by omega), if_neg (by omega)]
    by_cases c : x = i
    · rw [if_pos c, if_pos (by omega)]
    · rw [if_neg c, if_neg (by omega)]
  have E1 : eAt (AL i j k e) (4096 + y * 8) = if y = j then eT 2 else ent0 := by
    rw [E, if_neg (by omega)]
    by_cases c : y = j
    · rw [if_pos c, if_pos (by omega)]
    · rw [if_neg c, if_neg (by omega), if_neg (by omega)]
  have E0 : eAt (AL i j k e) (8192 + z * 8) = if z = k then e else ent0 := by
    rw [E]
    by_cases c : z = k
    · rw [if_pos c, if_pos (by omega)]
    · rw [if_neg c, if_neg (by omega), if_neg (by omega), if_neg (by omega)]
  unfold walkG
  rw [if_pos hv]
  have a2 : atF (vaN x y z) 0 2 = x * 8 := by unfold atF; rw [v2]; omega
  have a1 : atF (vaN x y z) 1 1 = 4096 + y * 8 := by unfold atF; rw [v1]
  have a0 : atF (vaN x y z) 2 0 = 8192 + z * 8 := by unfold atF; rw [v0]
  have no : ∀ h : ¬ (x = i ∧ y = j ∧ z = k), (if (x = i ∧ y = j ∧ z = k) ∧ goodB e = true then some (e, 8192 + k * 8) else none) = none := fun h => if_neg fun g => h g.1
  have b2 : badS 8 (eT 1) 2 = false := rfl
  have b1 : badS 8 (eT 2) 1 = false := rfl
  have s2 : ∀ X : Option (Ent × Nat), (if 8 ≤ 0 then none else X) = X := fun X => if_neg (by decide)
  have s1 : ∀ X : Option (Ent × Nat), (if 8 ≤ 1 then none else X) = X := fun X => if_neg (by decide)
  have s0 : ∀ X : Option (Ent × Nat), (if 8 ≤ 2 then none else X) = X := fun X => if_neg (by decide)
  rw [contG, s2, a2, E2]
  by_cases c2 : x = i
  · rw [if_pos c2, b2, if_neg (by decide), show (eT 1).fr.toNat = 1 from rfl, contG, s1, a1, E1]
    by_cases c1 : y = j
    · rw [if_pos c1, b1, if_neg (by decide), show (eT 2).fr.toNat = 2 from rfl, contG, s0, a0, E0]
      by_cases c0 : z = k
      · rw [if_pos c0, bad_leaf e h7]
        cases hg : goodB e
        · rw [if_neg (show ¬ ((x = i ∧ y = j ∧ z = k) ∧ false = true) from fun g => by cases g.2)]; rfl
        · show some (e, 8192 + z * 8) = _
          rw [if_pos ⟨⟨c2, c1, c0⟩, rfl⟩, c0]
      · rw [if_neg c0, no fun g => c0 g.2.2]; rfl
    · rw [if_neg c1, no fun g => c1 g.2.1]; rfl
  · rw [if_neg c2, no fun g => c2 g.1]; rfl
theorem walk1 {i j k : Nat} {e : Ent} (h7 : e.fr = 7) (hi : i < 256) (hj : j < 512) (hk : k < 512) : walkG [⟨0, (i : Int), e⟩] 8 0 (vaN i j k) = none := by
  obtain ⟨v2, v1, v0, hv⟩ := idx_va hi hj hk
  have E : ∀ a, eAt [⟨0, (i : Int), e⟩] a = if i * 8 = a then e else ent0 := fun a => by
    show eAtR [⟨0, (i : Int), e⟩] a = _
    simp only [eAtR, at0 _ _ (show i < 512 by omega)]
    have h0 : ((0 : Int) % ((8 : Nat) : Int)).toNat * 4096 + i * 8 = i * 8 := by simp
    rw [h0, cut7 h7]
  unfold walkG
  rw [if_pos hv]
  have a2 : atF (vaN i j k) 0 2 = i * 8 := by unfold atF; rw [v2]; omega
  have a1 : atF (vaN i j k) 7 1 = 28672 + j * 8 := by unfold atF; rw [v1]
  have E2 : eAt [⟨0, (i : Int), e⟩] (i * 8) = e := by rw [E, if_pos rfl]
  have E1 : eAt [⟨0, (i : Int), e⟩] (28672 + j * 8) = ent0 := by rw [E, if_neg (by omega)]
  rw [contG, if_neg (by decide), a2, E2, h7]
  by_cases c : badS 8 e (1 + 1) = true
  · rw [if_pos c]
  · rw [if_neg c, show (7 : Int).toNat = 7 from rfl, contG, if_neg (by decide), a1, E1]; rfl
end Go.Sh

/- A page's entry, marked: plain. -/
set_option linter.unusedVariables false
namespace Go.Sh
open Go.RowKit

theorem cont_is {b : Nat → Nat} {N va : Nat} : ∀ {L f : Nat} {x : Ent} {a : Nat}, contF b N va L f = some (x, a) → x = entOf (rdN b a 8) ∧ badS N x 0 = false ∧ a % 8 = 0 ∧ a < N * 4096
  | 0, f, x, a, h => by
    rw [contF] at h
    by_cases h1 : N ≤ f
    · rw [if_pos h1] at h; cases h
    rw [if_neg h1] at h
    by_cases h2 : badS N (entOf (rdN b (atF va f 0) 8)) 0 = true
    · rw [if_pos h2] at h; cases h
    rw [if_neg h2] at h
    simp only [Option.some.injEq, Prod.mk.injEq] at h
    obtain ⟨rfl, rfl⟩ := h
    have := atF_ok (va := va) (L := 0) (Nat.lt_of_not_le h1)
    exact ⟨rfl, by simpa using h2, this.2, this.1⟩
  | L + 1, f, x, a, h => by
    rw [contF] at h
    by_cases h1 : N ≤ f
    · rw [if_pos h1] at h; cases h
    rw [if_neg h1] at h
    by_cases h2 : badS N (entOf (rdN b (atF va f (L + 1)) 8)) (L + 1) = true
    · rw [if_pos h2] at h; cases h
    rw [if_neg h2] at h
    exact cont_is h
theorem good_of {N : Nat} {x : Ent} (h : badS N x 0 = false) : leafB x = true ∧ rightB x = true ∧ x.fr < N ∧ x.v = true := by
  unfold badS at h
  simp only [Bool.or_eq_false_iff, Bool.not_eq_false', decide_eq_false_iff_not, bne_eq_false_iff_eq, decide_true] at h
  obtain ⟨h1, h2, h3, h4⟩ := h
  exact ⟨h3, h2, by omega, h1⟩
theorem badS_same {N : Nat} {x e : Ent} (h1 : e.v = x.v) (h2 : leafB e = leafB x) (h3 : rightB e = rightB x) (h4 : e.fr = x.fr) (L : Nat) : badS N e L = badS N x L := by
  unfold badS; rw [h1, h2, h3, h4]
theorem leaf_low {N L : Nat} {y : Ent} (h : badS N y (L + 1) = false) : leafB y = false := by
  unfold badS at h
  cases hl : leafB y
  · rfl
  · rw [hl] at h; simp at h
theorem cont_mark {b : Nat → Nat} {N va : Nat} {x e : Ent} {a : Nat} (h1 : e.v = x.v) (h2 : leafB e = leafB x) (h3 : rightB e = rightB x) (h4 : e.fr = x.fr) (hc : cutE e = e) : ∀ {L f : Nat}, contF b N va L f = some (x, a) → contF (stB b a (entW e) 8) N va L f = some (e, a)
  | 0, f, h => by
    have hh := h
    rw [contF] at h
    by_cases g1 : N ≤ f
    · rw [if_pos g1] at h; cases h
    rw [if_neg g1] at h
    by_cases g2 : badS N (entOf (rdN b (atF va f 0) 8)) 0 = true
    · rw [if_pos g2] at h; cases h
    rw [if_neg g2] at h
    simp only [Option.some.injEq, Prod.mk.injEq] at h
    obtain ⟨hx, ha⟩ := h
    have e1 : entOf (rdN (stB b a (entW e) 8) (atF va f 0) 8) = e := by
      rw [ha, rd_st _ _ _ (Nat.le_refl 8), Nat.mod_eq_of_lt (entW_lt e), entOf_entW]; exact hc
    rw [hx] at g2
    rw [contF, if_neg g1, e1, badS_same h1 h2 h3 h4, if_neg g2, ha]
  | L + 1, f, h => by
    have hi := cont_is h
    rw [contF] at h
    by_cases g1 : N ≤ f
    · rw [if_pos g1] at h; cases h
    rw [if_neg g1] at h
    by_cases g2 : badS N (entOf (rdN b (atF va f (L + 1)) 8)) (L + 1) = true
    · rw [if_pos g2] at h; cases h
    rw [if_neg g2] at h
    have hne : atF va f (L + 1) ≠ a := fun g => by
      have hl := leaf_low (by simpa using g2 : badS N (entOf (rdN b (atF va f (L + 1)) 8)) (L + 1) = false)
      rw [g, ← hi.1] at hl
      rw [(good_of hi.2.1).1] at hl
      cases hl
    have hal := atF_al va f (L + 1)
    have ha := hi.2.2.1
    have e1 : rdN (stB b a (entW e) 8) (atF va f (L + 1)) 8 = rdN b (atF va f (L + 1)) 8 := rd_st_far _ _ _ _ _ _ (by omega)
    rw [contF, if_neg g1, e1, if_neg g2]
    exact cont_mark h1 h2 h3 h4 hc h
theorem walk_mark {b : Nat → Nat} {N root va : Nat} {x e : Ent} {a : Nat} (h1 : e.v = x.v) (h2 : leafB e = leafB x) (h3 : rightB e = rightB x) (h4 : e.fr = x.fr) (hc : cutE e = e) (h : walkF b N root va = some (x, a)) : walkF (stB b a (entW e) 8) N root va = some (e, a) := by
  unfold walkF at *
  by_cases g : va < 274877906944
  · rw [if_pos g] at *; exact cont_mark h1 h2 h3 h4 hc h
  · rw [if_neg g] at h; cases h
theorem walk_is {b : Nat → Nat} {N root va : Nat} {x : Ent} {a : Nat} (h : walkF b N root va = some (x, a)) : x = entOf (rdN b a 8) ∧ badS N x 0 = false ∧ a % 8 = 0 ∧ a < N * 4096 := by
  unfold walkF at h
  by_cases g : va < 274877906944
  · rw [if_pos g] at h; exact cont_is h
  · rw [if_neg g] at h; cases h
theorem cut_small {e : Ent} (h0 : 0 ≤ e.fr) (h : e.fr < 64) : cutE e = e := by
  have : ((frN e : Nat) : Int) = e.fr := by unfold frN; omega
  unfold cutE; rw [this]
/-! ### What marks leave -/
theorem mark_leaf (x : Ent) (k : Int) (t : Bool) : leafB (markE x k t) = leafB x := rfl
theorem mark_right {x : Ent} (k : Int) (t : Bool) (h : leafB x = true) : rightB (markE x k t) = rightB x := by
  unfold rightB
  rw [mark_leaf, h]
  rfl
theorem mark_chk (x : Ent) (k : Int) (t g : Bool) : chkE (markE x k t) k t g = chkE x k t g := rfl
theorem mark_twice (x : Ent) (k : Int) (t : Bool) : markE (markE x k t) k t = markE x k t := by
  unfold markE
  simp only [Ent.mk.injEq, true_and, and_true]
  constructor <;> (cases x.d <;> cases x.cd <;> simp)
end Go.Sh

/- An entry of the lowest table, laid anew: plain. -/
set_option linter.unusedVariables false
namespace Go.Sh
open Go.RowKit

def f2 (x : Lay) : Lay := ⟨2, x.ix, x.e⟩
def baseL : List Lay := [⟨0, 0, eT 1⟩, ⟨1, 0, eT 2⟩]
def laySV (x : Lay) : List SV := [.int .i64 x.fr, .int .i64 x.ix, .bool x.e.v, .bool x.e.r, .bool x.e.w, .bool x.e.x, .bool x.e.u, .bool x.e.g, .bool x.e.a, .bool x.e.d, .bool x.e.cw, .bool x.e.cr, .bool x.e.cd, .bool x.e.gn, .int .u64 x.e.fr]
theorem laysV_lay {A : List Lay} {i : Nat} {x : Lay} (h : A[i]? = some x) : ((laysV A).drop (i * 15)).take 15 = SV.vals zenv (laySV x) := by
  obtain ⟨r, hr⟩ := laysV_drop h
  rw [hr]; rfl
theorem laysV_app (A B : List Lay) : laysV (A ++ B) = laysV A ++ laysV B := by unfold laysV; rw [List.flatMap_append]
theorem cL_succ {A : List Lay} {i : Nat} {x : Lay} (h : A[i]? = some x) : (A.take (i + 1)).map f2 = (A.take i).map f2 ++ [f2 x] := by
  rw [List.take_add_one, h]; simp
def leafF (b : Nat → Nat) (k : Nat) : Option (Ent × Nat) := if badS 8 (entOf (rdN b (8192 + k * 8) 8)) 0 = true then none else some (entOf (rdN b (8192 + k * 8) 8), 8192 + k * 8)
theorem idx_low {k : Nat} (hk : k < 512) : idxN (k * 4096) 2 = 0 ∧ idxN (k * 4096) 1 = 0 ∧ idxN (k * 4096) 0 = k ∧ k * 4096 < 274877906944 := by
  unfold idxN
  simp only [Nat.reduceMul, Nat.reduceAdd, Nat.reducePow]
  omega
theorem walk_low {b : Nat → Nat} {k : Nat} (h0 : entOf (rdN b 0 8) = eT 1) (h1 : entOf (rdN b 4096 8) = eT 2) (hk : k < 512) : walkF b 8 0 (k * 4096) = leafF b k := by
  obtain ⟨v2, v1, v0, hv⟩ := idx_low hk
  have a2 : atF (k * 4096) 0 2 = 0 := by unfold atF; rw [v2]
  have a1 : atF (k * 4096) 1 1 = 4096 := by unfold atF; rw [v1]
  have a0 : atF (k * 4096) 2 0 = 8192 + k * 8 := by unfold atF; rw [v0]
  have b2 : badS 8 (eT 1) 2 = false := rfl
  have b1 : badS 8 (eT 2) 1 = false := rfl
  have s2 : ∀ X : Option (Ent × Nat), (if 8 ≤ 0 then none else X) = X := fun X => if_neg (by decide)
  have s1 : ∀ X : Option (Ent × Nat), (if 8 ≤ 1 then none else X) = X := fun X => if_neg (by decide)
  have s0 : ∀ X : Option (Ent × Nat), (if 8 ≤ 2 then none else X) = X := fun X => if_neg (by decide)
  unfold walkF
  rw [if_pos hv, contF, s2, a2, h0, b2, if_neg (by decide), show (eT 1).fr.toNat = 1 from rfl, contF, s1, a1, h1, b1, if_neg (by decide), show (eT 2).fr.toNat = 2 from rfl, contF, s0, a0]
  rfl
theorem eAtR_far {a : Nat} : ∀ B : List Lay, (∀ x ∈ B, atOf x ≠ a) → eAtR B a = ent0
  | [], _ => rfl
  | x :: r, h => by rw [eAtR, if_neg (h x (List.mem_cons_self ..)), eAtR_far r fun y hy => h y (List.mem_cons_of_mem _ hy)]
theorem base_ents (C : List Lay) : entOf (rdN (memL (C ++ baseL)) 0 8) = eT 1 ∧ entOf (rdN (memL (C ++ baseL)) 4096 8) = eT 2 := by
  rw [eAt_eq _ (by decide), eAt_eq _ (by decide)]
  unfold eAt
  rw [List.reverse_append]
  exact ⟨rfl, rfl⟩
theorem st_ents {b : Nat → Nat} {i : Nat} {v : Nat} (h0 : entOf (rdN b 0 8) = eT 1) (h1 : entOf (rdN b 4096 8) = eT 2) : entOf (rdN (stB b (8192 + i * 8) v 8) 0 8) = eT 1 ∧ entOf (rdN (stB b (8192 + i * 8) v 8) 4096 8) = eT 2 := by
  rw [rd_st_far _ _ _ _ _ _ (by omega), rd_st_far _ _ _ _ _ _ (by omega)]
  exact ⟨h0, h1⟩
theorem leaf_other {b : Nat → Nat} {i k v : Nat} (h : i ≠ k) : leafF (stB b (8192 + i * 8) v 8) k = leafF b k := by
  unfold leafF
  rw [rd_st_far _ _ _ _ _ _ (by omega)]
theorem leaf_own (b : Nat → Nat) (i : Nat) (e : Ent) : leafF (stB b (8192 + i * 8) (entW e) 8) i = if badS 8 (cutE e) 0 = true then none else some (cutE e, 8192 + i * 8) := by
  unfold leafF
  rw [rd_st _ _ _ (Nat.le_refl 8), Nat.mod_eq_of_lt (entW_lt e), entOf_entW]
  rfl
theorem bad_is (e : Ent) : badS 8 e 0 = !(leafB e && rightB e && decide (e.fr < 8)) := by
  unfold badS leafB
  have : decide (((8 : Nat) : Int) ≤ e.fr) = !decide (e.fr < 8) := by
    rw [← decide_not]; exact decide_eq_decide.2 (by omega)
  rw [this]
  cases e.v <;> cases (e.r || e.w || e.x) <;> cases rightB e <;> cases decide (e.fr < 8) <;> rfl
def fO : Option (Ent × Nat) → Ent × Nat
  | none => (ent0, 0)
  | some p => p
def eO : Option (Ent × Nat) → Int
  | none => 1
  | some _ => 0
theorem walkR_eq (o : Option (Ent × Nat)) : walkR o = .tup [.agg (fndC (fO o).1 ((fO o).2 : Int)), .int .i64 (eO o)] := by cases o <;> rfl
end Go.Sh

/- A unit's row: plain. -/
set_option linter.unusedVariables false
namespace Go.Sh
open Go.RowKit

def uR (root asid : Nat) (gen : Bool) : List Value := [.int .u64 (root : Int), .int .u64 (asid : Int), .bool gen]
theorem uC_rest {s : Nat → List Ln} (hs : okT s) (rest : List Value) (k : Nat) : (tlbC s rest)[132 + k]? = rest[k]? := by
  have h0 := setVal_len (hs 0); have h1 := setVal_len (hs 1); have h2 := setVal_len (hs 2); have h3 := setVal_len (hs 3)
  unfold tlbC tlbR
  dsimp only
  rw [List.getElem?_append_right (by omega), List.getElem?_append_right (by omega), List.getElem?_append_right (by omega), List.getElem?_append_right (by omega)]
  congr 1
  omega
theorem uC_root {s : Nat → List Ln} (hs : okT s) (root asid : Nat) (gen : Bool) : (tlbC s (uR root asid gen))[132]? = some (.int .u64 (root : Int)) := uC_rest hs _ 0
theorem uC_asid {s : Nat → List Ln} (hs : okT s) (root asid : Nat) (gen : Bool) : (tlbC s (uR root asid gen))[133]? = some (.int .u64 (asid : Int)) := uC_rest hs _ 1
theorem uC_gen {s : Nat → List Ln} (hs : okT s) (root asid : Nat) (gen : Bool) : (tlbC s (uR root asid gen))[134]? = some (.bool gen) := uC_rest hs _ 2
def lookedR (k : Int) (tg gen : Bool) : Option (Ent × Nat) → SV
  | none => .tup [.agg (fndC ent0 0), .int .i64 1, .ff]
  | some (x, a) => .tup [.agg (fndC x (a : Int)), .int .i64 (chkE x k tg gen), .tt]
theorem lookedR_ok (k : Int) (tg gen : Bool) (o : Option (Ent × Nat)) (u : Nat) : (lookedR k tg gen o).ok u = true := by cases o <;> rfl
def plA (e : Ent) (va : Nat) : Int := IntKind.wrap .u64 (IntKind.wrap .u64 (e.fr * 4096) + (va : Int).tmod 4096)
end Go.Sh
