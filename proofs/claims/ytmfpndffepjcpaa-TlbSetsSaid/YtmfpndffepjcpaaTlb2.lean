/- A line laid into a set: plain lemmas. -/
import Derived.Test.YtmfpndffepjcpaaTlb1
set_option linter.unusedVariables false
namespace Go.Sh
theorem wrap_i64' (x : Int) (h0 : -9223372036854775808 ≤ x) (h1 : x ≤ 9223372036854775807) : IntKind.wrap .i64 x = x := by
  simp [IntKind.wrap, IntKind.bits, IntKind.signed]; omega
open Go.RowKit

def midV : List Ln → Ln → List Value
  | [], l => lnV l ++ (lnV ln0 ++ [.int .i64 0])
  | [x], l => lnV x ++ (lnV l ++ [.int .i64 1])
  | _, _ => []
theorem le1 {α : Type} {l : List α} (h : l.length ≤ 1) : l = [] ∨ ∃ a, l = [a] := by
  rcases l with _ | ⟨a, _ | ⟨b, r⟩⟩
  · exact .inl rfl
  · exact .inr ⟨a, rfl⟩
  · simp at h
theorem midV_len {L : List Ln} (h : L.length ≤ 1) (l : Ln) : (midV L l).length = 33 := by
  rcases le1 h with rfl | ⟨a, rfl⟩ <;> simp [midV, lnV_len]
theorem set_mid (a b : List Value) (r : List Value) (h : a.length = b.length) : setRange (a ++ r) 0 b = b ++ r := by
  simp [setRange, ← h]
theorem set_behind (a b c r : List Value) (h : c.length = b.length) : setRange (a ++ (c ++ r)) a.length b = a ++ (b ++ r) := by
  simp [setRange, ← h, List.drop_append]
theorem setVal_mid {L : List Ln} (h : L.length ≤ 1) (l : Ln) : setRange (setVal L) (16 * L.length) (lnV l) = midV L l := by
  rcases le1 h with rfl | ⟨a, rfl⟩
  · rw [setVal0]; exact set_mid _ _ _ rfl
  · rw [setVal1]; exact set_behind (lnV a) (lnV l) (lnV ln0) _ rfl
theorem midV_n {L : List Ln} (h : L.length ≤ 1) (l : Ln) : (midV L l)[32]? = some (.int .i64 (L.length : Int)) := by
  rcases le1 h with rfl | ⟨a, rfl⟩
  · exact get32 _ _ _
  · exact get32 _ _ _
theorem midV_put {L : List Ln} (h : L.length ≤ 1) (l : Ln) : setRange (midV L l) 32 [.int .i64 ((L.length : Int) + 1)] = setVal (L ++ [l]) := by
  have key : ∀ (a b : Ln) (v w : Value), setRange (lnV a ++ (lnV b ++ [v])) 32 [w] = lnV a ++ (lnV b ++ [w]) := fun a b v w => by
    have := set_behind (lnV a ++ lnV b) [w] [v] [] rfl
    simp only [List.append_assoc, List.append_nil, List.length_append, lnV_len] at this
    exact this
  rcases le1 h with rfl | ⟨a, rfl⟩
  · rw [midV, key]; rfl
  · rw [midV, key]; rfl

theorem okM_len {s : Nat → List Ln} (hs : okT s) {q : Nat} (h1 : (s q).length ≤ 1) (l : Ln) : ∀ k, k < 4 → (fset (fun q => setVal (s q)) q (midV (s q) l) k).length = 33 := fun k hk => by
  unfold fset; split
  · exact midV_len h1 l
  · exact okT_len hs k hk
section
variable {s : Nat → List Ln} (hs : okT s) (rest : List Value) {q : Nat} (hq : q < 4) (h1 : (s q).length ≤ 1) (l : Ln)
/-- The row where the line is laid, and not counted. -/
def tlbM (s : Nat → List Ln) (q : Nat) (l : Ln) (rest : List Value) : List Value := tlbR (fset (fun q => setVal (s q)) q (midV (s q) l)) rest
include hs hq h1
theorem tlbM_len : (tlbM s q l rest).length = (tlbC s rest).length := by
  have _h := hq
  rw [tlbM, tlbR_len (okM_len hs h1 l), tlbC_len hs]
theorem tlbC_mid : setRange (tlbC s rest) (33 * q + 16 * (s q).length) (lnV l) = tlbM s q l rest := by
  rw [tlbC, tlbR_set (okT_len hs) rest hq (by rw [lnV_len]; omega), setVal_mid h1]; rfl
theorem tlbM_n : (tlbM s q l rest)[33 * q + 32]? = some (.int .i64 ((s q).length : Int)) := by
  rw [tlbM, tlbR_get (okM_len hs h1 l) rest hq (by omega), fset_same, midV_n h1]
theorem tlbM_put : setRange (tlbM s q l rest) (33 * q + 32) [.int .i64 (((s q).length : Int) + 1)] = tlbC (fset s q (s q ++ [l])) rest := by
  rw [tlbM, tlbR_set (okM_len hs h1 l) rest hq (by simp), fset_same, fset_twice, midV_put h1, tlbC_fset]
end

/-! ### What the functions do to the sets -/
def isP (a n : Int) (l : Ln) : Bool := decide (l.asid = a) && decide (l.num = n)
def isA (a : Int) (l : Ln) : Bool := decide (l.asid = a)
def isT (l : Ln) : Bool := true
def q4 (n : Int) : Nat := (n % 4).toNat
theorem q4_lt (n : Int) : q4 n < 4 := by unfold q4; omega
theorem q4_eq {n : Int} (h : 0 ≤ n) : n.tmod 4 = (q4 n : Int) := by rw [Int.tmod_eq_emod_of_nonneg h]; unfold q4; omega

/-- A set, and a line more. -/
def putL (L : List Ln) (l : Ln) : List Ln := (if L.length = 2 then L.drop 1 else L) ++ [l]
theorem putL_len {L : List Ln} (h : L.length ≤ 2) (l : Ln) : (putL L l).length ≤ 2 := by
  unfold putL; split <;> simp <;> omega
def putS (s : Nat → List Ln) (l : Ln) : Nat → List Ln := fset s (q4 l.num) (putL ((s (q4 l.num)).filter fun x => !isP l.asid l.num x) l)

theorem find_hit {p : Ln → Bool} : ∀ {L : List Ln} {i : Nat} {x : Ln}, L[i]? = some x → p x = true → (∀ k y, k < i → L[k]? = some y → p y = false) → L.find? p = some x
  | [], i, x, h, _, _ => by simp at h
  | a :: r, 0, x, h, hp, _ => by
    simp only [List.getElem?_cons_zero, Option.some.injEq] at h
    subst h; simp [hp]
  | a :: r, i + 1, x, h, hp, hk => by
    rw [List.getElem?_cons_succ] at h
    have h0 := hk 0 a (by omega) rfl
    rw [List.find?_cons, h0]
    exact find_hit h hp fun k y hk' hy => hk (k + 1) y (by omega) (by simpa using hy)
theorem find_miss {p : Ln → Bool} {L : List Ln} (h : ∀ k y, k < L.length → L[k]? = some y → p y = false) : L.find? p = none := by
  rw [List.find?_eq_none]
  intro x hx
  obtain ⟨k, hk⟩ := List.mem_iff_getElem?.1 hx
  have := h k x (List.getElem?_eq_some_iff.1 hk).1 hk
  simp [this]

def filtS (p : Ln → Bool) (s : Nat → List Ln) (i : Nat) : Nat → List Ln := fun k => if k < i then (s k).filter p else s k
theorem filtS_zero (p : Ln → Bool) (s : Nat → List Ln) : filtS p s 0 = s := by funext k; simp [filtS]
theorem filtS_at (p : Ln → Bool) (s : Nat → List Ln) (i : Nat) : filtS p s i i = s i := by simp [filtS]
theorem filtS_succ (p : Ln → Bool) (s : Nat → List Ln) (i : Nat) : fset (filtS p s i) i ((s i).filter p) = filtS p s (i + 1) := by
  funext k
  simp only [fset, filtS]
  by_cases h : k = i
  · subst h; simp
  · rw [if_neg h]
    by_cases h2 : k < i
    · rw [if_pos h2, if_pos (by omega)]
    · rw [if_neg h2, if_neg (by omega)]
theorem okT_filtS {p : Ln → Bool} {s : Nat → List Ln} (h : okT s) (i : Nat) : okT (filtS p s i) := fun k => by
  unfold filtS; split
  · exact Nat.le_trans (List.length_filter_le _ _) (h k)
  · exact h k

def preL (s : Nat → List Ln) : Nat → List Ln
  | 0 => []
  | i + 1 => preL s i ++ s i
theorem preL_len {s : Nat → List Ln} (h : okT s) : ∀ i, (preL s i).length ≤ 2 * i
  | 0 => Nat.le_refl _
  | i + 1 => by
    have := preL_len h i
    have := h i
    rw [preL, List.length_append]; omega
end Go.Sh
