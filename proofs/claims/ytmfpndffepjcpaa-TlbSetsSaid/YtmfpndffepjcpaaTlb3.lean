/- The reference's lines: plain. -/
import Derived.Test.YtmfpndffepjcpaaTlb2
set_option linter.unusedVariables false
namespace Go.Sh
open Go.RowKit

structure RL where
  a : Int
  n : Int
  w : Int
def rlC (x : RL) : List SV := [.int .u64 x.a, .int .u64 x.n, .int .u64 x.w]
def rlV (x : RL) : List Value := [.int .u64 x.a, .int .u64 x.n, .int .u64 x.w]
def refV : List RL → List Value
  | [] => []
  | x :: r => rlV x ++ refV r
theorem refV_len : ∀ l, (refV l).length = l.length * 3
  | [] => rfl
  | a :: r => by rw [refV, List.length_append, refV_len r]; simp [rlV]; omega
theorem refV_append : ∀ a b, refV (a ++ b) = refV a ++ refV b
  | [], b => rfl
  | x :: r, b => by rw [List.cons_append, refV, refV, refV_append r b, List.append_assoc]
theorem refV_drop : ∀ (l : List RL) (i : Nat), (refV l).drop (i * 3) = refV (l.drop i)
  | l, 0 => by simp
  | [], i + 1 => by simp [refV]
  | x :: r, i + 1 => by
    rw [refV, List.drop_succ_cons, ← refV_drop r i]
    have : (i + 1) * 3 = (rlV x).length + i * 3 := by simp [rlV]; omega
    rw [this, List.drop_append]
    simp only [Nat.add_sub_cancel_left]
    rw [List.drop_eq_nil_of_le (by omega), List.nil_append]
theorem refV_take : ∀ (l : List RL) (i : Nat), (refV l).take (i * 3) = refV (l.take i)
  | l, 0 => by simp [refV]
  | [], i + 1 => by simp [refV]
  | x :: r, i + 1 => by
    rw [refV, List.take_succ_cons, refV, ← refV_take r i]
    have : (i + 1) * 3 = (rlV x).length + i * 3 := by simp [rlV]; omega
    rw [this, List.take_append]
    simp only [Nat.add_sub_cancel_left]
    rw [List.take_of_length_le (by omega)]
theorem refV_get {l : List RL} {i : Nat} {x : RL} (h : l[i]? = some x) : ((refV l).drop (i * 3)).take 3 = rlV x := by
  rw [refV_drop]
  have : l.drop i = x :: l.drop (i + 1) := by
    obtain ⟨h1, h2⟩ := List.getElem?_eq_some_iff.1 h
    rw [← h2]; exact (List.getElem_cons_drop h1).symm
  rw [this, refV]; rfl
theorem refV_cell {l : List RL} {i j : Nat} {x : RL} (h : l[i]? = some x) (hj : j < 3) : (refV l)[i * 3 + j]? = (rlV x)[j]? := by
  rw [← refV_get h, List.getElem?_take, if_pos hj, List.getElem?_drop]
theorem refV_part {l : List RL} {o m : Nat} : ((refV l).drop (o * 3)).take (m * 3) = refV ((l.drop o).take m) := by
  rw [refV_drop, refV_take]

theorem refV_head {R : List RL} {c k : Nat} : ((refV R).drop (sOff c 0 0 3)).take ((k - 0) * 3) = refV (R.take k) := by
  rw [sOff_zero, List.drop_zero, Nat.sub_zero, refV_take]
theorem refV_tail {R : List RL} {c k : Nat} (h : k ≤ R.length) (hc : R.length ≤ c) : ((refV R).drop (sOff c k 0 3)).take ((R.length - k) * 3) = refV (R.drop k) := by
  by_cases e : k < c
  · rw [sOff_lt e, Nat.zero_add, refV_drop, refV_take, List.take_of_length_le (by simp)]
  · have : k = R.length := by omega
    subst this
    simp [refV]

/-! ### Filters, step by step -/
def fL {α : Type} (p : α → Bool) (R : List α) (i : Nat) : List α := (R.take i).filter p
theorem fL_yes {α : Type} {p : α → Bool} {R : List α} {i : Nat} {x : α} (h : R[i]? = some x) (hp : p x = true) : fL p R (i + 1) = fL p R i ++ [x] := by
  rw [fL, List.take_add_one, h, List.filter_append]; simp [fL, hp]
theorem fL_no {α : Type} {p : α → Bool} {R : List α} {i : Nat} {x : α} (h : R[i]? = some x) (hp : p x = false) : fL p R (i + 1) = fL p R i := by
  rw [fL, List.take_add_one, h, List.filter_append]; simp [fL, hp]
theorem fL_all {α : Type} {p : α → Bool} {R : List α} : fL p R R.length = R.filter p := by rw [fL, List.take_length]
theorem fL_len {α : Type} {p : α → Bool} {R : List α} (i : Nat) : (fL p R i).length ≤ i := by
  refine Nat.le_trans (List.length_filter_le _ _) ?_
  rw [List.length_take]; omega

def keepP (a n : Int) (x : RL) : Bool := !decide (x.a = a) || !decide (x.n = n)
def keepA (a : Int) (x : RL) : Bool := !decide (x.a = a)
def atP (a n : Int) (x : RL) : Bool := decide (x.a = a) && decide (x.n = n)

/-! ### Where a line is put -/
structure Scan where
  n : Int
  first : Int
  at_ : Int
def scanStep (q : Int) (t : Scan × Nat) (x : RL) : Scan × Nat :=
  (⟨if x.n.tmod 4 = q then t.1.n + 1 else t.1.n, if x.n.tmod 4 = q ∧ t.1.first < 0 then t.2 else t.1.first, if x.n.tmod 4 ≤ q then (t.2 : Int) + 1 else t.1.at_⟩, t.2 + 1)
def scan (q : Int) (R : List RL) : Scan × Nat := R.foldl (scanStep q) (⟨0, -1, 0⟩, 0)
theorem scan_snd (q : Int) : ∀ (R : List RL) (t : Scan × Nat), (R.foldl (scanStep q) t).2 = t.2 + R.length
  | [], t => rfl
  | x :: r, t => by rw [List.foldl_cons, scan_snd q r, List.length_cons]; simp only [scanStep]; omega
theorem scan_take {q : Int} {R : List RL} {i : Nat} {x : RL} (h : R[i]? = some x) : (scan q (R.take (i + 1))).1 = (scanStep q ((scan q (R.take i)).1, i) x).1 := by
  have hi : i < R.length := (List.getElem?_eq_some_iff.1 h).1
  have h2 : (scan q (R.take i)).2 = i := by rw [scan, scan_snd]; simp; omega
  rw [List.take_add_one, h, scan, List.foldl_append]
  have e : scan q (R.take i) = ((scan q (R.take i)).1, i) := Prod.ext rfl h2
  exact congrArg (fun t => (scanStep q t x).1) e
theorem scan_bounds (q : Int) (R : List RL) : let t := (scan q R).1; 0 ≤ t.n ∧ t.n ≤ R.length ∧ -1 ≤ t.first ∧ t.first < R.length ∧ 0 ≤ t.at_ ∧ t.at_ ≤ R.length ∧ (0 < t.n → 0 ≤ t.first) := by
  have key : ∀ (R : List RL) (t : Scan × Nat), (0 ≤ t.1.n ∧ t.1.n ≤ t.2 ∧ -1 ≤ t.1.first ∧ t.1.first < t.2 ∧ 0 ≤ t.1.at_ ∧ t.1.at_ ≤ t.2 ∧ (0 < t.1.n → 0 ≤ t.1.first)) →
      (0 ≤ (R.foldl (scanStep q) t).1.n ∧ (R.foldl (scanStep q) t).1.n ≤ (R.foldl (scanStep q) t).2 ∧ -1 ≤ (R.foldl (scanStep q) t).1.first ∧ (R.foldl (scanStep q) t).1.first < (R.foldl (scanStep q) t).2 ∧ 0 ≤ (R.foldl (scanStep q) t).1.at_ ∧ (R.foldl (scanStep q) t).1.at_ ≤ (R.foldl (scanStep q) t).2 ∧ (0 < (R.foldl (scanStep q) t).1.n → 0 ≤ (R.foldl (scanStep q) t).1.first)) := by
    intro R
    induction R with
    | nil => intro t h; exact h
    | cons x r ih =>
      intro t h
      rw [List.foldl_cons]
      refine ih _ ?_
      simp only [scanStep]
      split <;> split <;> split <;> omega
  have := key R (⟨0, -1, 0⟩, 0) (by simp)
  have h2 : (R.foldl (scanStep q) (⟨0, -1, 0⟩, 0)).2 = R.length := by rw [scan_snd]; simp
  rw [h2] at this
  exact this

/-- The reference's Put. -/
def putO (t : Scan) (R1 : List RL) (l : RL) : List RL := R1.take t.at_.toNat ++ [l] ++ R1.drop t.at_.toNat
def putT (t : Scan) (R1 : List RL) (l : RL) : List RL := if t.n = 2 then (putO t R1 l).take t.first.toNat ++ (putO t R1 l).drop (t.first.toNat + 1) else putO t R1 l
def putR (R : List RL) (l : RL) : List RL := putT (scan (l.n.tmod 4) (R.filter (keepP l.a l.n))).1 (R.filter (keepP l.a l.n)) l
end Go.Sh
