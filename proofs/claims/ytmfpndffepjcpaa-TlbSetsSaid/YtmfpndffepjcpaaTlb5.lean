/- Counts, and the order of the lines: plain. -/
import Derived.Test.YtmfpndffepjcpaaTlb4
set_option linter.unusedVariables false
namespace Go.Sh
open Go.RowKit

def cq (L : List Ln) (q : Nat) : Nat := (L.filter fun x => q4 x.num == q).length
def cntV (c : Nat → Nat) : List Value := [.int .i64 (c 0 : Nat), .int .i64 (c 1 : Nat), .int .i64 (c 2 : Nat), .int .i64 (c 3 : Nat)]
theorem cntV_get (c : Nat → Nat) {q : Nat} (h : q < 4) : (cntV c)[q]? = some (.int .i64 (c q : Nat)) := by
  have : q = 0 ∨ q = 1 ∨ q = 2 ∨ q = 3 := by omega
  rcases this with rfl | rfl | rfl | rfl <;> rfl
theorem cntV_set (c : Nat → Nat) {q : Nat} (h : q < 4) : setRange (cntV c) q [.int .i64 ((c q : Nat) + 1 : Int)] = cntV (fset c q (c q + 1)) := by
  have : q = 0 ∨ q = 1 ∨ q = 2 ∨ q = 3 := by omega
  rcases this with rfl | rfl | rfl | rfl <;> rfl
theorem cq_take {L : List Ln} {k : Nat} {x : Ln} (h : L[k]? = some x) : cq (L.take (k + 1)) = fset (cq (L.take k)) (q4 x.num) (cq (L.take k) (q4 x.num) + 1) := by
  funext q
  unfold cq fset
  rw [List.take_add_one, h, List.filter_append]
  by_cases e : q = q4 x.num
  · subst e; simp
  · rw [if_neg e]
    have : (q4 x.num == q) = false := by simp; exact fun h => e h.symm
    simp [this]
theorem cq_le (L : List Ln) (q : Nat) : cq L q ≤ L.length := List.length_filter_le _ _
theorem cq_preL {s : Nat → List Ln} (h : Inv s) {q : Nat} (hq : q < 4) : cq (preL s 4) q = (s q).length := by
  obtain ⟨A, B, h1, h2, h3, _⟩ := preL_three s hq
  have no : ∀ l : List Ln, (∀ x ∈ l, ∃ k, k ≠ q ∧ x ∈ s k) → l.filter (fun x => q4 x.num == q) = [] := fun l hl => by
    rw [List.filter_eq_nil_iff]
    intro x hx
    obtain ⟨k, g1, g2⟩ := hl x hx
    have := (h.num k x g2).2
    simp only [beq_iff_eq]; omega
  unfold cq
  rw [h1, List.filter_append, List.filter_append, no A fun x hx => by
    obtain ⟨k, g1, g2⟩ := h2 x hx; exact ⟨k, by omega, g2⟩, no B fun x hx => by
    obtain ⟨k, g1, g2⟩ := h3 x hx; exact ⟨k, by omega, g2⟩, List.filter_eq_self.2 fun x hx => by simp [(h.num q x hx).2]]
  simp
theorem preL_sorted {s : Nat → List Ln} (h : Inv s) : ∀ i, (preL s i).Pairwise fun x y => q4 x.num ≤ q4 y.num
  | 0 => .nil
  | i + 1 => by
    rw [preL]
    refine List.pairwise_append.2 ⟨preL_sorted h i, ?_, fun x hx y hy => ?_⟩
    · refine List.Pairwise.imp_of_mem (R := fun _ _ => True) (fun {a b} ha hb _ => ?_) (List.pairwise_of_forall fun _ _ => trivial)
      have := (h.num i a ha).2; have := (h.num i b hb).2; omega
    · obtain ⟨k, g1, g2⟩ := mem_preL.1 hx
      have e1 := (h.num k x g2).2
      have e2 := (h.num i y hy).2
      omega
theorem sorted_at {L : List Ln} (h : L.Pairwise fun x y => q4 x.num ≤ q4 y.num) {k : Nat} {x y : Ln} (hx : L[k]? = some x) (hy : L[k + 1]? = some y) : q4 x.num ≤ q4 y.num := by
  obtain ⟨h1, h2⟩ := List.getElem?_eq_some_iff.1 hx
  obtain ⟨h3, h4⟩ := List.getElem?_eq_some_iff.1 hy
  have := List.pairwise_iff_getElem.1 h k (k + 1) h1 h3 (by omega)
  rwa [h2, h4] at this
theorem putS_other {s : Nat → List Ln} (l : Ln) {q : Nat} (h : q ≠ q4 l.num) : putS s l q = s q := fset_ne _ _ h
end Go.Sh
