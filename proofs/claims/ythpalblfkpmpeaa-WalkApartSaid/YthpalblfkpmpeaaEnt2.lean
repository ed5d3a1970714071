import Derived.Test.YthpalblfkpmpeaaEnt1
import Derived.Test.YthpalblfkpmpeaaMB
/- Lays out of a slice's cells. -/
set_option linter.unusedVariables false
namespace Go.Sh
open Go.RowKit

def layK : List Kd := [.int .i64, .int .i64, .bool, .bool, .bool, .bool, .bool, .bool, .bool, .bool, .bool, .bool, .bool, .bool, .int .u64]
theorem lays_of {n : Nat} {cells : List Value} (hl : cells.length = n * 15) (hf : ∀ i, i < n → Fits layK ((cells.drop (i * 15)).take 15)) : ∃ A : List Lay, A.length = n ∧ cells = laysV A ∧ ∀ x ∈ A, okE x.e := by
  refine rows_of layV (fun x => okE x.e) hl fun i hi => ?_
  have h := hf i hi
  generalize (cells.drop (i * 15)).take 15 = l at h
  obtain ⟨p, s0, rfl, _, h⟩ := fits_int h
  obtain ⟨q, s1, rfl, _, h⟩ := fits_int h
  obtain ⟨e, he, rfl⟩ := ent_of h
  exact ⟨⟨p, q, e⟩, rfl, he⟩
theorem layV_one {A : List Lay} : ∀ x ∈ laysV A, x.oneCell' = true := fun x hx => by
  obtain ⟨a, _, h⟩ := List.mem_flatMap.1 hx
  simp only [layV, List.mem_cons, List.not_mem_nil, or_false] at h
  rcases h with rfl | rfl | rfl | rfl | rfl | rfl | rfl | rfl | rfl | rfl | rfl | rfl | rfl | rfl | rfl <;> rfl
end Go.Sh
