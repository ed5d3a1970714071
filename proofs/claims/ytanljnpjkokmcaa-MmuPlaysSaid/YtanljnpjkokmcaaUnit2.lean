import Derived.Test.YtanljnpjkokmcaaMB
/- A unit's number, laid anew: plain. -/
set_option linter.unusedVariables false
namespace Go.Sh
open Go.RowKit
theorem set_app {A : List Value} (hA : A.length = 132) (x y z v : Value) : setRange (A ++ [x, y, z]) 133 [v] = A ++ [x, v, z] := by
  have h1 : (A ++ [x, y, z]).take 133 = A ++ [x] := by rw [show 133 = A.length + 1 by omega, List.take_length_add_append]; rfl
  have h2 : (A ++ [x, y, z]).drop 134 = [z] := by rw [show 134 = A.length + 2 by omega, List.drop_length_add_append]; rfl
  unfold setRange
  rw [h1, show 133 + [v].length = 134 from rfl, h2]
  simp
theorem uC_set {s : Nat → List Ln} (hs : okT s) (root a b : Nat) (gen : Bool) : setRange (tlbC s (uR root a gen)) 133 [.int .u64 (b : Int)] = tlbC s (uR root b gen) := by
  have h0 := setVal_len (hs 0); have h1 := setVal_len (hs 1); have h2 := setVal_len (hs 2); have h3 := setVal_len (hs 3)
  have e : ∀ rest, tlbC s rest = (setVal (s 0) ++ (setVal (s 1) ++ (setVal (s 2) ++ setVal (s 3)))) ++ rest := fun rest => by
    show setVal (s 0) ++ (setVal (s 1) ++ (setVal (s 2) ++ (setVal (s 3) ++ rest))) = _
    simp [List.append_assoc]
  rw [e, e]
  exact set_app (by simp only [List.length_append]; omega) _ _ _ _
end Go.Sh
