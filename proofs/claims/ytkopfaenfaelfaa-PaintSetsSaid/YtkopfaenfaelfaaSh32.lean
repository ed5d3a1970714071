import Derived.Test.YtkopfaenfaelfaaSh22
/- Arrays among a law's parameters: of two bools, of three numbers. -/
set_option linter.unusedVariables false
namespace Go.Sh
open Go.RowKit Go.WideShapes Go.ChangeShapes

section
variable {H : Type} {enc : TypeId × Value → H} {P : Program} {w : World} {base : Nat} {spare : Nat → Bool} {held : Bool}
theorem three_of {α : Type} (l : List α) (h : l.length = 3) : ∃ a b c, l = [a, b, c] := by
  match l, h with
  | [a, b, c], _ => exact ⟨a, b, c, rfl⟩
theorem open_arr3 {r : Reach} {b0 : Nat} {t e : TypeId} {k : IntKind} {v : Value} {d : DataW H} {ps : List MemPlace} (ht : P.underlying t = some (.array 3 e)) (he : P.underlying e = some (.int k)) (hce : P.cellsOf e = 1) (hct : P.cellsOf t = 3)
    (hval : Value.okWide P w r b0 t v) (hd : DataW.Trod enc P w base spare held t v d ps) : ∃ a b c, v = .agg #[.int k a, .int k b, .int k c] ∧ (Lit.int k a).wf = true ∧ (Lit.int k b).wf = true ∧ (Lit.int k c).wf = true := by
  obtain ⟨⟨l⟩, rfl, hsz⟩ := arr_of ht hval
  rw [hct] at hsz
  obtain ⟨c0, c1, c2, rfl⟩ := three_of l hsz
  obtain ⟨fuel, hf⟩ := hd
  obtain ⟨y0, y1, y2, m, hx, hy0, hy1, hy2⟩ := trod_array3 ht hce hf
  obtain ⟨x0, e0, _, w0⟩ := DataW.trod_int he hy0
  obtain ⟨x1, e1, _, w1⟩ := DataW.trod_int he hy1
  obtain ⟨x2, e2, _, w2⟩ := DataW.trod_int he hy2
  simp only [List.cons.injEq, and_true] at e0 e1 e2
  subst e0 e1 e2
  exact ⟨x0, x1, x2, rfl, w0, w1, w2⟩
theorem open_arrb2 {r : Reach} {b0 : Nat} {t e : TypeId} {v : Value} {d : DataW H} {ps : List MemPlace} (ht : P.underlying t = some (.array 2 e)) (he : P.underlying e = some .bool) (hce : P.cellsOf e = 1) (hct : P.cellsOf t = 2)
    (hval : Value.okWide P w r b0 t v) (hd : DataW.Trod enc P w base spare held t v d ps) : ∃ a b, v = .agg #[.bool a, .bool b] := by
  obtain ⟨⟨l⟩, rfl, hsz⟩ := arr_of ht hval
  rw [hct] at hsz
  obtain ⟨c0, c1, rfl⟩ := two_of l hsz
  obtain ⟨fuel, hf⟩ := hd
  obtain ⟨y0, y1, m, hy0, hy1⟩ := trod_array2 ht hce hf
  obtain ⟨x0, e0, _⟩ := DataW.trod_bool he hy0
  obtain ⟨x1, e1, _⟩ := DataW.trod_bool he hy1
  simp only [List.cons.injEq, and_true] at e0 e1
  subst e0 e1
  exact ⟨x0, x1, rfl⟩
end
end Go.Sh
