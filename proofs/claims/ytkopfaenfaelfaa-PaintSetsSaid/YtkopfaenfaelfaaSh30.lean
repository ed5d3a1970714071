import Derived.Test.YtkopfaenfaelfaaSh27
import Derived.Test.YtkopfaenfaelfaaSh22
/- A law's parameter that is a struct of flat cells, opened. -/
set_option linter.unusedVariables false
namespace Go.Sh
open Go.RowKit Go.WideShapes Go.ChangeShapes

theorem open_flat {H : Type} {enc : TypeId × Value → H} {P : Program} {w : World} {base b0 : Nat} {spare : Nat → Bool} {held : Bool} {r : Reach} {t : TypeId} {fs : Array Field} {v : Value} {d : DataW H} {ps : List MemPlace} {ks : List Kd}
    (ht : P.underlying t = some (.struct fs)) (hk : FlatT P t ks) (hval : Value.okWide P w r b0 t v) (hd : DataW.Trod enc P w base spare held t v d ps) : ∃ l : List Value, v = .agg ⟨l⟩ ∧ Fits ks l := by
  have : ∃ cs, v = .agg cs := by
    cases v <;> simp [Value.okWide, ht] at hval
    exact ⟨_, rfl⟩
  obtain ⟨⟨l⟩, rfl⟩ := this
  obtain ⟨fuel, hf⟩ := hd
  exact ⟨l, rfl, hk hf⟩
theorem fits_int {k : IntKind} {ks : List Kd} {l : List Value} (h : Fits (.int k :: ks) l) : ∃ n s, l = .int k n :: s ∧ (Lit.int k n).wf = true ∧ Fits ks s := by
  cases l with
  | nil => exact h.elim
  | cons v s => obtain ⟨⟨n, rfl, hw⟩, h2⟩ := h; exact ⟨n, s, rfl, hw, h2⟩
theorem fits_bool {ks : List Kd} {l : List Value} (h : Fits (.bool :: ks) l) : ∃ b s, l = .bool b :: s ∧ Fits ks s := by
  cases l with
  | nil => exact h.elim
  | cons v s => obtain ⟨⟨b, rfl⟩, h2⟩ := h; exact ⟨b, s, rfl, h2⟩
theorem fits_nil {l : List Value} (h : Fits [] l) : l = [] := by
  cases l with
  | nil => rfl
  | cons v s => exact h.elim
end Go.Sh
