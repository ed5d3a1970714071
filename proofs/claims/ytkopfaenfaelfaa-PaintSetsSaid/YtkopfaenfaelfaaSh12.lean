import Derived.Test.YtkopfaenfaelfaaSh11
/- The table's rows. -/
set_option linter.unusedVariables false
namespace Go.Sh

theorem TIok.of_cells {P : Program} {t : TypeId} {desc : TypeDesc} {size bytes : Nat} {cs : List SV} (z : Value) (hu : P.underlying t = some desc) (hi : (P.info? t).map (fun i => (i.size, i.bytes, i.zero)) = some (size, bytes, some z))
    (hz : z.cells.toList = SV.vals zenv cs) (hl : cs.length = size) (ho : SV.oks 0 cs = true) (h1 : SV.allone cs = true) : TIok P t ⟨desc, size, bytes, .cells cs⟩ := by
  refine ⟨hu, ?_⟩
  cases h : P.info? t with
  | none => rw [h] at hi; cases hi
  | some i =>
    rw [h] at hi
    simp only [Option.map_some, Option.some.injEq, Prod.mk.injEq] at hi
    refine ⟨i, z, rfl, hi.1, hi.2.1, hi.2.2, fun ρ => ?_, closed_Ins ho _, hl, fun ρ => ?_, fun ρ => allone_out ρ h1, rfl, rfl⟩
    · simp only [SO.vals]; rw [closed_vals ho ρ, hz]
    · simp only [SO.vals, SV.vals_length]; exact hl

theorem TabOk.nil (P : Program) : TabOk P [] := fun t ti h => by cases h
theorem TabOk.cons {P : Program} {t : TypeId} {ti : TI} {tab : Tab} (h : TIok P t ti) (r : TabOk P tab) : TabOk P ((t, ti) :: tab) := fun k x hx => by
  rw [look_cons] at hx
  split at hx
  · rename_i e; subst e; injection hx with hx; subst hx; exact h
  · exact r k x hx
end Go.Sh
