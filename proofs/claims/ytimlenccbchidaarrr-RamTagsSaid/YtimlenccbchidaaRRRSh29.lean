/- The array behind a slice. -/
import Derived.Test.YtimlenccbchidaaRRRSh28
set_option linter.unusedVariables false
namespace Go.Sh
open Go.RowKit

def s2aK (tab : Tab) (o : Oper) (F : Fr) (k : SV → Prop) : Prop := match o.op with
  | .sliceToArrayPointer t x => tabK tab t fun ti => (match ti.desc with
    | .array n e => evK F x fun v => (match v with
      | .slice i off len cap => Needs (n ≤ len) (k (.ptrx i off))
      | _ => False)
    | _ => False)
  | _ => False
theorem VL.s2a {P : Program} {tab : Tab} (hP : TabOk P tab) {o : Oper} {F : Fr} {H : Hp} {K : SV → Prop} (h : s2aK tab o F K) : VL P o F H K := by
  unfold s2aK at h
  split at h
  · rename_i t x ho
    obtain ⟨ti, ht, h1⟩ := tabK_out hP h
    clear h
    have hu := ht.und
    split at h1
    · rename_i n e hd
      rw [hd] at hu
      obtain ⟨v, h2, hx⟩ := evK_out h1
      split at h2
      · rename_i i off len cap
        obtain ⟨hn, k⟩ := (h2 : Needs _ _)
        refine ⟨_, k, fun w0 O N ρ a w H2 ha _ _ => ⟨?_, (hx _ ρ a ha).2⟩⟩
        have hv := (hx _ ρ a ha).1
        simp only [SV.val] at hv
        simp only [execOp, ho, hv, Instr.arrayAt, Sem.run_bind, run_underlying hu, Result.andThen_ok, Sem.run_pure]
        rw [if_neg (by omega)]
        simp [SV.val]
      · exact h2.elim
    · exact h1.elim
  · exact h.elim
end Go.Sh
