import Derived.Test.YtkopfaenfaelfaaSh35
/- A map, held against none. -/
set_option linter.unusedVariables false
namespace Go.Sh
open Go.RowKit

def isNilM : SV → Option Bool
  | .nilMap => some true
  | .map _ => some false
  | _ => none
def mnlK (tab : Tab) (o : Oper) (F : Fr) (K : SV → Prop) : Prop := match o.op with
  | .binOp .eql t x y _ => tabK tab t fun ti => (match ti.desc with
    | .map _ _ => evK F x fun vx => evK F y fun vy => (match isNilM vx, vy with | some b, .nilMap => K (sb b) | _, _ => False)
    | _ => False)
  | _ => False
theorem VL.mnl {P : Program} {tab : Tab} (hP : TabOk P tab) {o : Oper} {F : Fr} {H : Hp} {K : SV → Prop} (h : mnlK tab o F K) : VL P o F H K := by
  unfold mnlK at h
  split at h
  · rename_i t x y yt ho
    obtain ⟨ti, ht, h1⟩ := tabK_out hP h
    have hu := ht.und
    split at h1
    · rename_i kt vt hd
      rw [hd] at hu
      obtain ⟨vx, h2, hx⟩ := evK_out h1
      obtain ⟨vy, h3, hy⟩ := evK_out h2
      split at h3
      · rename_i b hb
        have gen : ∀ (d : Nat) (p : Option Nat) w, (Op.equalIn (d + 1) t (.map p) (.map none)).run P w = .ok p.isNone w := fun d p w => by
          cases p <;> simp [Op.equalIn, run_underlying hu]
        have key : ∀ (p : Option Nat) w, (binOp .eql t (.map p) (.map none)).run P w = .ok (.bool p.isNone) w := fun p w => by
          simp only [binOp]
          have e : (Op.equal t (.map p) (.map none)).run P w = .ok p.isNone w := gen 9999 p w
          simp [e]
        refine ⟨_, h3, fun w0 O N ρ a w H2 ha hl hs => ⟨?_, by cases b <;> trivial⟩⟩
        have e2 : a.eval y = .map none := (hy N ρ a ha).1
        have e1 := (hx N ρ a ha).1
        cases vx with
        | nilMap =>
          cases hb
          have e1 : a.eval x = .map none := e1
          simp [execOp, ho, e1, e2, eqGuard, key, sb, SV.val]
        | map i =>
          cases hb
          have e1 : a.eval x = .map (some (ρ i).1) := e1
          simp [execOp, ho, e1, e2, eqGuard, key, sb, SV.val]
        | _ => cases hb
      · exact h3.elim
    · exact h1.elim
  · exact h.elim
end Go.Sh
