import Derived.Test.YthpalblfkpmpeaaRows
import Derived.Test.YthpalblfkpmpeaaWcA
import Derived.Test.YthpalblfkpmpeaaSh32
import Derived.Test.YthpalblfkpmpeaaEnt1
import Derived.ProofKit
import Derived.OpenShut
namespace Go.Proofs.Ythpalblfkpmpeaa.walkChecks
open Go.ChangeShapes Go.WideShapes Go.ChangeAt Go.RowKit
set_option linter.unusedVariables false

theorem own : ownKnob Try.prog.godebug = none := by kernel_rfl
theorem laid : laidOutB Try.prog = true := by kernel_rfl
theorem cells4 : Try.prog.cellsOf 4 = 1 := by kernel_rfl
theorem cells55 : Try.prog.cellsOf 55 = 2 := by kernel_rfl

theorem walk (w : World) (l0 : List Value) (hf0 : Go.Sh.Fits [.bool, .bool, .bool, .bool, .bool, .bool, .bool, .bool, .bool, .bool, .bool, .bool, .int .u64] l0) (a1 : Int) (w1 : (Lit.int .i64 a1).wf = true) (a2_0 a2_1 : Bool) :
    Calls Try.prog 6 #[.agg ⟨l0⟩, .int .i64 a1, .agg #[.bool a2_0, .bool a2_1]] w fun e w2 => e = .returned (.bool true) ∧ Below w.heap.size w w2 := by
  obtain ⟨e, _, rfl⟩ := Go.Sh.ent_of hf0
  exact Go.Sh.Pure.calls (Go.Sh.Ythpalblfkpmpeaa.checks_ok e a1 a2_0 a2_1) rfl rfl w

set_option maxHeartbeats 1000000 in
set_option maxRecDepth 100000 in
theorem lifted (os : Os) (started : os.Started) (H : Type) (enc : TypeId × Value → H) :
    ReturnsInHanded {} Try.checked os 6 .any (Rows.walkChecksSpec.pre6 enc Try.prog Try.f6 Rows.walkChecksRow.domain false) (Rows.walkChecksSpec.post enc Try.prog Try.f6 false true false false) := by
  refine returnsInHanded_of_change (C := Try.checked) own started (by kernel_rfl) Try.func6
    (ChangeSpec.witness6 (enc := enc) (C := Try.checked) false ⟨#[], #[.agg #[.bool false, .bool false, .bool false, .bool false, .bool false, .bool false, .bool false, .bool false, .bool false, .bool false, .bool false, .bool false, .int .u64 0], .int .i64 0, .agg #[.bool false, .bool false]], []⟩ 8 (by kernel_rfl) (by kernel_rfl) (by kernel_rfl) (by kernel_rfl)) ?_
  intro W base args ds gs before hval0 hW hcnd _
  have hval : ∀ (j : Nat) t v, Try.f6.params[j]? = some t → args[j]? = some v → Value.okWide Try.prog W .any base t v := hval0
  have hW' := hW
  obtain ⟨p, q, hA0, hV, rfl, hfz, hnd⟩ := hW
  have hA : DataW.TrodAll enc Try.prog W 0 (fun _ => true) true Try.f6.params.toList args.toList ds p := hA0
  rw [Try.params6] at hA hval
  obtain ⟨v0, vs0, d0, ds0, p0, q0, hargs, rfl, rfl, h0, r0⟩ := trodAll_cons hA
  obtain ⟨v1, vs1, d1, ds1, p1, q1, rfl, rfl, rfl, h1, r1⟩ := trodAll_cons r0
  obtain ⟨v2, vs2, d2, ds2, p2, q2, rfl, rfl, rfl, h2, r2⟩ := trodAll_cons r1
  obtain ⟨rfl, rfl, rfl⟩ := trodAll_nil r2
  obtain rfl : args = #[v0, v1, v2] := by cases args; simp_all
  obtain ⟨rfl, rfl⟩ := trodVars_none hV
  obtain ⟨l0, rfl, hf0⟩ := Go.Sh.open_flat Try.underlying32 Go.Sh.Ythpalblfkpmpeaa.flat32 (hval 0 32 v0 rfl rfl) h0
  obtain ⟨a1, rfl, rfl, rfl, w1⟩ := open_int Try.underlying3 (hval 1 3 v1 rfl rfl) h1
  obtain ⟨a2_0, a2_1, rfl⟩ := Go.Sh.open_arrb2 Try.underlying55 Try.underlying4 cells4 cells55 (hval 2 55 v2 rfl rfl) h2
  clear hA0 hval0
  refine (walk W l0 hf0 a1 w1 a2_0 a2_1).mono fun e W2 ⟨he, hg⟩ => ?_
  subst he
  exact ⟨_, rfl, Go.Sh.post_law (tb := 4) laid (by kernel_rfl) hW' rfl rfl rfl rfl (by kernel_rfl) Try.underlying4 hg⟩

theorem over : Rows.walkChecksRow.holds Try.pinned (OpenSpec.ofChange Rows.walkChecksSpec) :=
  OpenClaim.holds_of_wide 6 Try.f6 rfl rfl rfl rfl rfl rfl rfl ⟨rfl, rfl, rfl, rfl, rfl⟩ rfl rfl rfl rfl rfl (by kernel_rfl) Try.func6 (by kernel_rfl)
    (of_decide_eq_true (by kernel_rfl)) (by unfold Func.isWrapper; first | (rw [if_pos (by decide +kernel)]; kernel_rfl) | (rw [if_neg (by decide +kernel)]; exact ⟨rfl, rfl⟩))
    (fun os started H enc _ => lifted os started H enc)

theorem proved : Rows.WalkChecksSaid :=
  over
#print axioms proved
end Go.Proofs.Ythpalblfkpmpeaa.walkChecks
