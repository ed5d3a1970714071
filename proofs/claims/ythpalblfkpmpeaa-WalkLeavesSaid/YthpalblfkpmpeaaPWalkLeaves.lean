import Derived.Test.YthpalblfkpmpeaaRows
import Derived.Test.YthpalblfkpmpeaaWlA
import Derived.Test.YthpalblfkpmpeaaEnt1
import Derived.ProofKit
import Derived.OpenShut
namespace Go.Proofs.Ythpalblfkpmpeaa.walkLeaves
open Go.ChangeShapes Go.WideShapes Go.ChangeAt Go.RowKit
set_option linter.unusedVariables false

theorem own : ownKnob Try.prog.godebug = none := by kernel_rfl
theorem laid : laidOutB Try.prog = true := by kernel_rfl
theorem cells3 : Try.prog.cellsOf 3 = 1 := by kernel_rfl
theorem cells51 : Try.prog.cellsOf 51 = 3 := by kernel_rfl

theorem walk (w : World) (a0_0 : Int) (a0_1 : Int) (a0_2 : Int) (w0_0 : (Lit.int .i64 a0_0).wf = true) (w0_1 : (Lit.int .i64 a0_1).wf = true) (w0_2 : (Lit.int .i64 a0_2).wf = true) (a1_0 : Int) (a1_1 : Int) (a1_2 : Int) (w1_0 : (Lit.int .i64 a1_0).wf = true) (w1_1 : (Lit.int .i64 a1_1).wf = true) (w1_2 : (Lit.int .i64 a1_2).wf = true) (l2 : List Value) (hf2 : Go.Sh.Fits Go.Sh.entK l2) :
    Calls Try.prog 5 #[.agg #[.int .i64 a0_0, .int .i64 a0_1, .int .i64 a0_2], .agg #[.int .i64 a1_0, .int .i64 a1_1, .int .i64 a1_2], .agg ⟨l2⟩] w fun e w2 => e = .returned (.bool true) ∧ Below w.heap.size w w2 := by
  obtain ⟨e, _, rfl⟩ := Go.Sh.ent_of hf2
  exact Go.Sh.Pure.calls (Go.Sh.Ythpalblfkpmpeaa.leaves_ok a0_0 a0_1 a0_2 a1_0 a1_1 a1_2 e) rfl rfl w

set_option maxHeartbeats 1000000 in
set_option maxRecDepth 100000 in
theorem lifted (os : Os) (started : os.Started) (H : Type) (enc : TypeId × Value → H) :
    ReturnsInHanded {} Try.checked os 5 .any (Rows.walkLeavesSpec.pre6 enc Try.prog Try.f5 Rows.walkLeavesRow.domain false) (Rows.walkLeavesSpec.post enc Try.prog Try.f5 false true false false) := by
  refine returnsInHanded_of_change (C := Try.checked) own started (by kernel_rfl) Try.func5
    (ChangeSpec.witness6 (enc := enc) (C := Try.checked) false ⟨#[], #[.agg #[.int .i64 0, .int .i64 0, .int .i64 0], .agg #[.int .i64 0, .int .i64 0, .int .i64 0], .agg #[.bool false, .bool false, .bool false, .bool false, .bool false, .bool false, .bool false, .bool false, .bool false, .bool false, .bool false, .bool false, .int .u64 0]], []⟩ 8 (by kernel_rfl) (by kernel_rfl) (by kernel_rfl) (by kernel_rfl)) ?_
  intro W base args ds gs before hval0 hW hcnd _
  have hval : ∀ (j : Nat) t v, Try.f5.params[j]? = some t → args[j]? = some v → Value.okWide Try.prog W .any base t v := hval0
  have hW' := hW
  obtain ⟨p, q, hA0, hV, rfl, hfz, hnd⟩ := hW
  have hA : DataW.TrodAll enc Try.prog W 0 (fun _ => true) true Try.f5.params.toList args.toList ds p := hA0
  rw [Try.params5] at hA hval
  obtain ⟨v0, vs0, d0, ds0, p0, q0, hargs, rfl, rfl, h0, r0⟩ := trodAll_cons hA
  obtain ⟨v1, vs1, d1, ds1, p1, q1, rfl, rfl, rfl, h1, r1⟩ := trodAll_cons r0
  obtain ⟨v2, vs2, d2, ds2, p2, q2, rfl, rfl, rfl, h2, r2⟩ := trodAll_cons r1
  obtain ⟨rfl, rfl, rfl⟩ := trodAll_nil r2
  obtain rfl : args = #[v0, v1, v2] := by cases args; simp_all
  obtain ⟨rfl, rfl⟩ := trodVars_none hV
  obtain ⟨a0_0, a0_1, a0_2, rfl, w0_0, w0_1, w0_2⟩ := Go.Sh.open_arr3 Try.underlying51 Try.underlying3 cells3 cells51 (hval 0 51 v0 rfl rfl) h0
  obtain ⟨a1_0, a1_1, a1_2, rfl, w1_0, w1_1, w1_2⟩ := Go.Sh.open_arr3 Try.underlying51 Try.underlying3 cells3 cells51 (hval 1 51 v1 rfl rfl) h1
  obtain ⟨l2, rfl, hf2⟩ := Go.Sh.open_flat Try.underlying32 Go.Sh.Ythpalblfkpmpeaa.flat32 (hval 2 32 v2 rfl rfl) h2
  clear hA0 hval0
  refine (walk W a0_0 a0_1 a0_2 w0_0 w0_1 w0_2 a1_0 a1_1 a1_2 w1_0 w1_1 w1_2 l2 hf2).mono fun e W2 ⟨he, hg⟩ => ?_
  subst he
  exact ⟨_, rfl, Go.Sh.post_law (tb := 4) laid (by kernel_rfl) hW' rfl rfl rfl rfl (by kernel_rfl) Try.underlying4 hg⟩

theorem over : Rows.walkLeavesRow.holds Try.pinned (OpenSpec.ofChange Rows.walkLeavesSpec) :=
  OpenClaim.holds_of_wide 5 Try.f5 rfl rfl rfl rfl rfl rfl rfl ⟨rfl, rfl, rfl, rfl, rfl⟩ rfl rfl rfl rfl rfl (by kernel_rfl) Try.func5 (by kernel_rfl)
    (of_decide_eq_true (by kernel_rfl)) (by unfold Func.isWrapper; first | (rw [if_pos (by decide +kernel)]; kernel_rfl) | (rw [if_neg (by decide +kernel)]; exact ⟨rfl, rfl⟩))
    (fun os started H enc _ => lifted os started H enc)

theorem proved : Rows.WalkLeavesSaid :=
  over
#print axioms proved
end Go.Proofs.Ythpalblfkpmpeaa.walkLeaves
