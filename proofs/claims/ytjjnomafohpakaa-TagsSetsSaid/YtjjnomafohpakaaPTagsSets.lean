import Derived.Test.YtjjnomafohpakaaRows
import Derived.Test.YtjjnomafohpakaaSh22
import Derived.Test.YtjjnomafohpakaaSet3
import Derived.Test.YtjjnomafohpakaaC07h
import Derived.ProofKit
import Derived.OpenShut
namespace Go.Proofs.Ytjjnomafohpakaa.tagsSets
open Go.ChangeShapes Go.WideShapes Go.ChangeAt Go.RowKit
set_option linter.unusedVariables false

theorem own : ownKnob Try.prog.godebug = none := by kernel_rfl
theorem laid : laidOutB Try.prog = true := by kernel_rfl
theorem cells24 : Try.prog.cellsOf 24 = 1 := by kernel_rfl
theorem cells26 : Try.prog.cellsOf 26 = 4 := by kernel_rfl
theorem cells3 : Try.prog.cellsOf 3 = 1 := by kernel_rfl
theorem cells42 : Try.prog.cellsOf 42 = 2 := by kernel_rfl

theorem walk (a0_0 : Int) (a0_1 : Int) (a0_2 : Int) (a0_3 : Int) (w0_0 : (Lit.int .u64 a0_0).wf = true) (w0_1 : (Lit.int .u64 a0_1).wf = true) (w0_2 : (Lit.int .u64 a0_2).wf = true) (w0_3 : (Lit.int .u64 a0_3).wf = true) (a1_0 : Int) (a1_1 : Int) (a1_2 : Int) (a1_3 : Int) (w1_0 : (Lit.int .u64 a1_0).wf = true) (w1_1 : (Lit.int .u64 a1_1).wf = true) (w1_2 : (Lit.int .u64 a1_2).wf = true) (w1_3 : (Lit.int .u64 a1_3).wf = true) (a2_0 : Int) (a2_1 : Int) (w2_0 : (Lit.int .i64 a2_0).wf = true) (w2_1 : (Lit.int .i64 a2_1).wf = true) (w : World) :
    Calls Try.prog 6 #[.agg #[.int .u64 a0_0, .int .u64 a0_1, .int .u64 a0_2, .int .u64 a0_3], .agg #[.int .u64 a1_0, .int .u64 a1_1, .int .u64 a1_2, .int .u64 a1_3], .agg #[.int .i64 a2_0, .int .i64 a2_1]] w fun e w2 => e = .returned (.bool true) ∧ Below w.heap.size w w2 := by
  obtain ⟨s, hs, es⟩ := Go.Sh.set_of w0_0 w0_1 w0_2 w0_3
  obtain ⟨t, ht, et⟩ := Go.Sh.set_of w1_0 w1_1 w1_2 w1_3
  rw [es, et]
  exact Go.Sh.Pure.calls (Go.Sh.Ytjjnomafohpakaa.sets_ok s t a2_0 a2_1 hs ht) rfl rfl w

set_option maxHeartbeats 1000000 in
set_option maxRecDepth 100000 in
theorem lifted (os : Os) (started : os.Started) (H : Type) (enc : TypeId × Value → H) :
    ReturnsInHanded {} Try.checked os 6 .any (Rows.tagsSetsSpec.pre6 enc Try.prog Try.f6 Rows.tagsSetsRow.domain false) (Rows.tagsSetsSpec.post enc Try.prog Try.f6 false true false false) := by
  refine returnsInHanded_of_change (C := Try.checked) own started (by kernel_rfl) Try.func6
    (ChangeSpec.witness6 (enc := enc) (C := Try.checked) false ⟨#[], #[.agg #[.int .u64 0, .int .u64 0, .int .u64 0, .int .u64 0], .agg #[.int .u64 0, .int .u64 0, .int .u64 0, .int .u64 0], .agg #[.int .i64 0, .int .i64 0]], []⟩ 8 (by kernel_rfl) (by kernel_rfl) (by kernel_rfl) (by kernel_rfl)) ?_
  intro W base args ds gs before hval0 hW hcnd _
  have hval : ∀ (j : Nat) t v, Try.f6.params[j]? = some t → args[j]? = some v → Value.okWide Try.prog W .any base t v := hval0
  have hW' := hW
  obtain ⟨p, q, hA0, hV, rfl, hfz, hnd⟩ := hW
  have hA : DataW.TrodAll enc Try.prog W 0 (fun _ => true) true Try.f6.params.toList args.toList ds p := hA0
  rw [Try.params6] at hA hval
  obtain ⟨v0, vs0, d0, ds0, p0, q0, hargs, rfl, rfl, h0, r0⟩ := trodAll_cons hA
  obtain ⟨v1, vs1, d1, ds1, p1, q1, rfl, rfl, rfl, h1, r1⟩ := trodAll_cons r0
  obtain ⟨v2, vs2, d2, ds2, p2, q2, rfl, rfl, rfl, h2, r2⟩ := trodAll_cons r1
  obtain ⟨rfl, rfl, rfl⟩ := trodAll_nil r2
  obtain rfl : args = #[v0, v1, v2] := by cases args; simp_all
  obtain ⟨rfl, rfl⟩ := trodVars_none hV
  obtain ⟨a0_0, a0_1, a0_2, a0_3, rfl, w0_0, w0_1, w0_2, w0_3⟩ := Go.Sh.open_arr4 Try.underlying26 Try.underlying24 cells24 cells26 (hval 0 26 v0 rfl rfl) h0
  obtain ⟨a1_0, a1_1, a1_2, a1_3, rfl, w1_0, w1_1, w1_2, w1_3⟩ := Go.Sh.open_arr4 Try.underlying26 Try.underlying24 cells24 cells26 (hval 1 26 v1 rfl rfl) h1
  obtain ⟨a2_0, a2_1, rfl, w2_0, w2_1⟩ := Go.Sh.open_arr2 Try.underlying42 Try.underlying3 cells3 cells42 (hval 2 42 v2 rfl rfl) h2
  clear hA0 hval0
  refine (walk a0_0 a0_1 a0_2 a0_3 w0_0 w0_1 w0_2 w0_3 a1_0 a1_1 a1_2 a1_3 w1_0 w1_1 w1_2 w1_3 a2_0 a2_1 w2_0 w2_1 W).mono fun e W2 ⟨he, hg⟩ => ?_
  subst he
  exact ⟨_, rfl, Go.Sh.post_law (tb := 4) laid (by kernel_rfl) hW' rfl rfl rfl rfl (by kernel_rfl) Try.underlying4 hg⟩

theorem over : Rows.tagsSetsRow.holds Try.pinned (OpenSpec.ofChange Rows.tagsSetsSpec) :=
  OpenClaim.holds_of_wide 6 Try.f6 rfl rfl rfl rfl rfl rfl rfl ⟨rfl, rfl, rfl, rfl, rfl⟩ rfl rfl rfl rfl rfl (by kernel_rfl) Try.func6 (by kernel_rfl)
    (of_decide_eq_true (by kernel_rfl)) (by unfold Func.isWrapper; first | (rw [if_pos (by decide +kernel)]; kernel_rfl) | (rw [if_neg (by decide +kernel)]; exact ⟨rfl, rfl⟩))
    (fun os started H enc _ => lifted os started H enc)

theorem proved : Rows.TagsSetsSaid :=
  over
#print axioms proved
end Go.Proofs.Ytjjnomafohpakaa.tagsSets
