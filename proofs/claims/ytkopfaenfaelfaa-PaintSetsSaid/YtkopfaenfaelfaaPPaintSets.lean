import Derived.Test.YtkopfaenfaelfaaRows
import Derived.Test.YtkopfaenfaelfaaPbI
import Derived.ProofKit
import Derived.OpenShut
namespace Go.Proofs.Ytkopfaenfaelfaa.paintSets
open Go.ChangeShapes Go.WideShapes Go.ChangeAt Go.RowKit
set_option linter.unusedVariables false

theorem own : ownKnob Try.prog.godebug = none := by kernel_rfl
theorem laid : laidOutB Try.prog = true := by kernel_rfl

theorem walk (w : World) (l0 : List Value) (hf0 : Go.Sh.Fits [.int .u64, .int .u64] l0) (l1 : List Value) (hf1 : Go.Sh.Fits [.int .u64, .int .u64] l1) (a2 : Int) (w2 : (Lit.int .u64 a2).wf = true) :
    Calls Try.prog 3 #[.agg ⟨l0⟩, .agg ⟨l1⟩, .int .u64 a2] w fun e w2 => e = .returned (.bool true) ∧ Below w.heap.size w w2 := by
  obtain ⟨a, ha, rfl⟩ := Go.Sh.Ytkopfaenfaelfaa.span_of hf0
  obtain ⟨b, hb, rfl⟩ := Go.Sh.Ytkopfaenfaelfaa.span_of hf1
  obtain ⟨ad, hd, rfl⟩ := Go.Sh.u64_of w2
  exact Go.Sh.Pure.calls (Go.Sh.Ytkopfaenfaelfaa.psets_ok a b ad ha hb hd) rfl rfl w

set_option maxHeartbeats 1000000 in
set_option maxRecDepth 100000 in
theorem lifted (os : Os) (started : os.Started) (H : Type) (enc : TypeId × Value → H) :
    ReturnsInHanded {} Try.checked os 3 .any (Rows.paintSetsSpec.pre6 enc Try.prog Try.f3 Rows.paintSetsRow.domain false) (Rows.paintSetsSpec.post enc Try.prog Try.f3 false true false false) := by
  refine returnsInHanded_of_change (C := Try.checked) own started (by kernel_rfl) Try.func3
    (ChangeSpec.witness6 (enc := enc) (C := Try.checked) false ⟨#[], #[.agg #[.int .u64 0, .int .u64 0], .agg #[.int .u64 0, .int .u64 0], .int .u64 0], []⟩ 8 (by kernel_rfl) (by kernel_rfl) (by kernel_rfl) (by kernel_rfl)) ?_
  intro W base args ds gs before hval0 hW hcnd _
  have hval : ∀ (j : Nat) t v, Try.f3.params[j]? = some t → args[j]? = some v → Value.okWide Try.prog W .any base t v := hval0
  have hW' := hW
  obtain ⟨p, q, hA0, hV, rfl, hfz, hnd⟩ := hW
  have hA : DataW.TrodAll enc Try.prog W 0 (fun _ => true) true Try.f3.params.toList args.toList ds p := hA0
  rw [Try.params3] at hA hval
  obtain ⟨v0, vs0, d0, ds0, p0, q0, hargs, rfl, rfl, h0, r0⟩ := trodAll_cons hA
  obtain ⟨v1, vs1, d1, ds1, p1, q1, rfl, rfl, rfl, h1, r1⟩ := trodAll_cons r0
  obtain ⟨v2, vs2, d2, ds2, p2, q2, rfl, rfl, rfl, h2, r2⟩ := trodAll_cons r1
  obtain ⟨rfl, rfl, rfl⟩ := trodAll_nil r2
  obtain rfl : args = #[v0, v1, v2] := by cases args; simp_all
  obtain ⟨rfl, rfl⟩ := trodVars_none hV
  obtain ⟨l0, rfl, hf0⟩ := Go.Sh.open_flat Try.underlying24 Go.Sh.Ytkopfaenfaelfaa.flat24 (hval 0 24 v0 rfl rfl) h0
  obtain ⟨l1, rfl, hf1⟩ := Go.Sh.open_flat Try.underlying24 Go.Sh.Ytkopfaenfaelfaa.flat24 (hval 1 24 v1 rfl rfl) h1
  obtain ⟨a2, rfl, rfl, rfl, w2⟩ := open_int Try.underlying22 (hval 2 22 v2 rfl rfl) h2
  clear hA0 hval0
  refine (walk W l0 hf0 l1 hf1 a2 w2).mono fun e W2 ⟨he, hg⟩ => ?_
  subst he
  exact ⟨_, rfl, Go.Sh.post_law (tb := 4) laid (by kernel_rfl) hW' rfl rfl rfl rfl (by kernel_rfl) Try.underlying4 hg⟩

theorem over : Rows.paintSetsRow.holds Try.pinned (OpenSpec.ofChange Rows.paintSetsSpec) :=
  OpenClaim.holds_of_wide 3 Try.f3 rfl rfl rfl rfl rfl rfl rfl ⟨rfl, rfl, rfl, rfl, rfl⟩ rfl rfl rfl rfl rfl (by kernel_rfl) Try.func3 (by kernel_rfl)
    (of_decide_eq_true (by kernel_rfl)) (by unfold Func.isWrapper; first | (rw [if_pos (by decide +kernel)]; kernel_rfl) | (rw [if_neg (by decide +kernel)]; exact ⟨rfl, rfl⟩))
    (fun os started H enc _ => lifted os started H enc)

theorem proved : Rows.PaintSetsSaid :=
  over
#print axioms proved
end Go.Proofs.Ytkopfaenfaelfaa.paintSets
