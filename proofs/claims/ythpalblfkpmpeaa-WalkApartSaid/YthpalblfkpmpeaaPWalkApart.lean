import Derived.Test.YthpalblfkpmpeaaRows
import Derived.Test.YthpalblfkpmpeaaWaB
import Derived.ProofKit
import Derived.OpenShut
namespace Go.Proofs.Ythpalblfkpmpeaa.walkApart
open Go.ChangeShapes Go.WideShapes Go.ChangeAt Go.RowKit
set_option linter.unusedVariables false

theorem own : ownKnob Try.prog.godebug = none := by kernel_rfl
theorem laid : laidOutB Try.prog = true := by kernel_rfl
theorem cells3 : Try.prog.cellsOf 3 = 1 := by kernel_rfl
theorem cells42 : Try.prog.cellsOf 42 = 2 := by kernel_rfl

theorem walk (w : World) (b0 : Bool) (blk0 off0 n0 c0 : Nat) (cs0 : List Value) (hn0 : n0 ≤ c0) (hb0 : b0 = true → c0 = 0) (hm0 : n0 ≤ maxLen) (hl0 : cs0.length = n0 * 15) (hc0 : ∀ j x, cs0[j]? = some x → w.cell? ⟨blk0, off0 + j, none⟩ = some x) (hf0 : ∀ i, i < n0 → Go.Sh.Fits Go.Sh.layK ((cs0.drop (i * 15)).take 15)) (a1_0 : Int) (a1_1 : Int) (w1_0 : (Lit.int .i64 a1_0).wf = true) (w1_1 : (Lit.int .i64 a1_1).wf = true) (l2 : List Value) (hf2 : Go.Sh.Fits Go.Sh.entK l2) :
    Calls Try.prog 4 #[Go.Sh.slzV b0 ⟨blk0, off0, none⟩ n0 c0, .agg #[.int .i64 a1_0, .int .i64 a1_1], .agg ⟨l2⟩] w fun e w2 => e = .returned (.bool true) ∧ Below w.heap.size w w2 := by
  exact Go.Sh.Ythpalblfkpmpeaa.apart_calls w hn0 hb0 hm0 hl0 hc0 hf0 hf2

set_option maxHeartbeats 1000000 in
set_option maxRecDepth 100000 in
theorem lifted (os : Os) (started : os.Started) (H : Type) (enc : TypeId × Value → H) :
    ReturnsInHanded {} Try.checked os 4 .any (Rows.walkApartSpec.pre6 enc Try.prog Try.f4 Rows.walkApartRow.domain false) (Rows.walkApartSpec.post enc Try.prog Try.f4 false true false false) := by
  refine returnsInHanded_of_change (C := Try.checked) own started (by kernel_rfl) Try.func4
    (ChangeSpec.witness6 (enc := enc) (C := Try.checked) false ⟨#[], #[.slice none 0 0, .agg #[.int .i64 0, .int .i64 0], .agg #[.bool false, .bool false, .bool false, .bool false, .bool false, .bool false, .bool false, .bool false, .bool false, .bool false, .bool false, .bool false, .int .u64 0]], []⟩ 8 (by kernel_rfl) (by kernel_rfl) (by kernel_rfl) (by kernel_rfl)) ?_
  intro W base args ds gs before hval0 hW hcnd _
  have hval : ∀ (j : Nat) t v, Try.f4.params[j]? = some t → args[j]? = some v → Value.okWide Try.prog W .any base t v := hval0
  have hW' := hW
  obtain ⟨p, q, hA0, hV, rfl, hfz, hnd⟩ := hW
  have hA : DataW.TrodAll enc Try.prog W 0 (fun _ => true) true Try.f4.params.toList args.toList ds p := hA0
  rw [Try.params4] at hA hval
  obtain ⟨v0, vs0, d0, ds0, p0, q0, hargs, rfl, rfl, h0, r0⟩ := trodAll_cons hA
  obtain ⟨v1, vs1, d1, ds1, p1, q1, rfl, rfl, rfl, h1, r1⟩ := trodAll_cons r0
  obtain ⟨v2, vs2, d2, ds2, p2, q2, rfl, rfl, rfl, h2, r2⟩ := trodAll_cons r1
  obtain ⟨rfl, rfl, rfl⟩ := trodAll_nil r2
  obtain rfl : args = #[v0, v1, v2] := by cases args; simp_all
  obtain ⟨rfl, rfl⟩ := trodVars_none hV
  obtain ⟨b0, blk0, off0, n0, c0, cs0, rfl, hn0, hb0, hm0, hl0, hc0, hf0⟩ := Go.Sh.open_slice Try.underlying22 Go.Sh.Ythpalblfkpmpeaa.flat44 (by kernel_rfl) (hval 0 22 v0 rfl rfl) h0
  obtain ⟨a1_0, a1_1, rfl, w1_0, w1_1⟩ := Go.Sh.open_arr2 Try.underlying42 Try.underlying3 cells3 cells42 (hval 1 42 v1 rfl rfl) h1
  obtain ⟨l2, rfl, hf2⟩ := Go.Sh.open_flat Try.underlying32 Go.Sh.Ythpalblfkpmpeaa.flat32 (hval 2 32 v2 rfl rfl) h2
  clear hA0 hval0
  refine (walk W b0 blk0 off0 n0 c0 cs0 hn0 hb0 hm0 hl0 hc0 hf0 a1_0 a1_1 w1_0 w1_1 l2 hf2).mono fun e W2 ⟨he, hg⟩ => ?_
  subst he
  exact ⟨_, rfl, Go.Sh.post_law (tb := 4) laid (by kernel_rfl) hW' rfl rfl rfl rfl (by kernel_rfl) Try.underlying4 hg⟩

theorem over : Rows.walkApartRow.holds Try.pinned (OpenSpec.ofChange Rows.walkApartSpec) :=
  OpenClaim.holds_of_wide 4 Try.f4 rfl rfl rfl rfl rfl rfl rfl ⟨rfl, rfl, rfl, rfl, rfl⟩ rfl rfl rfl rfl rfl (by kernel_rfl) Try.func4 (by kernel_rfl)
    (of_decide_eq_true (by kernel_rfl)) (by unfold Func.isWrapper; first | (rw [if_pos (by decide +kernel)]; kernel_rfl) | (rw [if_neg (by decide +kernel)]; exact ⟨rfl, rfl⟩))
    (fun os started H enc _ => lifted os started H enc)

theorem proved : Rows.WalkApartSaid :=
  over
#print axioms proved
end Go.Proofs.Ythpalblfkpmpeaa.walkApart
