import Derived.Test.YtmfpndffepjcpaaRows
import Derived.Test.YtmfpndffepjcpaaC11N
import Derived.ProofKit
import Derived.OpenShut
namespace Go.Proofs.Ytmfpndffepjcpaa.tlbLast
open Go.ChangeShapes Go.WideShapes Go.ChangeAt Go.RowKit
set_option linter.unusedVariables false

theorem own : ownKnob Try.prog.godebug = none := by kernel_rfl
theorem laid : laidOutB Try.prog = true := by kernel_rfl

theorem walk (w : World) (b0 : Bool) (blk0 off0 n0 c0 : Nat) (cs0 : List Value) (hn0 : n0 ≤ c0) (hb0 : b0 = true → c0 = 0) (hm0 : n0 ≤ maxLen) (hl0 : cs0.length = n0 * 5) (hc0 : ∀ j x, cs0[j]? = some x → w.cell? ⟨blk0, off0 + j, none⟩ = some x) (hf0 : ∀ i, i < n0 → Go.Sh.Fits [.int .i64, .int .i64, .int .u64, .int .u64, .int .u64] ((cs0.drop (i * 5)).take 5)) :
    Calls Try.prog 5 #[Go.Sh.slzV b0 ⟨blk0, off0, none⟩ n0 c0] w fun e w2 => e = .returned (.bool true) ∧ Below w.heap.size w w2 := by
  exact Go.Sh.Ytmfpndffepjcpaa.last_calls w hm0 hl0 hc0 hf0

set_option maxHeartbeats 1000000 in
set_option maxRecDepth 100000 in
theorem lifted (os : Os) (started : os.Started) (H : Type) (enc : TypeId × Value → H) :
    ReturnsInHanded {} Try.checked os 5 .any (Rows.tlbLastSpec.pre6 enc Try.prog Try.f5 Rows.tlbLastRow.domain false) (Rows.tlbLastSpec.post enc Try.prog Try.f5 false true false false) := by
  refine returnsInHanded_of_change (C := Try.checked) own started (by kernel_rfl) Try.func5
    (ChangeSpec.witness6 (enc := enc) (C := Try.checked) false ⟨#[], #[.slice none 0 0], []⟩ 8 (by kernel_rfl) (by kernel_rfl) (by kernel_rfl) (by kernel_rfl)) ?_
  intro W base args ds gs before hval0 hW hcnd _
  have hval : ∀ (j : Nat) t v, Try.f5.params[j]? = some t → args[j]? = some v → Value.okWide Try.prog W .any base t v := hval0
  have hW' := hW
  obtain ⟨p, q, hA0, hV, rfl, hfz, hnd⟩ := hW
  have hA : DataW.TrodAll enc Try.prog W 0 (fun _ => true) true Try.f5.params.toList args.toList ds p := hA0
  rw [Try.params5] at hA hval
  obtain ⟨v0, vs0, d0, ds0, p0, q0, hargs, rfl, rfl, h0, r0⟩ := trodAll_cons hA
  obtain ⟨rfl, rfl, rfl⟩ := trodAll_nil r0
  obtain rfl : args = #[v0] := by cases args; simp_all
  obtain ⟨rfl, rfl⟩ := trodVars_none hV
  obtain ⟨b0, blk0, off0, n0, c0, cs0, rfl, hn0, hb0, hm0, hl0, hc0, hf0⟩ := Go.Sh.open_slice Try.underlying22 Go.Sh.Ytmfpndffepjcpaa.flat38 (by kernel_rfl) (hval 0 22 v0 rfl rfl) h0
  clear hA0 hval0
  refine (walk W b0 blk0 off0 n0 c0 cs0 hn0 hb0 hm0 hl0 hc0 hf0).mono fun e W2 ⟨he, hg⟩ => ?_
  subst he
  exact ⟨_, rfl, Go.Sh.post_law (tb := 4) laid (by kernel_rfl) hW' rfl rfl rfl rfl (by kernel_rfl) Try.underlying4 hg⟩

theorem over : Rows.tlbLastRow.holds Try.pinned (OpenSpec.ofChange Rows.tlbLastSpec) :=
  OpenClaim.holds_of_wide 5 Try.f5 rfl rfl rfl rfl rfl rfl rfl ⟨rfl, rfl, rfl, rfl, rfl⟩ rfl rfl rfl rfl rfl (by kernel_rfl) Try.func5 (by kernel_rfl)
    (of_decide_eq_true (by kernel_rfl)) (by unfold Func.isWrapper; first | (rw [if_pos (by decide +kernel)]; kernel_rfl) | (rw [if_neg (by decide +kernel)]; exact ⟨rfl, rfl⟩))
    (fun os started H enc _ => lifted os started H enc)

theorem proved : Rows.TlbLastSaid :=
  over
#print axioms proved
end Go.Proofs.Ytmfpndffepjcpaa.tlbLast
