import Derived.Test.YthpalblfkpmpeaaWfA
import Derived.Test.YthpalblfkpmpeaaEnt2
set_option linter.unusedVariables false
namespace Go.Sh.Ythpalblfkpmpeaa
open Go.Proofs Go.Sh Go.RowKit Go.WideShapes Go.ChangeShapes

theorem flat3 : FlatT Try.prog 3 [.int .i64] := FlatT.int Try.underlying3
theorem flat4 : FlatT Try.prog 4 [.bool] := FlatT.bool Try.underlying4
theorem flat23 : FlatT Try.prog 23 [.int .u64] := FlatT.int Try.underlying23
theorem flat32 : FlatT Try.prog 32 [.bool, .bool, .bool, .bool, .bool, .bool, .bool, .bool, .bool, .bool, .bool, .bool, .int .u64] := FlatT.struct Try.underlying32 (by kernel_rfl) ⟨rfl, [.bool], _, rfl, flat4, by kernel_rfl, ⟨rfl, [.bool], _, rfl, flat4, by kernel_rfl, ⟨rfl, [.bool], _, rfl, flat4, by kernel_rfl, ⟨rfl, [.bool], _, rfl, flat4, by kernel_rfl, ⟨rfl, [.bool], _, rfl, flat4, by kernel_rfl, ⟨rfl, [.bool], _, rfl, flat4, by kernel_rfl, ⟨rfl, [.bool], _, rfl, flat4, by kernel_rfl, ⟨rfl, [.bool], _, rfl, flat4, by kernel_rfl, ⟨rfl, [.bool], _, rfl, flat4, by kernel_rfl, ⟨rfl, [.bool], _, rfl, flat4, by kernel_rfl, ⟨rfl, [.bool], _, rfl, flat4, by kernel_rfl, ⟨rfl, [.bool], _, rfl, flat4, by kernel_rfl, ⟨rfl, [.int .u64], _, rfl, flat23, by kernel_rfl, rfl⟩⟩⟩⟩⟩⟩⟩⟩⟩⟩⟩⟩⟩
theorem flat44 : FlatT Try.prog 44 [.int .i64, .int .i64, .bool, .bool, .bool, .bool, .bool, .bool, .bool, .bool, .bool, .bool, .bool, .bool, .int .u64] := FlatT.struct Try.underlying44 (by kernel_rfl) ⟨rfl, [.int .i64], _, rfl, flat3, by kernel_rfl, ⟨rfl, [.int .i64], _, rfl, flat3, by kernel_rfl, ⟨rfl, [.bool, .bool, .bool, .bool, .bool, .bool, .bool, .bool, .bool, .bool, .bool, .bool, .int .u64], _, rfl, flat32, by kernel_rfl, rfl⟩⟩⟩
theorem finds_calls (w : World) {b : Bool} {blk off n c : Nat} {cells : List Value} {root va : Int} (hn : n ≤ c) (hb : b = true → c = 0) (hm : n ≤ maxLen) (hl : cells.length = n * 15) (hc : ∀ j x, cells[j]? = some x → w.cell? ⟨blk, off + j, none⟩ = some x)
    (hf : ∀ i, i < n → Fits layK ((cells.drop (i * 15)).take 15)) (hr : (Lit.int .u64 root).wf = true) (hv : (Lit.int .u64 va).wf = true) :
    Calls Try.prog 3 #[slzV b ⟨blk, off, none⟩ n c, .int .u64 root, .int .u64 va] w fun e w2 => e = .returned (.bool true) ∧ Below w.heap.size w w2 := by
  obtain ⟨A, rfl, rfl, hg⟩ := lays_of hl hf
  obtain ⟨r, gr, rfl⟩ := u64_of hr
  obtain ⟨v, gv, rfl⟩ := u64_of hv
  exact calls_slice (more := [.int .u64 (r : Int), .int .u64 (v : Int)]) (r := .tt) (finds_ok A b c r v hm hg ⟨hn, hb⟩ gr gv) rfl rfl hc layV_one
end Go.Sh.Ythpalblfkpmpeaa
