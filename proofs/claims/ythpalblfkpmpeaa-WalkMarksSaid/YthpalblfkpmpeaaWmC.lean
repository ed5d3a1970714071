import Derived.Test.YthpalblfkpmpeaaWmB
import Derived.Test.YthpalblfkpmpeaaEnt2
import Derived.Test.YthpalblfkpmpeaaSh32
set_option linter.unusedVariables false
namespace Go.Sh.Ythpalblfkpmpeaa
open Go.Proofs Go.Sh Go.RowKit Go.WideShapes Go.ChangeShapes

theorem flat3 : FlatT Try.prog 3 [.int .i64] := FlatT.int Try.underlying3
theorem flat4 : FlatT Try.prog 4 [.bool] := FlatT.bool Try.underlying4
theorem flat23 : FlatT Try.prog 23 [.int .u64] := FlatT.int Try.underlying23
theorem flat32 : FlatT Try.prog 32 [.bool, .bool, .bool, .bool, .bool, .bool, .bool, .bool, .bool, .bool, .bool, .bool, .int .u64] := FlatT.struct Try.underlying32 (by kernel_rfl) ⟨rfl, [.bool], _, rfl, flat4, by kernel_rfl, ⟨rfl, [.bool], _, rfl, flat4, by kernel_rfl, ⟨rfl, [.bool], _, rfl, flat4, by kernel_rfl, ⟨rfl, [.bool], _, rfl, flat4, by kernel_rfl, ⟨rfl, [.bool], _, rfl, flat4, by kernel_rfl, ⟨rfl, [.bool], _, rfl, flat4, by kernel_rfl, ⟨rfl, [.bool], _, rfl, flat4, by kernel_rfl, ⟨rfl, [.bool], _, rfl, flat4, by kernel_rfl, ⟨rfl, [.bool], _, rfl, flat4, by kernel_rfl, ⟨rfl, [.bool], _, rfl, flat4, by kernel_rfl, ⟨rfl, [.bool], _, rfl, flat4, by kernel_rfl, ⟨rfl, [.bool], _, rfl, flat4, by kernel_rfl, ⟨rfl, [.int .u64], _, rfl, flat23, by kernel_rfl, rfl⟩⟩⟩⟩⟩⟩⟩⟩⟩⟩⟩⟩⟩
theorem flat44 : FlatT Try.prog 44 [.int .i64, .int .i64, .bool, .bool, .bool, .bool, .bool, .bool, .bool, .bool, .bool, .bool, .bool, .bool, .int .u64] := FlatT.struct Try.underlying44 (by kernel_rfl) ⟨rfl, [.int .i64], _, rfl, flat3, by kernel_rfl, ⟨rfl, [.int .i64], _, rfl, flat3, by kernel_rfl, ⟨rfl, [.bool, .bool, .bool, .bool, .bool, .bool, .bool, .bool, .bool, .bool, .bool, .bool, .int .u64], _, rfl, flat32, by kernel_rfl, rfl⟩⟩⟩
theorem marks_calls (w : World) {b : Bool} {blk off n c : Nat} {cells : List Value} {va h0 h1 : Int} (hn : n ≤ c) (hb : b = true → c = 0) (hm : n ≤ maxLen) (hl : cells.length = n * 15) (hc : ∀ j x, cells[j]? = some x → w.cell? ⟨blk, off + j, none⟩ = some x)
    (hf : ∀ i, i < n → Fits layK ((cells.drop (i * 15)).take 15)) (hv : (Lit.int .u64 va).wf = true) :
    Calls Try.prog 7 #[slzV b ⟨blk, off, none⟩ n c, .int .u64 va, .agg #[.int .i64 h0, .int .i64 h1]] w fun e w2 => e = .returned (.bool true) ∧ Below w.heap.size w w2 := by
  obtain ⟨A, rfl, rfl, hg⟩ := lays_of hl hf
  obtain ⟨v, gv, rfl⟩ := u64_of hv
  exact calls_slice (more := [.int .u64 (v : Int), .agg [.int .i64 h0, .int .i64 h1]]) (r := .tt) (marks_ok A b c v h0 h1 hm hg ⟨hn, hb⟩ gv) rfl rfl hc layV_one
end Go.Sh.Ythpalblfkpmpeaa
