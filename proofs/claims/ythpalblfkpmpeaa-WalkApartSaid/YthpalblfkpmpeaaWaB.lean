import Derived.Test.YthpalblfkpmpeaaWaA
set_option linter.unusedVariables false
namespace Go.Sh.Ythpalblfkpmpeaa
open Go.Proofs Go.Sh Go.RowKit Go.WideShapes Go.ChangeShapes

theorem flat3 : FlatT Try.prog 3 [.int .i64] := FlatT.int Try.underlying3
theorem flat4 : FlatT Try.prog 4 [.bool] := FlatT.bool Try.underlying4
theorem flat23 : FlatT Try.prog 23 [.int .u64] := FlatT.int Try.underlying23
theorem flat32 : FlatT Try.prog 32 [.bool, .bool, .bool, .bool, .bool, .bool, .bool, .bool, .bool, .bool, .bool, .bool, .int .u64] := FlatT.struct Try.underlying32 (by kernel_rfl) ⟨rfl, [.bool], _, rfl, flat4, by kernel_rfl, ⟨rfl, [.bool], _, rfl, flat4, by kernel_rfl, ⟨rfl, [.bool], _, rfl, flat4, by kernel_rfl, ⟨rfl, [.bool], _, rfl, flat4, by kernel_rfl, ⟨rfl, [.bool], _, rfl, flat4, by kernel_rfl, ⟨rfl, [.bool], _, rfl, flat4, by kernel_rfl, ⟨rfl, [.bool], _, rfl, flat4, by kernel_rfl, ⟨rfl, [.bool], _, rfl, flat4, by kernel_rfl, ⟨rfl, [.bool], _, rfl, flat4, by kernel_rfl, ⟨rfl, [.bool], _, rfl, flat4, by kernel_rfl, ⟨rfl, [.bool], _, rfl, flat4, by kernel_rfl, ⟨rfl, [.bool], _, rfl, flat4, by kernel_rfl, ⟨rfl, [.int .u64], _, rfl, flat23, by kernel_rfl, rfl⟩⟩⟩⟩⟩⟩⟩⟩⟩⟩⟩⟩⟩
theorem flat44 : FlatT Try.prog 44 [.int .i64, .int .i64, .bool, .bool, .bool, .bool, .bool, .bool, .bool, .bool, .bool, .bool, .bool, .bool, .int .u64] := FlatT.struct Try.underlying44 (by kernel_rfl) ⟨rfl, [.int .i64], _, rfl, flat3, by kernel_rfl, ⟨rfl, [.int .i64], _, rfl, flat3, by kernel_rfl, ⟨rfl, [.bool, .bool, .bool, .bool, .bool, .bool, .bool, .bool, .bool, .bool, .bool, .bool, .int .u64], _, rfl, flat32, by kernel_rfl, rfl⟩⟩⟩
theorem apart_calls (w : World) {b : Bool} {blk off n c : Nat} {cells l : List Value} {h0 h1 : Int} (hn : n ≤ c) (hb : b = true → c = 0) (hm : n ≤ maxLen) (hl : cells.length = n * 15) (hc : ∀ j x, cells[j]? = some x → w.cell? ⟨blk, off + j, none⟩ = some x)
    (hf : ∀ i, i < n → Fits layK ((cells.drop (i * 15)).take 15)) (hf2 : Fits entK l) :
    Calls Try.prog 4 #[slzV b ⟨blk, off, none⟩ n c, .agg #[.int .i64 h0, .int .i64 h1], .agg ⟨l⟩] w fun e w2 => e = .returned (.bool true) ∧ Below w.heap.size w w2 := by
  obtain ⟨A, rfl, rfl, hg⟩ := lays_of hl hf
  obtain ⟨e, he, rfl⟩ := ent_of hf2
  exact calls_slice (more := [.agg [.int .i64 h0, .int .i64 h1], .agg (entC e)]) (r := .tt) (apart_ok A b c h0 h1 e hm hg ⟨hn, hb⟩ he) rfl rfl hc layV_one
end Go.Sh.Ythpalblfkpmpeaa
