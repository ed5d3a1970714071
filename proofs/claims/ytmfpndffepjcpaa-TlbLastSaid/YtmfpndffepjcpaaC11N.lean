import Derived.Test.YtmfpndffepjcpaaMF
import Derived.Test.YtmfpndffepjcpaaME
set_option linter.unusedVariables false
namespace Go.Sh.Ytmfpndffepjcpaa
open Go.Proofs Go.Sh Go.RowKit

theorem last_calls (w : World) {b : Bool} {blk off n c : Nat} {cells : List Value} (hm : n ≤ maxLen) (hl : cells.length = n * 5) (hc : ∀ j x, cells[j]? = some x → w.cell? ⟨blk, off + j, none⟩ = some x)
    (hf : ∀ i, i < n → Fits [.int .i64, .int .i64, .int .u64, .int .u64, .int .u64] ((cells.drop (i * 5)).take 5)) :
    Calls Try.prog 5 #[slzV b ⟨blk, off, none⟩ n c] w fun e w2 => e = .returned (.bool true) ∧ Below w.heap.size w w2 := by
  obtain ⟨A, rfl, rfl, hg⟩ := acts_of hl hf
  exact calls_slice (more := []) (r := .tt) (last_ok A b c hm hg) rfl rfl hc actV_one
end Go.Sh.Ytmfpndffepjcpaa
