import Derived.Test.YtmfpndffepjcpaaC11i
set_option linter.unusedVariables false
namespace Go.Sh.Ytmfpndffepjcpaa
open Go.Proofs Go.Sh Go.RowKit

theorem flat3 : FlatT Try.prog 3 [.int .i64] := FlatT.int Try.underlying3
theorem flat23 : FlatT Try.prog 23 [.int .u64] := FlatT.int Try.underlying23
theorem flat38 : FlatT Try.prog 38 [.int .i64, .int .i64, .int .u64, .int .u64, .int .u64] := FlatT.struct Try.underlying38 (by kernel_rfl) ⟨rfl, [.int .i64], _, rfl, flat3, by kernel_rfl, ⟨rfl, [.int .i64], _, rfl, flat3, by kernel_rfl, ⟨rfl, [.int .u64], _, rfl, flat23, by kernel_rfl, ⟨rfl, [.int .u64], _, rfl, flat23, by kernel_rfl, ⟨rfl, [.int .u64], _, rfl, flat23, by kernel_rfl, rfl⟩⟩⟩⟩⟩
theorem acts_of {n : Nat} {cells : List Value} (hl : cells.length = n * 5) (hf : ∀ i, i < n → Fits [.int .i64, .int .i64, .int .u64, .int .u64, .int .u64] ((cells.drop (i * 5)).take 5)) : ∃ A : List Act, A.length = n ∧ cells = actsV A ∧ ∀ a ∈ A, a.good := by
  refine rows_of actV Act.good hl fun i hi => ?_
  have h := hf i hi
  have hlen : ((cells.drop (i * 5)).take 5).length = 5 := by simp; omega
  generalize (cells.drop (i * 5)).take 5 = l at h hlen
  match l, hlen, h with
  | [c0, c1, c2, c3, c4], _, h =>
    obtain ⟨⟨n0, rfl, _⟩, ⟨n1, rfl, _⟩, ⟨n2, rfl, h2⟩, ⟨n3, rfl, h3⟩, ⟨n4, rfl, h4⟩, _⟩ := h
    refine ⟨⟨n0, n1, n2, n3, n4⟩, rfl, ?_⟩
    simp only [Lit.wf, Bool.and_eq_true, IntKind.min, IntKind.max, IntKind.bits, IntKind.signed] at h2 h3 h4
    simp at h2 h3 h4
    exact ⟨by show 0 ≤ n2; omega, by show 0 ≤ n3; omega, by show n3 < _; omega, by show 0 ≤ n4; omega⟩
theorem actV_one {A : List Act} : ∀ x ∈ actsV A, x.oneCell' = true := fun x hx => by
  obtain ⟨a, _, h⟩ := List.mem_flatMap.1 hx
  simp only [actV, List.mem_cons, List.not_mem_nil, or_false] at h
  rcases h with rfl | rfl | rfl | rfl | rfl <;> rfl

theorem plays_calls (w : World) {b : Bool} {blk off n c : Nat} {cells : List Value} (hm : n ≤ maxLen) (hl : cells.length = n * 5) (hc : ∀ j x, cells[j]? = some x → w.cell? ⟨blk, off + j, none⟩ = some x)
    (hf : ∀ i, i < n → Fits [.int .i64, .int .i64, .int .u64, .int .u64, .int .u64] ((cells.drop (i * 5)).take 5)) :
    Calls Try.prog 4 #[slzV b ⟨blk, off, none⟩ n c] w fun e w2 => e = .returned (.bool true) ∧ Below w.heap.size w w2 := by
  obtain ⟨A, rfl, rfl, hg⟩ := acts_of hl hf
  exact calls_slice (more := []) (r := .tt) (plays_ok A b c hm hg) rfl rfl hc actV_one
end Go.Sh.Ytmfpndffepjcpaa
