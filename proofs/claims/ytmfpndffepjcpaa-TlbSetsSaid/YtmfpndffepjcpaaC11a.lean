import Derived.Test.YtmfpndffepjcpaaChecked
import Derived.Test.YtmfpndffepjcpaaTlb3
set_option linter.unusedVariables false
namespace Go.Sh.Ytmfpndffepjcpaa
open Go.Proofs Go.Sh

theorem row3 : TIok Try.prog 3 ⟨.int .i64, 1, 8, .cells [.int .i64 0]⟩ := .of_cells (.int .i64 0) Try.underlying3 (by kernel_rfl) rfl rfl rfl rfl
theorem row4 : TIok Try.prog 4 ⟨.bool, 1, 1, .cells [.ff]⟩ := .of_cells (.bool false) Try.underlying4 (by kernel_rfl) rfl rfl rfl rfl
theorem row22 : TIok Try.prog 22 ⟨.slice 38, 1, 24, .cells [.nilSlice]⟩ := .of_cells (.slice none 0 0) Try.underlying22 (by kernel_rfl) rfl rfl rfl rfl
theorem row23 : TIok Try.prog 23 ⟨.int .u64, 1, 8, .cells [.int .u64 0]⟩ := .of_cells (.int .u64 0) Try.underlying23 (by kernel_rfl) rfl rfl rfl rfl
theorem row25 : TIok Try.prog 25 ⟨(Try.prog.underlying 25 |>.getD .bool), 13, 24, .cells [.ff, .ff, .ff, .ff, .ff, .ff, .ff, .ff, .ff, .ff, .ff, .ff, .int .u64 0]⟩ := .of_cells (.agg #[.bool false, .bool false, .bool false, .bool false, .bool false, .bool false, .bool false, .bool false, .bool false, .bool false, .bool false, .bool false, .int .u64 0]) Try.underlying25 (by kernel_rfl) rfl rfl rfl rfl
theorem row27 : TIok Try.prog 27 ⟨(Try.prog.underlying 27 |>.getD .bool), 14, 32, .cells [.ff, .ff, .ff, .ff, .ff, .ff, .ff, .ff, .ff, .ff, .ff, .ff, .int .u64 0, .int .u64 0]⟩ := .of_cells (.agg #[.bool false, .bool false, .bool false, .bool false, .bool false, .bool false, .bool false, .bool false, .bool false, .bool false, .bool false, .bool false, .int .u64 0, .int .u64 0]) Try.underlying27 (by kernel_rfl) rfl rfl rfl rfl
theorem row29 : TIok Try.prog 29 ⟨(Try.prog.underlying 29 |>.getD .bool), 16, 48, .cells [.int .u64 0, .int .u64 0, .ff, .ff, .ff, .ff, .ff, .ff, .ff, .ff, .ff, .ff, .ff, .ff, .int .u64 0, .int .u64 0]⟩ := .of_cells (.agg #[.int .u64 0, .int .u64 0, .bool false, .bool false, .bool false, .bool false, .bool false, .bool false, .bool false, .bool false, .bool false, .bool false, .bool false, .bool false, .int .u64 0, .int .u64 0]) Try.underlying29 (by kernel_rfl) rfl rfl rfl rfl
theorem row30 : TIok Try.prog 30 ⟨.array 2 29, 32, 96, .cells [.int .u64 0, .int .u64 0, .ff, .ff, .ff, .ff, .ff, .ff, .ff, .ff, .ff, .ff, .ff, .ff, .int .u64 0, .int .u64 0, .int .u64 0, .int .u64 0, .ff, .ff, .ff, .ff, .ff, .ff, .ff, .ff, .ff, .ff, .ff, .ff, .int .u64 0, .int .u64 0]⟩ := .of_cells (.agg #[.int .u64 0, .int .u64 0, .bool false, .bool false, .bool false, .bool false, .bool false, .bool false, .bool false, .bool false, .bool false, .bool false, .bool false, .bool false, .int .u64 0, .int .u64 0, .int .u64 0, .int .u64 0, .bool false, .bool false, .bool false, .bool false, .bool false, .bool false, .bool false, .bool false, .bool false, .bool false, .bool false, .bool false, .int .u64 0, .int .u64 0]) Try.underlying30 (by kernel_rfl) rfl rfl rfl rfl
theorem row32 : TIok Try.prog 32 ⟨(Try.prog.underlying 32 |>.getD .bool), 33, 104, .cells [.int .u64 0, .int .u64 0, .ff, .ff, .ff, .ff, .ff, .ff, .ff, .ff, .ff, .ff, .ff, .ff, .int .u64 0, .int .u64 0, .int .u64 0, .int .u64 0, .ff, .ff, .ff, .ff, .ff, .ff, .ff, .ff, .ff, .ff, .ff, .ff, .int .u64 0, .int .u64 0, .int .i64 0]⟩ := .of_cells (.agg #[.int .u64 0, .int .u64 0, .bool false, .bool false, .bool false, .bool false, .bool false, .bool false, .bool false, .bool false, .bool false, .bool false, .bool false, .bool false, .int .u64 0, .int .u64 0, .int .u64 0, .int .u64 0, .bool false, .bool false, .bool false, .bool false, .bool false, .bool false, .bool false, .bool false, .bool false, .bool false, .bool false, .bool false, .int .u64 0, .int .u64 0, .int .i64 0]) Try.underlying32 (by kernel_rfl) rfl rfl rfl rfl
theorem row33 : TIok Try.prog 33 ⟨.array 4 32, 132, 416, .cells [.int .u64 0, .int .u64 0, .ff, .ff, .ff, .ff, .ff, .ff, .ff, .ff, .ff, .ff, .ff, .ff, .int .u64 0, .int .u64 0, .int .u64 0, .int .u64 0, .ff, .ff, .ff, .ff, .ff, .ff, .ff, .ff, .ff, .ff, .ff, .ff, .int .u64 0, .int .u64 0, .int .i64 0, .int .u64 0, .int .u64 0, .ff, .ff, .ff, .ff, .ff, .ff, .ff, .ff, .ff, .ff, .ff, .ff, .int .u64 0, .int .u64 0, .int .u64 0, .int .u64 0, .ff, .ff, .ff, .ff, .ff, .ff, .ff, .ff, .ff, .ff, .ff, .ff, .int .u64 0, .int .u64 0, .int .i64 0, .int .u64 0, .int .u64 0, .ff, .ff, .ff, .ff, .ff, .ff, .ff, .ff, .ff, .ff, .ff, .ff, .int .u64 0, .int .u64 0, .int .u64 0, .int .u64 0, .ff, .ff, .ff, .ff, .ff, .ff, .ff, .ff, .ff, .ff, .ff, .ff, .int .u64 0, .int .u64 0, .int .i64 0, .int .u64 0, .int .u64 0, .ff, .ff, .ff, .ff, .ff, .ff, .ff, .ff, .ff, .ff, .ff, .ff, .int .u64 0, .int .u64 0, .int .u64 0, .int .u64 0, .ff, .ff, .ff, .ff, .ff, .ff, .ff, .ff, .ff, .ff, .ff, .ff, .int .u64 0, .int .u64 0, .int .i64 0]⟩ := .of_cells (.agg #[.int .u64 0, .int .u64 0, .bool false, .bool false, .bool false, .bool false, .bool false, .bool false, .bool false, .bool false, .bool false, .bool false, .bool false, .bool false, .int .u64 0, .int .u64 0, .int .u64 0, .int .u64 0, .bool false, .bool false, .bool false, .bool false, .bool false, .bool false, .bool false, .bool false, .bool false, .bool false, .bool false, .bool false, .int .u64 0, .int .u64 0, .int .i64 0, .int .u64 0, .int .u64 0, .bool false, .bool false, .bool false, .bool false, .bool false, .bool false, .bool false, .bool false, .bool false, .bool false, .bool false, .bool false, .int .u64 0, .int .u64 0, .int .u64 0, .int .u64 0, .bool false, .bool false, .bool false, .bool false, .bool false, .bool false, .bool false, .bool false, .bool false, .bool false, .bool false, .bool false, .int .u64 0, .int .u64 0, .int .i64 0, .int .u64 0, .int .u64 0, .bool false, .bool false, .bool false, .bool false, .bool false, .bool false, .bool false, .bool false, .bool false, .bool false, .bool false, .bool false, .int .u64 0, .int .u64 0, .int .u64 0, .int .u64 0, .bool false, .bool false, .bool false, .bool false, .bool false, .bool false, .bool false, .bool false, .bool false, .bool false, .bool false, .bool false, .int .u64 0, .int .u64 0, .int .i64 0, .int .u64 0, .int .u64 0, .bool false, .bool false, .bool false, .bool false, .bool false, .bool false, .bool false, .bool false, .bool false, .bool false, .bool false, .bool false, .int .u64 0, .int .u64 0, .int .u64 0, .int .u64 0, .bool false, .bool false, .bool false, .bool false, .bool false, .bool false, .bool false, .bool false, .bool false, .bool false, .bool false, .bool false, .int .u64 0, .int .u64 0, .int .i64 0]) Try.underlying33 (by kernel_rfl) rfl rfl rfl rfl
theorem row35 : TIok Try.prog 35 ⟨(Try.prog.underlying 35 |>.getD .bool), 132, 416, .cells [.int .u64 0, .int .u64 0, .ff, .ff, .ff, .ff, .ff, .ff, .ff, .ff, .ff, .ff, .ff, .ff, .int .u64 0, .int .u64 0, .int .u64 0, .int .u64 0, .ff, .ff, .ff, .ff, .ff, .ff, .ff, .ff, .ff, .ff, .ff, .ff, .int .u64 0, .int .u64 0, .int .i64 0, .int .u64 0, .int .u64 0, .ff, .ff, .ff, .ff, .ff, .ff, .ff, .ff, .ff, .ff, .ff, .ff, .int .u64 0, .int .u64 0, .int .u64 0, .int .u64 0, .ff, .ff, .ff, .ff, .ff, .ff, .ff, .ff, .ff, .ff, .ff, .ff, .int .u64 0, .int .u64 0, .int .i64 0, .int .u64 0, .int .u64 0, .ff, .ff, .ff, .ff, .ff, .ff, .ff, .ff, .ff, .ff, .ff, .ff, .int .u64 0, .int .u64 0, .int .u64 0, .int .u64 0, .ff, .ff, .ff, .ff, .ff, .ff, .ff, .ff, .ff, .ff, .ff, .ff, .int .u64 0, .int .u64 0, .int .i64 0, .int .u64 0, .int .u64 0, .ff, .ff, .ff, .ff, .ff, .ff, .ff, .ff, .ff, .ff, .ff, .ff, .int .u64 0, .int .u64 0, .int .u64 0, .int .u64 0, .ff, .ff, .ff, .ff, .ff, .ff, .ff, .ff, .ff, .ff, .ff, .ff, .int .u64 0, .int .u64 0, .int .i64 0]⟩ := .of_cells (.agg #[.int .u64 0, .int .u64 0, .bool false, .bool false, .bool false, .bool false, .bool false, .bool false, .bool false, .bool false, .bool false, .bool false, .bool false, .bool false, .int .u64 0, .int .u64 0, .int .u64 0, .int .u64 0, .bool false, .bool false, .bool false, .bool false, .bool false, .bool false, .bool false, .bool false, .bool false, .bool false, .bool false, .bool false, .int .u64 0, .int .u64 0, .int .i64 0, .int .u64 0, .int .u64 0, .bool false, .bool false, .bool false, .bool false, .bool false, .bool false, .bool false, .bool false, .bool false, .bool false, .bool false, .bool false, .int .u64 0, .int .u64 0, .int .u64 0, .int .u64 0, .bool false, .bool false, .bool false, .bool false, .bool false, .bool false, .bool false, .bool false, .bool false, .bool false, .bool false, .bool false, .int .u64 0, .int .u64 0, .int .i64 0, .int .u64 0, .int .u64 0, .bool false, .bool false, .bool false, .bool false, .bool false, .bool false, .bool false, .bool false, .bool false, .bool false, .bool false, .bool false, .int .u64 0, .int .u64 0, .int .u64 0, .int .u64 0, .bool false, .bool false, .bool false, .bool false, .bool false, .bool false, .bool false, .bool false, .bool false, .bool false, .bool false, .bool false, .int .u64 0, .int .u64 0, .int .i64 0, .int .u64 0, .int .u64 0, .bool false, .bool false, .bool false, .bool false, .bool false, .bool false, .bool false, .bool false, .bool false, .bool false, .bool false, .bool false, .int .u64 0, .int .u64 0, .int .u64 0, .int .u64 0, .bool false, .bool false, .bool false, .bool false, .bool false, .bool false, .bool false, .bool false, .bool false, .bool false, .bool false, .bool false, .int .u64 0, .int .u64 0, .int .i64 0]) Try.underlying35 (by kernel_rfl) rfl rfl rfl rfl
theorem row38 : TIok Try.prog 38 ⟨(Try.prog.underlying 38 |>.getD .bool), 5, 40, .cells [.int .i64 0, .int .i64 0, .int .u64 0, .int .u64 0, .int .u64 0]⟩ := .of_cells (.agg #[.int .i64 0, .int .i64 0, .int .u64 0, .int .u64 0, .int .u64 0]) Try.underlying38 (by kernel_rfl) rfl rfl rfl rfl
theorem row40 : TIok Try.prog 40 ⟨.array 4 3, 4, 32, .cells [.int .i64 0, .int .i64 0, .int .i64 0, .int .i64 0]⟩ := .of_cells (.agg #[.int .i64 0, .int .i64 0, .int .i64 0, .int .i64 0]) Try.underlying40 (by kernel_rfl) rfl rfl rfl rfl
theorem row41 : TIok Try.prog 41 ⟨.slice 29, 1, 24, .cells [.nilSlice]⟩ := .of_cells (.slice none 0 0) Try.underlying41 (by kernel_rfl) rfl rfl rfl rfl
theorem row48 : TIok Try.prog 48 ⟨.slice 51, 1, 24, .cells [.nilSlice]⟩ := .of_cells (.slice none 0 0) Try.underlying48 (by kernel_rfl) rfl rfl rfl rfl
theorem row51 : TIok Try.prog 51 ⟨(Try.prog.underlying 51 |>.getD .bool), 3, 24, .cells [.int .u64 0, .int .u64 0, .int .u64 0]⟩ := .of_cells (.agg #[.int .u64 0, .int .u64 0, .int .u64 0]) Try.underlying51 (by kernel_rfl) rfl rfl rfl rfl
theorem row62 : TIok Try.prog 62 ⟨.map 64 23, 1, 8, .cells [.nilMap]⟩ := .of_cells (.map none) Try.underlying62 (by kernel_rfl) rfl rfl rfl rfl
theorem row64 : TIok Try.prog 64 ⟨(Try.prog.underlying 64 |>.getD .bool), 2, 16, .cells [.int .u64 0, .int .u64 0]⟩ := .of_cells (.agg #[.int .u64 0, .int .u64 0]) Try.underlying64 (by kernel_rfl) rfl rfl rfl rfl
theorem row65 : TIok Try.prog 65 ⟨.map 64 4, 1, 8, .cells [.nilMap]⟩ := .of_cells (.map none) Try.underlying65 (by kernel_rfl) rfl rfl rfl rfl
theorem row67 : TIok Try.prog 67 ⟨.pointer 35, 1, 8, .cells [.nil]⟩ := .of_cells (.pointer none) Try.underlying67 (by kernel_rfl) rfl rfl rfl rfl
theorem row68 : TIok Try.prog 68 ⟨.pointer 32, 1, 8, .cells [.nil]⟩ := .of_cells (.pointer none) Try.underlying68 (by kernel_rfl) rfl rfl rfl rfl
noncomputable def tab : Tab := [(3, ⟨.int .i64, 1, 8, .cells [.int .i64 0]⟩), (4, ⟨.bool, 1, 1, .cells [.ff]⟩), (22, ⟨.slice 38, 1, 24, .cells [.nilSlice]⟩), (23, ⟨.int .u64, 1, 8, .cells [.int .u64 0]⟩), (25, ⟨(Try.prog.underlying 25 |>.getD .bool), 13, 24, .cells [.ff, .ff, .ff, .ff, .ff, .ff, .ff, .ff, .ff, .ff, .ff, .ff, .int .u64 0]⟩), (27, ⟨(Try.prog.underlying 27 |>.getD .bool), 14, 32, .cells [.ff, .ff, .ff, .ff, .ff, .ff, .ff, .ff, .ff, .ff, .ff, .ff, .int .u64 0, .int .u64 0]⟩), (29, ⟨(Try.prog.underlying 29 |>.getD .bool), 16, 48, .cells [.int .u64 0, .int .u64 0, .ff, .ff, .ff, .ff, .ff, .ff, .ff, .ff, .ff, .ff, .ff, .ff, .int .u64 0, .int .u64 0]⟩), (30, ⟨.array 2 29, 32, 96, .cells [.int .u64 0, .int .u64 0, .ff, .ff, .ff, .ff, .ff, .ff, .ff, .ff, .ff, .ff, .ff, .ff, .int .u64 0, .int .u64 0, .int .u64 0, .int .u64 0, .ff, .ff, .ff, .ff, .ff, .ff, .ff, .ff, .ff, .ff, .ff, .ff, .int .u64 0, .int .u64 0]⟩), (32, ⟨(Try.prog.underlying 32 |>.getD .bool), 33, 104, .cells [.int .u64 0, .int .u64 0, .ff, .ff, .ff, .ff, .ff, .ff, .ff, .ff, .ff, .ff, .ff, .ff, .int .u64 0, .int .u64 0, .int .u64 0, .int .u64 0, .ff, .ff, .ff, .ff, .ff, .ff, .ff, .ff, .ff, .ff, .ff, .ff, .int .u64 0, .int .u64 0, .int .i64 0]⟩), (33, ⟨.array 4 32, 132, 416, .cells [.int .u64 0, .int .u64 0, .ff, .ff, .ff, .ff, .ff, .ff, .ff, .ff, .ff, .ff, .ff, .ff, .int .u64 0, .int .u64 0, .int .u64 0, .int .u64 0, .ff, .ff, .ff, .ff, .ff, .ff, .ff, .ff, .ff, .ff, .ff, .ff, .int .u64 0, .int .u64 0, .int .i64 0, .int .u64 0, .int .u64 0, .ff, .ff, .ff, .ff, .ff, .ff, .ff, .ff, .ff, .ff, .ff, .ff, .int .u64 0, .int .u64 0, .int .u64 0, .int .u64 0, .ff, .ff, .ff, .ff, .ff, .ff, .ff, .ff, .ff, .ff, .ff, .ff, .int .u64 0, .int .u64 0, .int .i64 0, .int .u64 0, .int .u64 0, .ff, .ff, .ff, .ff, .ff, .ff, .ff, .ff, .ff, .ff, .ff, .ff, .int .u64 0, .int .u64 0, .int .u64 0, .int .u64 0, .ff, .ff, .ff, .ff, .ff, .ff, .ff, .ff, .ff, .ff, .ff, .ff, .int .u64 0, .int .u64 0, .int .i64 0, .int .u64 0, .int .u64 0, .ff, .ff, .ff, .ff, .ff, .ff, .ff, .ff, .ff, .ff, .ff, .ff, .int .u64 0, .int .u64 0, .int .u64 0, .int .u64 0, .ff, .ff, .ff, .ff, .ff, .ff, .ff, .ff, .ff, .ff, .ff, .ff, .int .u64 0, .int .u64 0, .int .i64 0]⟩), (35, ⟨(Try.prog.underlying 35 |>.getD .bool), 132, 416, .cells [.int .u64 0, .int .u64 0, .ff, .ff, .ff, .ff, .ff, .ff, .ff, .ff, .ff, .ff, .ff, .ff, .int .u64 0, .int .u64 0, .int .u64 0, .int .u64 0, .ff, .ff, .ff, .ff, .ff, .ff, .ff, .ff, .ff, .ff, .ff, .ff, .int .u64 0, .int .u64 0, .int .i64 0, .int .u64 0, .int .u64 0, .ff, .ff, .ff, .ff, .ff, .ff, .ff, .ff, .ff, .ff, .ff, .ff, .int .u64 0, .int .u64 0, .int .u64 0, .int .u64 0, .ff, .ff, .ff, .ff, .ff, .ff, .ff, .ff, .ff, .ff, .ff, .ff, .int .u64 0, .int .u64 0, .int .i64 0, .int .u64 0, .int .u64 0, .ff, .ff, .ff, .ff, .ff, .ff, .ff, .ff, .ff, .ff, .ff, .ff, .int .u64 0, .int .u64 0, .int .u64 0, .int .u64 0, .ff, .ff, .ff, .ff, .ff, .ff, .ff, .ff, .ff, .ff, .ff, .ff, .int .u64 0, .int .u64 0, .int .i64 0, .int .u64 0, .int .u64 0, .ff, .ff, .ff, .ff, .ff, .ff, .ff, .ff, .ff, .ff, .ff, .ff, .int .u64 0, .int .u64 0, .int .u64 0, .int .u64 0, .ff, .ff, .ff, .ff, .ff, .ff, .ff, .ff, .ff, .ff, .ff, .ff, .int .u64 0, .int .u64 0, .int .i64 0]⟩), (38, ⟨(Try.prog.underlying 38 |>.getD .bool), 5, 40, .cells [.int .i64 0, .int .i64 0, .int .u64 0, .int .u64 0, .int .u64 0]⟩), (40, ⟨.array 4 3, 4, 32, .cells [.int .i64 0, .int .i64 0, .int .i64 0, .int .i64 0]⟩), (41, ⟨.slice 29, 1, 24, .cells [.nilSlice]⟩), (48, ⟨.slice 51, 1, 24, .cells [.nilSlice]⟩), (51, ⟨(Try.prog.underlying 51 |>.getD .bool), 3, 24, .cells [.int .u64 0, .int .u64 0, .int .u64 0]⟩), (62, ⟨.map 64 23, 1, 8, .cells [.nilMap]⟩), (64, ⟨(Try.prog.underlying 64 |>.getD .bool), 2, 16, .cells [.int .u64 0, .int .u64 0]⟩), (65, ⟨.map 64 4, 1, 8, .cells [.nilMap]⟩), (67, ⟨.pointer 35, 1, 8, .cells [.nil]⟩), (68, ⟨.pointer 32, 1, 8, .cells [.nil]⟩)]
theorem tabOk : TabOk Try.prog tab := .cons row3 <| .cons row4 <| .cons row22 <| .cons row23 <| .cons row25 <| .cons row27 <| .cons row29 <| .cons row30 <| .cons row32 <| .cons row33 <| .cons row35 <| .cons row38 <| .cons row40 <| .cons row41 <| .cons row48 <| .cons row51 <| .cons row62 <| .cons row64 <| .cons row65 <| .cons row67 <| .cons row68 <| .nil _


theorem take1_ok (a : Ln) : Spec Try.prog 24 [.ptr 0 0, .int .i64 0] [(0, .cells (setC [a]))] 1 fun v H' _ => (∀ ρ, v.val ρ = (SV.tup []).val ρ) ∧ subH [(0, .cells (setC []))] H' := by
  refine Spec.of_body tabOk Try.func24 rfl (ent Try.func24 rfl (by kernel_rfl)) Try.ntmps24 rfl (by kernel_rfl) (Nat.le_of_ble_eq_true rfl) ?_
  conv => whnf
  refine CodeL.draw tabOk Try.checked.mixed 15 (by kernel_rfl) rfl ?_
  conv => whnf
  refine VL.qop rfl (VL.slice tabOk ?_)
  conv => whnf
  refine ⟨0, 2, 2, rfl, rfl, rfl, rfl, by decide, by decide, by decide, ?_⟩
  conv => whnf
  refine VL.qop rfl (VL.slice tabOk ?_)
  conv => whnf
  refine ⟨0 + 1, 1, 2, rfl, rfl, rfl, rfl, by decide, by decide, by decide, ?_⟩
  conv => whnf
  refine OpL.copy tabOk ?_
  conv => whnf
  refine ⟨.cells (setC [a]), fun _ => [], ?_, fun _ => ⟨rfl, rfl⟩, fun N _ _ => closed_Ins rfl N, rfl, rfl, rfl, fun ρ => ⟨by show _ ≤ 33; decide, rfl⟩⟩
  conv => whnf
  refine CodeL.draw tabOk Try.checked.mixed 9 (by kernel_rfl) rfl ?_
  conv => whnf
  refine .here (1 - 1) rfl (by decide) ?_
  conv => whnf
  exact ⟨fun _ => rfl, rfl, trivial⟩
theorem take20_ok (a b : Ln) : Spec Try.prog 24 [.ptr 0 0, .int .i64 0] [(0, .cells (setC [a, b]))] 1 fun v H' _ => (∀ ρ, v.val ρ = (SV.tup []).val ρ) ∧ subH [(0, .cells (setC [b]))] H' := by
  refine Spec.of_body tabOk Try.func24 rfl (ent Try.func24 rfl (by kernel_rfl)) Try.ntmps24 rfl (by kernel_rfl) (Nat.le_of_ble_eq_true rfl) ?_
  conv => whnf
  refine CodeL.draw tabOk Try.checked.mixed 15 (by kernel_rfl) rfl ?_
  conv => whnf
  refine VL.qop rfl (VL.slice tabOk ?_)
  conv => whnf
  refine ⟨0, 2, 2, rfl, rfl, rfl, rfl, by decide, by decide, by decide, ?_⟩
  conv => whnf
  refine VL.qop rfl (VL.slice tabOk ?_)
  conv => whnf
  refine ⟨0 + 1, 2, 2, rfl, rfl, rfl, rfl, by decide, by decide, by decide, ?_⟩
  conv => whnf
  refine OpL.copy tabOk ?_
  conv => whnf
  refine ⟨.cells (setC [b, b]), fun _ => lnV b, ?_, fun _ => ⟨rfl, rfl⟩, fun N _ _ => closed_Ins rfl N, rfl, rfl, rfl, fun ρ => ⟨by show _ ≤ 33; decide, rfl⟩⟩
  conv => whnf
  refine CodeL.draw tabOk Try.checked.mixed 9 (by kernel_rfl) rfl ?_
  conv => whnf
  refine .here (2 - 1) rfl (by decide) ?_
  conv => whnf
  exact ⟨fun _ => rfl, rfl, trivial⟩
theorem take21_ok (a b : Ln) : Spec Try.prog 24 [.ptr 0 0, .int .i64 1] [(0, .cells (setC [a, b]))] 1 fun v H' _ => (∀ ρ, v.val ρ = (SV.tup []).val ρ) ∧ subH [(0, .cells (setC [a]))] H' := by
  refine Spec.of_body tabOk Try.func24 rfl (ent Try.func24 rfl (by kernel_rfl)) Try.ntmps24 rfl (by kernel_rfl) (Nat.le_of_ble_eq_true rfl) ?_
  conv => whnf
  refine CodeL.draw tabOk Try.checked.mixed 15 (by kernel_rfl) rfl ?_
  conv => whnf
  refine VL.qop rfl (VL.slice tabOk ?_)
  conv => whnf
  refine ⟨1, 2, 2, rfl, rfl, rfl, rfl, by decide, by decide, by decide, ?_⟩
  conv => whnf
  refine VL.qop rfl (VL.slice tabOk ?_)
  conv => whnf
  refine ⟨1 + 1, 2, 2, rfl, rfl, rfl, rfl, by decide, by decide, by decide, ?_⟩
  conv => whnf
  refine OpL.copy tabOk ?_
  conv => whnf
  refine ⟨.cells (setC [a, b]), fun _ => [], ?_, fun _ => ⟨rfl, rfl⟩, fun N _ _ => closed_Ins rfl N, rfl, rfl, rfl, fun ρ => ⟨by show _ ≤ 33; decide, rfl⟩⟩
  conv => whnf
  refine CodeL.draw tabOk Try.checked.mixed 9 (by kernel_rfl) rfl ?_
  conv => whnf
  refine .here (2 - 1) rfl (by decide) ?_
  conv => whnf
  exact ⟨fun _ => rfl, rfl, trivial⟩
end Go.Sh.Ytmfpndffepjcpaa
