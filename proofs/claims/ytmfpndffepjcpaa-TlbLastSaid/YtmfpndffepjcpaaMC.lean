import Derived.Test.YtmfpndffepjcpaaChecked
import Derived.Test.YtmfpndffepjcpaaML
set_option linter.unusedVariables false
namespace Go.Sh.Ytmfpndffepjcpaa
open Go.Proofs Go.Sh

theorem row3 : TIok Try.prog 3 ⟨.int .i64, 1, 8, .cells [.int .i64 0]⟩ := .of_cells (.int .i64 0) Try.underlying3 (by kernel_rfl) rfl rfl rfl rfl
theorem row4 : TIok Try.prog 4 ⟨.bool, 1, 1, .cells [.ff]⟩ := .of_cells (.bool false) Try.underlying4 (by kernel_rfl) rfl rfl rfl rfl
theorem row22 : TIok Try.prog 22 ⟨.slice 38, 1, 24, .cells [.nilSlice]⟩ := .of_cells (.slice none 0 0) Try.underlying22 (by kernel_rfl) rfl rfl rfl rfl
theorem row23 : TIok Try.prog 23 ⟨.int .u64, 1, 8, .cells [.int .u64 0]⟩ := .of_cells (.int .u64 0) Try.underlying23 (by kernel_rfl) rfl rfl rfl rfl
theorem row25 : TIok Try.prog 25 ⟨.struct #[⟨ "Valid", 4, 0, false, "", "", 0⟩, ⟨ "Read", 4, 1, false, "", "", 1⟩, ⟨ "Write", 4, 2, false, "", "", 2⟩, ⟨ "Exec", 4, 3, false, "", "", 3⟩, ⟨ "User", 4, 4, false, "", "", 4⟩, ⟨ "Global", 4, 5, false, "", "", 5⟩, ⟨ "Accessed", 4, 6, false, "", "", 6⟩, ⟨ "Dirty", 4, 7, false, "", "", 7⟩, ⟨ "CapWrite", 4, 8, false, "", "", 8⟩, ⟨ "CapRead", 4, 9, false, "", "", 9⟩, ⟨ "CapDirty", 4, 10, false, "", "", 10⟩, ⟨ "Gen", 4, 11, false, "", "", 11⟩, ⟨ "Frame", 23, 12, false, "", "", 16⟩], 13, 24, .cells [.ff, .ff, .ff, .ff, .ff, .ff, .ff, .ff, .ff, .ff, .ff, .ff, .int .u64 0]⟩ := .of_cells (.agg #[.bool false, .bool false, .bool false, .bool false, .bool false, .bool false, .bool false, .bool false, .bool false, .bool false, .bool false, .bool false, .int .u64 0]) Try.underlying25 (by kernel_rfl) rfl rfl rfl rfl
theorem row27 : TIok Try.prog 27 ⟨.struct #[⟨ "Entry", 25, 0, false, "", "", 0⟩, ⟨ "At", 23, 13, false, "", "", 24⟩], 14, 32, .cells [.ff, .ff, .ff, .ff, .ff, .ff, .ff, .ff, .ff, .ff, .ff, .ff, .int .u64 0, .int .u64 0]⟩ := .of_cells (.agg #[.bool false, .bool false, .bool false, .bool false, .bool false, .bool false, .bool false, .bool false, .bool false, .bool false, .bool false, .bool false, .int .u64 0, .int .u64 0]) Try.underlying27 (by kernel_rfl) rfl rfl rfl rfl
theorem row29 : TIok Try.prog 29 ⟨.struct #[⟨ "Asid", 23, 0, false, "", "", 0⟩, ⟨ "Number", 23, 1, false, "", "", 8⟩, ⟨ "Found", 27, 2, false, "", "", 16⟩], 16, 48, .cells [.int .u64 0, .int .u64 0, .ff, .ff, .ff, .ff, .ff, .ff, .ff, .ff, .ff, .ff, .ff, .ff, .int .u64 0, .int .u64 0]⟩ := .of_cells (.agg #[.int .u64 0, .int .u64 0, .bool false, .bool false, .bool false, .bool false, .bool false, .bool false, .bool false, .bool false, .bool false, .bool false, .bool false, .bool false, .int .u64 0, .int .u64 0]) Try.underlying29 (by kernel_rfl) rfl rfl rfl rfl
theorem row30 : TIok Try.prog 30 ⟨.array 2 29, 32, 96, .cells [.int .u64 0, .int .u64 0, .ff, .ff, .ff, .ff, .ff, .ff, .ff, .ff, .ff, .ff, .ff, .ff, .int .u64 0, .int .u64 0, .int .u64 0, .int .u64 0, .ff, .ff, .ff, .ff, .ff, .ff, .ff, .ff, .ff, .ff, .ff, .ff, .int .u64 0, .int .u64 0]⟩ := .of_cells (.agg #[.int .u64 0, .int .u64 0, .bool false, .bool false, .bool false, .bool false, .bool false, .bool false, .bool false, .bool false, .bool false, .bool false, .bool false, .bool false, .int .u64 0, .int .u64 0, .int .u64 0, .int .u64 0, .bool false, .bool false, .bool false, .bool false, .bool false, .bool false, .bool false, .bool false, .bool false, .bool false, .bool false, .bool false, .int .u64 0, .int .u64 0]) Try.underlying30 (by kernel_rfl) rfl rfl rfl rfl
theorem row32 : TIok Try.prog 32 ⟨.struct #[⟨ "lines", 30, 0, false, "", "mintmark/tlb", 0⟩, ⟨ "n", 3, 32, false, "", "mintmark/tlb", 96⟩], 33, 104, .cells [.int .u64 0, .int .u64 0, .ff, .ff, .ff, .ff, .ff, .ff, .ff, .ff, .ff, .ff, .ff, .ff, .int .u64 0, .int .u64 0, .int .u64 0, .int .u64 0, .ff, .ff, .ff, .ff, .ff, .ff, .ff, .ff, .ff, .ff, .ff, .ff, .int .u64 0, .int .u64 0, .int .i64 0]⟩ := .of_cells (.agg #[.int .u64 0, .int .u64 0, .bool false, .bool false, .bool false, .bool false, .bool false, .bool false, .bool false, .bool false, .bool false, .bool false, .bool false, .bool false, .int .u64 0, .int .u64 0, .int .u64 0, .int .u64 0, .bool false, .bool false, .bool false, .bool false, .bool false, .bool false, .bool false, .bool false, .bool false, .bool false, .bool false, .bool false, .int .u64 0, .int .u64 0, .int .i64 0]) Try.underlying32 (by kernel_rfl) rfl rfl rfl rfl
theorem row33 : TIok Try.prog 33 ⟨.array 4 32, 132, 416, .cells [.int .u64 0, .int .u64 0, .ff, .ff, .ff, .ff, .ff, .ff, .ff, .ff, .ff, .ff, .ff, .ff, .int .u64 0, .int .u64 0, .int .u64 0, .int .u64 0, .ff, .ff, .ff, .ff, .ff, .ff, .ff, .ff, .ff, .ff, .ff, .ff, .int .u64 0, .int .u64 0, .int .i64 0, .int .u64 0, .int .u64 0, .ff, .ff, .ff, .ff, .ff, .ff, .ff, .ff, .ff, .ff, .ff, .ff, .int .u64 0, .int .u64 0, .int .u64 0, .int .u64 0, .ff, .ff, .ff, .ff, .ff, .ff, .ff, .ff, .ff, .ff, .ff, .ff, .int .u64 0, .int .u64 0, .int .i64 0, .int .u64 0, .int .u64 0, .ff, .ff, .ff, .ff, .ff, .ff, .ff, .ff, .ff, .ff, .ff, .ff, .int .u64 0, .int .u64 0, .int .u64 0, .int .u64 0, .ff, .ff, .ff, .ff, .ff, .ff, .ff, .ff, .ff, .ff, .ff, .ff, .int .u64 0, .int .u64 0, .int .i64 0, .int .u64 0, .int .u64 0, .ff, .ff, .ff, .ff, .ff, .ff, .ff, .ff, .ff, .ff, .ff, .ff, .int .u64 0, .int .u64 0, .int .u64 0, .int .u64 0, .ff, .ff, .ff, .ff, .ff, .ff, .ff, .ff, .ff, .ff, .ff, .ff, .int .u64 0, .int .u64 0, .int .i64 0]⟩ := .of_cells (.agg #[.int .u64 0, .int .u64 0, .bool false, .bool false, .bool false, .bool false, .bool false, .bool false, .bool false, .bool false, .bool false, .bool false, .bool false, .bool false, .int .u64 0, .int .u64 0, .int .u64 0, .int .u64 0, .bool false, .bool false, .bool false, .bool false, .bool false, .bool false, .bool false, .bool false, .bool false, .bool false, .bool false, .bool false, .int .u64 0, .int .u64 0, .int .i64 0, .int .u64 0, .int .u64 0, .bool false, .bool false, .bool false, .bool false, .bool false, .bool false, .bool false, .bool false, .bool false, .bool false, .bool false, .bool false, .int .u64 0, .int .u64 0, .int .u64 0, .int .u64 0, .bool false, .bool false, .bool false, .bool false, .bool false, .bool false, .bool false, .bool false, .bool false, .bool false, .bool false, .bool false, .int .u64 0, .int .u64 0, .int .i64 0, .int .u64 0, .int .u64 0, .bool false, .bool false, .bool false, .bool false, .bool false, .bool false, .bool false, .bool false, .bool false, .bool false, .bool false, .bool false, .int .u64 0, .int .u64 0, .int .u64 0, .int .u64 0, .bool false, .bool false, .bool false, .bool false, .bool false, .bool false, .bool false, .bool false, .bool false, .bool false, .bool false, .bool false, .int .u64 0, .int .u64 0, .int .i64 0, .int .u64 0, .int .u64 0, .bool false, .bool false, .bool false, .bool false, .bool false, .bool false, .bool false, .bool false, .bool false, .bool false, .bool false, .bool false, .int .u64 0, .int .u64 0, .int .u64 0, .int .u64 0, .bool false, .bool false, .bool false, .bool false, .bool false, .bool false, .bool false, .bool false, .bool false, .bool false, .bool false, .bool false, .int .u64 0, .int .u64 0, .int .i64 0]) Try.underlying33 (by kernel_rfl) rfl rfl rfl rfl
theorem row35 : TIok Try.prog 35 ⟨.struct #[⟨ "sets", 33, 0, false, "", "mintmark/tlb", 0⟩], 132, 416, .cells [.int .u64 0, .int .u64 0, .ff, .ff, .ff, .ff, .ff, .ff, .ff, .ff, .ff, .ff, .ff, .ff, .int .u64 0, .int .u64 0, .int .u64 0, .int .u64 0, .ff, .ff, .ff, .ff, .ff, .ff, .ff, .ff, .ff, .ff, .ff, .ff, .int .u64 0, .int .u64 0, .int .i64 0, .int .u64 0, .int .u64 0, .ff, .ff, .ff, .ff, .ff, .ff, .ff, .ff, .ff, .ff, .ff, .ff, .int .u64 0, .int .u64 0, .int .u64 0, .int .u64 0, .ff, .ff, .ff, .ff, .ff, .ff, .ff, .ff, .ff, .ff, .ff, .ff, .int .u64 0, .int .u64 0, .int .i64 0, .int .u64 0, .int .u64 0, .ff, .ff, .ff, .ff, .ff, .ff, .ff, .ff, .ff, .ff, .ff, .ff, .int .u64 0, .int .u64 0, .int .u64 0, .int .u64 0, .ff, .ff, .ff, .ff, .ff, .ff, .ff, .ff, .ff, .ff, .ff, .ff, .int .u64 0, .int .u64 0, .int .i64 0, .int .u64 0, .int .u64 0, .ff, .ff, .ff, .ff, .ff, .ff, .ff, .ff, .ff, .ff, .ff, .ff, .int .u64 0, .int .u64 0, .int .u64 0, .int .u64 0, .ff, .ff, .ff, .ff, .ff, .ff, .ff, .ff, .ff, .ff, .ff, .ff, .int .u64 0, .int .u64 0, .int .i64 0]⟩ := .of_cells (.agg #[.int .u64 0, .int .u64 0, .bool false, .bool false, .bool false, .bool false, .bool false, .bool false, .bool false, .bool false, .bool false, .bool false, .bool false, .bool false, .int .u64 0, .int .u64 0, .int .u64 0, .int .u64 0, .bool false, .bool false, .bool false, .bool false, .bool false, .bool false, .bool false, .bool false, .bool false, .bool false, .bool false, .bool false, .int .u64 0, .int .u64 0, .int .i64 0, .int .u64 0, .int .u64 0, .bool false, .bool false, .bool false, .bool false, .bool false, .bool false, .bool false, .bool false, .bool false, .bool false, .bool false, .bool false, .int .u64 0, .int .u64 0, .int .u64 0, .int .u64 0, .bool false, .bool false, .bool false, .bool false, .bool false, .bool false, .bool false, .bool false, .bool false, .bool false, .bool false, .bool false, .int .u64 0, .int .u64 0, .int .i64 0, .int .u64 0, .int .u64 0, .bool false, .bool false, .bool false, .bool false, .bool false, .bool false, .bool false, .bool false, .bool false, .bool false, .bool false, .bool false, .int .u64 0, .int .u64 0, .int .u64 0, .int .u64 0, .bool false, .bool false, .bool false, .bool false, .bool false, .bool false, .bool false, .bool false, .bool false, .bool false, .bool false, .bool false, .int .u64 0, .int .u64 0, .int .i64 0, .int .u64 0, .int .u64 0, .bool false, .bool false, .bool false, .bool false, .bool false, .bool false, .bool false, .bool false, .bool false, .bool false, .bool false, .bool false, .int .u64 0, .int .u64 0, .int .u64 0, .int .u64 0, .bool false, .bool false, .bool false, .bool false, .bool false, .bool false, .bool false, .bool false, .bool false, .bool false, .bool false, .bool false, .int .u64 0, .int .u64 0, .int .i64 0]) Try.underlying35 (by kernel_rfl) rfl rfl rfl rfl
theorem row38 : TIok Try.prog 38 ⟨.struct #[⟨ "Kind", 3, 0, false, "", "", 0⟩, ⟨ "Place", 3, 1, false, "", "", 8⟩, ⟨ "Asid", 23, 2, false, "", "", 16⟩, ⟨ "Number", 23, 3, false, "", "", 24⟩, ⟨ "What", 23, 4, false, "", "", 32⟩], 5, 40, .cells [.int .i64 0, .int .i64 0, .int .u64 0, .int .u64 0, .int .u64 0]⟩ := .of_cells (.agg #[.int .i64 0, .int .i64 0, .int .u64 0, .int .u64 0, .int .u64 0]) Try.underlying38 (by kernel_rfl) rfl rfl rfl rfl
theorem row40 : TIok Try.prog 40 ⟨.array 4 3, 4, 32, .cells [.int .i64 0, .int .i64 0, .int .i64 0, .int .i64 0]⟩ := .of_cells (.agg #[.int .i64 0, .int .i64 0, .int .i64 0, .int .i64 0]) Try.underlying40 (by kernel_rfl) rfl rfl rfl rfl
theorem row41 : TIok Try.prog 41 ⟨.slice 29, 1, 24, .cells [.nilSlice]⟩ := .of_cells (.slice none 0 0) Try.underlying41 (by kernel_rfl) rfl rfl rfl rfl
theorem row48 : TIok Try.prog 48 ⟨.slice 51, 1, 24, .cells [.nilSlice]⟩ := .of_cells (.slice none 0 0) Try.underlying48 (by kernel_rfl) rfl rfl rfl rfl
theorem row51 : TIok Try.prog 51 ⟨.struct #[⟨ "Asid", 23, 0, false, "", "", 0⟩, ⟨ "Number", 23, 1, false, "", "", 8⟩, ⟨ "What", 23, 2, false, "", "", 16⟩], 3, 24, .cells [.int .u64 0, .int .u64 0, .int .u64 0]⟩ := .of_cells (.agg #[.int .u64 0, .int .u64 0, .int .u64 0]) Try.underlying51 (by kernel_rfl) rfl rfl rfl rfl
theorem row62 : TIok Try.prog 62 ⟨.map 64 23, 1, 8, .cells [.nilMap]⟩ := .of_cells (.map none) Try.underlying62 (by kernel_rfl) rfl rfl rfl rfl
theorem row64 : TIok Try.prog 64 ⟨.struct #[⟨ "asid", 23, 0, false, "", "mintmark/mintmarklaw11", 0⟩, ⟨ "number", 23, 1, false, "", "mintmark/mintmarklaw11", 8⟩], 2, 16, .cells [.int .u64 0, .int .u64 0]⟩ := .of_cells (.agg #[.int .u64 0, .int .u64 0]) Try.underlying64 (by kernel_rfl) rfl rfl rfl rfl
theorem row65 : TIok Try.prog 65 ⟨.map 64 4, 1, 8, .cells [.nilMap]⟩ := .of_cells (.map none) Try.underlying65 (by kernel_rfl) rfl rfl rfl rfl
theorem row67 : TIok Try.prog 67 ⟨.pointer 35, 1, 8, .cells [.nil]⟩ := .of_cells (.pointer none) Try.underlying67 (by kernel_rfl) rfl rfl rfl rfl
theorem row68 : TIok Try.prog 68 ⟨.pointer 32, 1, 8, .cells [.nil]⟩ := .of_cells (.pointer none) Try.underlying68 (by kernel_rfl) rfl rfl rfl rfl
noncomputable def tab : Tab := [(3, ⟨.int .i64, 1, 8, .cells [.int .i64 0]⟩), (4, ⟨.bool, 1, 1, .cells [.ff]⟩), (22, ⟨.slice 38, 1, 24, .cells [.nilSlice]⟩), (23, ⟨.int .u64, 1, 8, .cells [.int .u64 0]⟩), (25, ⟨.struct #[⟨ "Valid", 4, 0, false, "", "", 0⟩, ⟨ "Read", 4, 1, false, "", "", 1⟩, ⟨ "Write", 4, 2, false, "", "", 2⟩, ⟨ "Exec", 4, 3, false, "", "", 3⟩, ⟨ "User", 4, 4, false, "", "", 4⟩, ⟨ "Global", 4, 5, false, "", "", 5⟩, ⟨ "Accessed", 4, 6, false, "", "", 6⟩, ⟨ "Dirty", 4, 7, false, "", "", 7⟩, ⟨ "CapWrite", 4, 8, false, "", "", 8⟩, ⟨ "CapRead", 4, 9, false, "", "", 9⟩, ⟨ "CapDirty", 4, 10, false, "", "", 10⟩, ⟨ "Gen", 4, 11, false, "", "", 11⟩, ⟨ "Frame", 23, 12, false, "", "", 16⟩], 13, 24, .cells [.ff, .ff, .ff, .ff, .ff, .ff, .ff, .ff, .ff, .ff, .ff, .ff, .int .u64 0]⟩), (27, ⟨.struct #[⟨ "Entry", 25, 0, false, "", "", 0⟩, ⟨ "At", 23, 13, false, "", "", 24⟩], 14, 32, .cells [.ff, .ff, .ff, .ff, .ff, .ff, .ff, .ff, .ff, .ff, .ff, .ff, .int .u64 0, .int .u64 0]⟩), (29, ⟨.struct #[⟨ "Asid", 23, 0, false, "", "", 0⟩, ⟨ "Number", 23, 1, false, "", "", 8⟩, ⟨ "Found", 27, 2, false, "", "", 16⟩], 16, 48, .cells [.int .u64 0, .int .u64 0, .ff, .ff, .ff, .ff, .ff, .ff, .ff, .ff, .ff, .ff, .ff, .ff, .int .u64 0, .int .u64 0]⟩), (30, ⟨.array 2 29, 32, 96, .cells [.int .u64 0, .int .u64 0, .ff, .ff, .ff, .ff, .ff, .ff, .ff, .ff, .ff, .ff, .ff, .ff, .int .u64 0, .int .u64 0, .int .u64 0, .int .u64 0, .ff, .ff, .ff, .ff, .ff, .ff, .ff, .ff, .ff, .ff, .ff, .ff, .int .u64 0, .int .u64 0]⟩), (32, ⟨.struct #[⟨ "lines", 30, 0, false, "", "mintmark/tlb", 0⟩, ⟨ "n", 3, 32, false, "", "mintmark/tlb", 96⟩], 33, 104, .cells [.int .u64 0, .int .u64 0, .ff, .ff, .ff, .ff, .ff, .ff, .ff, .ff, .ff, .ff, .ff, .ff, .int .u64 0, .int .u64 0, .int .u64 0, .int .u64 0, .ff, .ff, .ff, .ff, .ff, .ff, .ff, .ff, .ff, .ff, .ff, .ff, .int .u64 0, .int .u64 0, .int .i64 0]⟩), (33, ⟨.array 4 32, 132, 416, .cells [.int .u64 0, .int .u64 0, .ff, .ff, .ff, .ff, .ff, .ff, .ff, .ff, .ff, .ff, .ff, .ff, .int .u64 0, .int .u64 0, .int .u64 0, .int .u64 0, .ff, .ff, .ff, .ff, .ff, .ff, .ff, .ff, .ff, .ff, .ff, .ff, .int .u64 0, .int .u64 0, .int .i64 0, .int .u64 0, .int .u64 0, .ff, .ff, .ff, .ff, .ff, .ff, .ff, .ff, .ff, .ff, .ff, .ff, .int .u64 0, .int .u64 0, .int .u64 0, .int .u64 0, .ff, .ff, .ff, .ff, .ff, .ff, .ff, .ff, .ff, .ff, .ff, .ff, .int .u64 0, .int .u64 0, .int .i64 0, .int .u64 0, .int .u64 0, .ff, .ff, .ff, .ff, .ff, .ff, .ff, .ff, .ff, .ff, .ff, .ff, .int .u64 0, .int .u64 0, .int .u64 0, .int .u64 0, .ff, .ff, .ff, .ff, .ff, .ff, .ff, .ff, .ff, .ff, .ff, .ff, .int .u64 0, .int .u64 0, .int .i64 0, .int .u64 0, .int .u64 0, .ff, .ff, .ff, .ff, .ff, .ff, .ff, .ff, .ff, .ff, .ff, .ff, .int .u64 0, .int .u64 0, .int .u64 0, .int .u64 0, .ff, .ff, .ff, .ff, .ff, .ff, .ff, .ff, .ff, .ff, .ff, .ff, .int .u64 0, .int .u64 0, .int .i64 0]⟩), (35, ⟨.struct #[⟨ "sets", 33, 0, false, "", "mintmark/tlb", 0⟩], 132, 416, .cells [.int .u64 0, .int .u64 0, .ff, .ff, .ff, .ff, .ff, .ff, .ff, .ff, .ff, .ff, .ff, .ff, .int .u64 0, .int .u64 0, .int .u64 0, .int .u64 0, .ff, .ff, .ff, .ff, .ff, .ff, .ff, .ff, .ff, .ff, .ff, .ff, .int .u64 0, .int .u64 0, .int .i64 0, .int .u64 0, .int .u64 0, .ff, .ff, .ff, .ff, .ff, .ff, .ff, .ff, .ff, .ff, .ff, .ff, .int .u64 0, .int .u64 0, .int .u64 0, .int .u64 0, .ff, .ff, .ff, .ff, .ff, .ff, .ff, .ff, .ff, .ff, .ff, .ff, .int .u64 0, .int .u64 0, .int .i64 0, .int .u64 0, .int .u64 0, .ff, .ff, .ff, .ff, .ff, .ff, .ff, .ff, .ff, .ff, .ff, .ff, .int .u64 0, .int .u64 0, .int .u64 0, .int .u64 0, .ff, .ff, .ff, .ff, .ff, .ff, .ff, .ff, .ff, .ff, .ff, .ff, .int .u64 0, .int .u64 0, .int .i64 0, .int .u64 0, .int .u64 0, .ff, .ff, .ff, .ff, .ff, .ff, .ff, .ff, .ff, .ff, .ff, .ff, .int .u64 0, .int .u64 0, .int .u64 0, .int .u64 0, .ff, .ff, .ff, .ff, .ff, .ff, .ff, .ff, .ff, .ff, .ff, .ff, .int .u64 0, .int .u64 0, .int .i64 0]⟩), (38, ⟨.struct #[⟨ "Kind", 3, 0, false, "", "", 0⟩, ⟨ "Place", 3, 1, false, "", "", 8⟩, ⟨ "Asid", 23, 2, false, "", "", 16⟩, ⟨ "Number", 23, 3, false, "", "", 24⟩, ⟨ "What", 23, 4, false, "", "", 32⟩], 5, 40, .cells [.int .i64 0, .int .i64 0, .int .u64 0, .int .u64 0, .int .u64 0]⟩), (40, ⟨.array 4 3, 4, 32, .cells [.int .i64 0, .int .i64 0, .int .i64 0, .int .i64 0]⟩), (41, ⟨.slice 29, 1, 24, .cells [.nilSlice]⟩), (48, ⟨.slice 51, 1, 24, .cells [.nilSlice]⟩), (51, ⟨.struct #[⟨ "Asid", 23, 0, false, "", "", 0⟩, ⟨ "Number", 23, 1, false, "", "", 8⟩, ⟨ "What", 23, 2, false, "", "", 16⟩], 3, 24, .cells [.int .u64 0, .int .u64 0, .int .u64 0]⟩), (62, ⟨.map 64 23, 1, 8, .cells [.nilMap]⟩), (64, ⟨.struct #[⟨ "asid", 23, 0, false, "", "mintmark/mintmarklaw11", 0⟩, ⟨ "number", 23, 1, false, "", "mintmark/mintmarklaw11", 8⟩], 2, 16, .cells [.int .u64 0, .int .u64 0]⟩), (65, ⟨.map 64 4, 1, 8, .cells [.nilMap]⟩), (67, ⟨.pointer 35, 1, 8, .cells [.nil]⟩), (68, ⟨.pointer 32, 1, 8, .cells [.nil]⟩)]
theorem tabOk : TabOk Try.prog tab := .cons row3 <| .cons row4 <| .cons row22 <| .cons row23 <| .cons row25 <| .cons row27 <| .cons row29 <| .cons row30 <| .cons row32 <| .cons row33 <| .cons row35 <| .cons row38 <| .cons row40 <| .cons row41 <| .cons row48 <| .cons row51 <| .cons row62 <| .cons row64 <| .cons row65 <| .cons row67 <| .cons row68 <| .nil _


theorem take1_ok (a : Ln) : Spec Try.prog 24 [.ptr 0 0, .int .i64 0] [(0, .cells (setC [a]))] 1 fun v H' _ => (∀ ρ, v.val ρ = (SV.tup []).val ρ) ∧ subH [(0, .cells (setC []))] H' := by
  refine Spec.of_body tabOk Try.func24 rfl (ent Try.func24 rfl (by kernel_rfl)) Try.ntmps24 rfl (by kernel_rfl) (Nat.le_of_ble_eq_true rfl) ?_
  conv => whnf
  refine CodeL.draw tabOk Try.checked.mixed 15 (by kernel_rfl) rfl ?_
  conv => whnf
  refine VL.qop rfl (VL.slice tabOk ?_)
  conv => whnf
  refine ⟨0, 2, 2, rfl, rfl, rfl, rfl, by decide, by decide, by decide, ?_⟩
  conv => whnf
  refine VL.qop rfl (VL.slice tabOk ?_)
  conv => whnf
  refine ⟨0 + 1, 1, 2, rfl, rfl, rfl, rfl, by decide, by decide, by decide, ?_⟩
  conv => whnf
  refine OpL.copy tabOk ?_
  conv => whnf
  refine ⟨.cells (setC [a]), fun _ => [], ?_, fun _ => ⟨rfl, rfl⟩, fun N _ _ => closed_Ins rfl N, rfl, rfl, rfl, rfl, fun ρ => ⟨by show _ ≤ 33; decide, rfl⟩⟩
  conv => whnf
  refine CodeL.draw tabOk Try.checked.mixed 9 (by kernel_rfl) rfl ?_
  conv => whnf
  refine .here (1 - 1) rfl (by decide) ?_
  conv => whnf
  exact ⟨fun _ => rfl, rfl, trivial⟩
theorem take20_ok (a b : Ln) : Spec Try.prog 24 [.ptr 0 0, .int .i64 0] [(0, .cells (setC [a, b]))] 1 fun v H' _ => (∀ ρ, v.val ρ = (SV.tup []).val ρ) ∧ subH [(0, .cells (setC [b]))] H' := by
  refine Spec.of_body tabOk Try.func24 rfl (ent Try.func24 rfl (by kernel_rfl)) Try.ntmps24 rfl (by kernel_rfl) (Nat.le_of_ble_eq_true rfl) ?_
  conv => whnf
  refine CodeL.draw tabOk Try.checked.mixed 15 (by kernel_rfl) rfl ?_
  conv => whnf
  refine VL.qop rfl (VL.slice tabOk ?_)
  conv => whnf
  refine ⟨0, 2, 2, rfl, rfl, rfl, rfl, by decide, by decide, by decide, ?_⟩
  conv => whnf
  refine VL.qop rfl (VL.slice tabOk ?_)
  conv => whnf
  refine ⟨0 + 1, 2, 2, rfl, rfl, rfl, rfl, by decide, by decide, by decide, ?_⟩
  conv => whnf
  refine OpL.copy tabOk ?_
  conv => whnf
  refine ⟨.cells (setC [b, b]), fun _ => lnV b, ?_, fun _ => ⟨rfl, rfl⟩, fun N _ _ => closed_Ins rfl N, rfl, rfl, rfl, rfl, fun ρ => ⟨by show _ ≤ 33; decide, rfl⟩⟩
  conv => whnf
  refine CodeL.draw tabOk Try.checked.mixed 9 (by kernel_rfl) rfl ?_
  conv => whnf
  refine .here (2 - 1) rfl (by decide) ?_
  conv => whnf
  exact ⟨fun _ => rfl, rfl, trivial⟩
theorem take21_ok (a b : Ln) : Spec Try.prog 24 [.ptr 0 0, .int .i64 1] [(0, .cells (setC [a, b]))] 1 fun v H' _ => (∀ ρ, v.val ρ = (SV.tup []).val ρ) ∧ subH [(0, .cells (setC [a]))] H' := by
  refine Spec.of_body tabOk Try.func24 rfl (ent Try.func24 rfl (by kernel_rfl)) Try.ntmps24 rfl (by kernel_rfl) (Nat.le_of_ble_eq_true rfl) ?_
  conv => whnf
  refine CodeL.draw tabOk Try.checked.mixed 15 (by kernel_rfl) rfl ?_
  conv => whnf
  refine VL.qop rfl (VL.slice tabOk ?_)
  conv => whnf
  refine ⟨1, 2, 2, rfl, rfl, rfl, rfl, by decide, by decide, by decide, ?_⟩
  conv => whnf
  refine VL.qop rfl (VL.slice tabOk ?_)
  conv => whnf
  refine ⟨1 + 1, 2, 2, rfl, rfl, rfl, rfl, by decide, by decide, by decide, ?_⟩
  conv => whnf
  refine OpL.copy tabOk ?_
  conv => whnf
  refine ⟨.cells (setC [a, b]), fun _ => [], ?_, fun _ => ⟨rfl, rfl⟩, fun N _ _ => closed_Ins rfl N, rfl, rfl, rfl, rfl, fun ρ => ⟨by show _ ≤ 33; decide, rfl⟩⟩
  conv => whnf
  refine CodeL.draw tabOk Try.checked.mixed 9 (by kernel_rfl) rfl ?_
  conv => whnf
  refine .here (2 - 1) rfl (by decide) ?_
  conv => whnf
  exact ⟨fun _ => rfl, rfl, trivial⟩
end Go.Sh.Ytmfpndffepjcpaa

set_option linter.unusedVariables false
namespace Go.Sh.Ytmfpndffepjcpaa
open Go.Proofs Go.Sh

theorem pageq_ok (a n : Int) (l : Ln) : Spec Try.prog 28 [.agg (lnC l), .ptr 0 0, .ptr 1 0] [(0, .view [.int .u64 a]), (1, .view [.int .u64 n])] 2 fun v _ _ => ∀ ρ, v.val ρ = (SV.bool (isP a n l)).val ρ := by
  refine Spec.of_body tabOk Try.func28 rfl (ent Try.func28 rfl (by kernel_rfl)) Try.ntmps28 rfl (by kernel_rfl) (Nat.le_of_ble_eq_true rfl) ?_
  conv => whnf
  refine ⟨.int .u64 a, ?_, rfl, rfl⟩
  conv => whnf
  refine ⟨fun h => ?_, fun h => ?_⟩
  · conv => whnf
    refine ⟨.int .u64 n, ?_, rfl, rfl⟩
    conv => whnf
    intro ρ
    show Value.bool _ = Value.bool (isP a n l)
    rw [isP, h]; rfl
  · conv => whnf
    intro ρ
    show Value.bool _ = Value.bool (isP a n l)
    rw [isP, h]; rfl
theorem flushq_ok (a : Int) (l : Ln) : Spec Try.prog 26 [.agg (lnC l), .ptr 0 0] [(0, .view [.int .u64 a])] 1 fun v _ _ => ∀ ρ, v.val ρ = (SV.bool (isA a l)).val ρ := by
  refine Spec.of_body tabOk Try.func26 rfl (ent Try.func26 rfl (by kernel_rfl)) Try.ntmps26 rfl (by kernel_rfl) (Nat.le_of_ble_eq_true rfl) ?_
  conv => whnf
  refine ⟨.int .u64 a, ?_, rfl, rfl⟩
  conv => whnf
  intro ρ
  rfl
theorem clearq_ok (l : Ln) : Spec Try.prog 27 [.agg (lnC l)] [] 0 fun v _ _ => ∀ ρ, v.val ρ = (SV.bool true).val ρ := by
  refine Spec.of_body tabOk Try.func27 rfl (ent Try.func27 rfl (by kernel_rfl)) Try.ntmps27 rfl (by kernel_rfl) (Nat.le_of_ble_eq_true rfl) ?_
  conv => whnf
  intro ρ
  rfl

theorem dropPage_ok (a n : Int) (l : List Ln) (hl : l.length ≤ 2) : Spec Try.prog 22 [.ptr 0 0, .func 28 [.ptr 1 0, .ptr 2 0]] [(0, .cells (setC l)), (1, .view [.int .u64 a]), (2, .view [.int .u64 n])] 3 fun v H' _ => (∀ ρ, v.val ρ = (SV.tup []).val ρ) ∧ subH [(0, .cells (setC (l.filter fun x => !isP a n x)))] H' := by
  refine Spec.of_body tabOk Try.func22 rfl (ent Try.func22 rfl (by kernel_rfl)) Try.ntmps22 rfl (by kernel_rfl) (Nat.le_of_ble_eq_true rfl) ?_
  rcases le2 hl with rfl | ⟨x, rfl⟩ | ⟨x, y, rfl⟩
  · conv => whnf
    refine CodeL.loop tabOk (fun s : Nat × List Ln => ([(0, .ptr 0 0), (1, .func 28 [.ptr 1 0, .ptr 2 0]), (4, .int .i64 ((s.1 : Int) - 1))], (0, .cells (setC s.2)) :: [(1, .view [.int .u64 a]), (2, .view [.int .u64 n])])) (fun s => s.1) (fun s => s.1 ≤ 0 ∧ s.2 = []) rfl (fun s => ⟨rfl, wfH_set rfl rfl⟩) (0, []) ⟨by decide, rfl⟩ ⟨⟨rfl, rfl, rfl, trivial⟩, ⟨rfl, ⟨rfl, rfl, trivial⟩⟩⟩ ?_
    rintro ⟨k, l⟩ ⟨hk, rfl⟩
    have hk : k ≤ 0 := hk
    have : k = 0 := by omega
    subst this
    conv => whnf
    refine .f rfl ?_
    conv => whnf
    exact ⟨fun _ => rfl, rfl, trivial⟩
  · conv => whnf
    refine CodeL.loop tabOk (fun s : Nat × List Ln => ([(0, .ptr 0 0), (1, .func 28 [.ptr 1 0, .ptr 2 0]), (4, .int .i64 ((s.1 : Int) - 1))], (0, .cells (setC s.2)) :: [(1, .view [.int .u64 a]), (2, .view [.int .u64 n])])) (fun s => s.1) (fun s => s.1 ≤ 1 ∧ s.2 = [x].take s.1 ++ ([x].drop s.1).filter fun x => !isP a n x) rfl (fun s => ⟨rfl, wfH_set rfl rfl⟩) (1, [x]) ⟨Nat.le_refl _, rfl⟩ ⟨⟨rfl, rfl, rfl, trivial⟩, ⟨rfl, ⟨rfl, rfl, trivial⟩⟩⟩ ?_
    rintro ⟨k, l⟩ hs
    have hk : k ≤ 1 := hs.1
    have hs : l = [x].take k ++ ([x].drop k).filter fun x => !isP a n x := hs.2
    subst hs
    have : k = 0 ∨ k = 1 := by omega
    rcases this with rfl | rfl
    · conv => whnf
      refine .f rfl ?_
      conv => whnf
      exact ⟨fun _ => rfl, rfl, trivial⟩
    · conv => whnf
      refine .t rfl ?_
      conv => whnf
      refine .here 0 rfl (by decide) ?_
      conv => whnf
      refine Spec.fn (Fun.read (pageq_ok a n x) rfl) [1, 2] rfl rfl (fun _ => rfl) rfl ⟨⟨by decide, rfl, rfl, _, rfl, fun _ => rfl, Nat.le_refl _, fun _ => Nat.le_refl _, id⟩, ⟨by decide, rfl, rfl, _, rfl, fun _ => rfl, Nat.le_refl _, fun _ => Nat.le_refl _, id⟩, trivial⟩ (fun _ _ => ⟨rfl, rfl, rfl, rfl, trivial⟩) (fun _ _ => ?_)
      conv => whnf
      refine ⟨fun (hp : isP a n x = true) => ?_, fun (hp : isP a n x = false) => ?_⟩
      · conv => whnf
        refine Spec.frame (fun i => (i, 0)) (H1 := [(0, .cells (setC ([])))]) (H2 := (0, .cells (setC ([]))) :: [(1, .view [.int .u64 a]), (2, .view [.int .u64 n])]) (take1_ok x) (fun _ => rfl) rfl (Part.lists ⟨⟨by decide, rfl, _, Lies.whole rfl (fun _ => rfl) (Nat.le_refl _) (fun _ => Nat.le_refl _) id⟩, trivial⟩ (fun i j _ _ h => h)) rfl (keptL_out ⟨Kept.set (lek rfl) (lek rfl) rfl rfl rfl rfl, ⟨.far rfl (farL_out ⟨fun _ => by decide, trivial⟩), .far rfl (farL_out ⟨fun _ => by decide, trivial⟩), trivial⟩⟩) rfl ?_
        conv => whnf
        refine ⟨(0, []), ⟨lek rfl, by simp [hp]⟩, ltk rfl, ⟨rfl, rfl, rfl, trivial⟩, ⟨rfl, ⟨rfl, rfl, trivial⟩⟩⟩
      · conv => whnf
        refine ⟨(0, [x]), ⟨lek rfl, by simp [hp]⟩, ltk rfl, ⟨rfl, rfl, rfl, trivial⟩, ⟨rfl, ⟨rfl, rfl, trivial⟩⟩⟩
  · conv => whnf
    refine CodeL.loop tabOk (fun s : Nat × List Ln => ([(0, .ptr 0 0), (1, .func 28 [.ptr 1 0, .ptr 2 0]), (4, .int .i64 ((s.1 : Int) - 1))], (0, .cells (setC s.2)) :: [(1, .view [.int .u64 a]), (2, .view [.int .u64 n])])) (fun s => s.1) (fun s => s.1 ≤ 2 ∧ s.2 = [x, y].take s.1 ++ ([x, y].drop s.1).filter fun x => !isP a n x) rfl (fun s => ⟨rfl, wfH_set rfl rfl⟩) (2, [x, y]) ⟨Nat.le_refl _, rfl⟩ ⟨⟨rfl, rfl, rfl, trivial⟩, ⟨rfl, ⟨rfl, rfl, trivial⟩⟩⟩ ?_
    rintro ⟨k, l⟩ hs
    have hk : k ≤ 2 := hs.1
    have hs : l = [x, y].take k ++ ([x, y].drop k).filter fun x => !isP a n x := hs.2
    subst hs
    have : k = 0 ∨ k = 1 ∨ k = 2 := by omega
    rcases this with rfl | rfl | rfl
    · conv => whnf
      refine .f rfl ?_
      conv => whnf
      exact ⟨fun _ => rfl, rfl, trivial⟩
    · cases hy : isP a n y
      · have e : [x, y].take 1 ++ ([x, y].drop 1).filter (fun x => !isP a n x) = [x, y] := by simp [hy]
        rw [e]
        conv => whnf
        refine .t rfl ?_
        conv => whnf
        refine .here 0 rfl (by decide) ?_
        conv => whnf
        refine Spec.fn (Fun.read (pageq_ok a n x) rfl) [1, 2] rfl rfl (fun _ => rfl) rfl ⟨⟨by decide, rfl, rfl, _, rfl, fun _ => rfl, Nat.le_refl _, fun _ => Nat.le_refl _, id⟩, ⟨by decide, rfl, rfl, _, rfl, fun _ => rfl, Nat.le_refl _, fun _ => Nat.le_refl _, id⟩, trivial⟩ (fun _ _ => ⟨rfl, rfl, rfl, rfl, trivial⟩) (fun _ _ => ?_)
        conv => whnf
        refine ⟨fun (hp : isP a n x = true) => ?_, fun (hp : isP a n x = false) => ?_⟩
        · conv => whnf
          refine Spec.frame (fun i => (i, 0)) (H1 := [(0, .cells (setC ([y])))]) (H2 := (0, .cells (setC ([y]))) :: [(1, .view [.int .u64 a]), (2, .view [.int .u64 n])]) (take20_ok x y) (fun _ => rfl) rfl (Part.lists ⟨⟨by decide, rfl, _, Lies.whole rfl (fun _ => rfl) (Nat.le_refl _) (fun _ => Nat.le_refl _) id⟩, trivial⟩ (fun i j _ _ h => h)) rfl (keptL_out ⟨Kept.set (lek rfl) (lek rfl) rfl rfl rfl rfl, ⟨.far rfl (farL_out ⟨fun _ => by decide, trivial⟩), .far rfl (farL_out ⟨fun _ => by decide, trivial⟩), trivial⟩⟩) rfl ?_
          conv => whnf
          refine ⟨(0, [y]), ⟨lek rfl, by simp [hp, hy]⟩, ltk rfl, ⟨rfl, rfl, rfl, trivial⟩, ⟨rfl, ⟨rfl, rfl, trivial⟩⟩⟩
        · conv => whnf
          refine ⟨(0, [x, y]), ⟨lek rfl, by simp [hp, hy]⟩, ltk rfl, ⟨rfl, rfl, rfl, trivial⟩, ⟨rfl, ⟨rfl, rfl, trivial⟩⟩⟩
      · have e : [x, y].take 1 ++ ([x, y].drop 1).filter (fun x => !isP a n x) = [x] := by simp [hy]
        rw [e]
        conv => whnf
        refine .t rfl ?_
        conv => whnf
        refine .here 0 rfl (by decide) ?_
        conv => whnf
        refine Spec.fn (Fun.read (pageq_ok a n x) rfl) [1, 2] rfl rfl (fun _ => rfl) rfl ⟨⟨by decide, rfl, rfl, _, rfl, fun _ => rfl, Nat.le_refl _, fun _ => Nat.le_refl _, id⟩, ⟨by decide, rfl, rfl, _, rfl, fun _ => rfl, Nat.le_refl _, fun _ => Nat.le_refl _, id⟩, trivial⟩ (fun _ _ => ⟨rfl, rfl, rfl, rfl, trivial⟩) (fun _ _ => ?_)
        conv => whnf
        refine ⟨fun (hp : isP a n x = true) => ?_, fun (hp : isP a n x = false) => ?_⟩
        · conv => whnf
          refine Spec.frame (fun i => (i, 0)) (H1 := [(0, .cells (setC ([])))]) (H2 := (0, .cells (setC ([]))) :: [(1, .view [.int .u64 a]), (2, .view [.int .u64 n])]) (take1_ok x) (fun _ => rfl) rfl (Part.lists ⟨⟨by decide, rfl, _, Lies.whole rfl (fun _ => rfl) (Nat.le_refl _) (fun _ => Nat.le_refl _) id⟩, trivial⟩ (fun i j _ _ h => h)) rfl (keptL_out ⟨Kept.set (lek rfl) (lek rfl) rfl rfl rfl rfl, ⟨.far rfl (farL_out ⟨fun _ => by decide, trivial⟩), .far rfl (farL_out ⟨fun _ => by decide, trivial⟩), trivial⟩⟩) rfl ?_
          conv => whnf
          refine ⟨(0, []), ⟨lek rfl, by simp [hp, hy]⟩, ltk rfl, ⟨rfl, rfl, rfl, trivial⟩, ⟨rfl, ⟨rfl, rfl, trivial⟩⟩⟩
        · conv => whnf
          refine ⟨(0, [x]), ⟨lek rfl, by simp [hp, hy]⟩, ltk rfl, ⟨rfl, rfl, rfl, trivial⟩, ⟨rfl, ⟨rfl, rfl, trivial⟩⟩⟩
    · conv => whnf
      refine .t rfl ?_
      conv => whnf
      refine .here 1 rfl (by decide) ?_
      conv => whnf
      refine Spec.fn (Fun.read (pageq_ok a n y) rfl) [1, 2] rfl rfl (fun _ => rfl) rfl ⟨⟨by decide, rfl, rfl, _, rfl, fun _ => rfl, Nat.le_refl _, fun _ => Nat.le_refl _, id⟩, ⟨by decide, rfl, rfl, _, rfl, fun _ => rfl, Nat.le_refl _, fun _ => Nat.le_refl _, id⟩, trivial⟩ (fun _ _ => ⟨rfl, rfl, rfl, rfl, trivial⟩) (fun _ _ => ?_)
      conv => whnf
      refine ⟨fun (hp : isP a n y = true) => ?_, fun (hp : isP a n y = false) => ?_⟩
      · conv => whnf
        refine Spec.frame (fun i => (i, 0)) (H1 := [(0, .cells (setC ([x])))]) (H2 := (0, .cells (setC ([x]))) :: [(1, .view [.int .u64 a]), (2, .view [.int .u64 n])]) (take21_ok x y) (fun _ => rfl) rfl (Part.lists ⟨⟨by decide, rfl, _, Lies.whole rfl (fun _ => rfl) (Nat.le_refl _) (fun _ => Nat.le_refl _) id⟩, trivial⟩ (fun i j _ _ h => h)) rfl (keptL_out ⟨Kept.set (lek rfl) (lek rfl) rfl rfl rfl rfl, ⟨.far rfl (farL_out ⟨fun _ => by decide, trivial⟩), .far rfl (farL_out ⟨fun _ => by decide, trivial⟩), trivial⟩⟩) rfl ?_
        conv => whnf
        refine ⟨(1, [x]), ⟨lek rfl, by simp [hp]⟩, ltk rfl, ⟨rfl, rfl, rfl, trivial⟩, ⟨rfl, ⟨rfl, rfl, trivial⟩⟩⟩
      · conv => whnf
        refine ⟨(1, [x, y]), ⟨lek rfl, by simp [hp]⟩, ltk rfl, ⟨rfl, rfl, rfl, trivial⟩, ⟨rfl, ⟨rfl, rfl, trivial⟩⟩⟩
theorem dropFlush_ok (a : Int) (l : List Ln) (hl : l.length ≤ 2) : Spec Try.prog 22 [.ptr 0 0, .func 26 [.ptr 1 0]] [(0, .cells (setC l)), (1, .view [.int .u64 a])] 2 fun v H' _ => (∀ ρ, v.val ρ = (SV.tup []).val ρ) ∧ subH [(0, .cells (setC (l.filter fun x => !isA a x)))] H' := by
  refine Spec.of_body tabOk Try.func22 rfl (ent Try.func22 rfl (by kernel_rfl)) Try.ntmps22 rfl (by kernel_rfl) (Nat.le_of_ble_eq_true rfl) ?_
  rcases le2 hl with rfl | ⟨x, rfl⟩ | ⟨x, y, rfl⟩
  · conv => whnf
    refine CodeL.loop tabOk (fun s : Nat × List Ln => ([(0, .ptr 0 0), (1, .func 26 [.ptr 1 0]), (4, .int .i64 ((s.1 : Int) - 1))], (0, .cells (setC s.2)) :: [(1, .view [.int .u64 a])])) (fun s => s.1) (fun s => s.1 ≤ 0 ∧ s.2 = []) rfl (fun s => ⟨rfl, wfH_set rfl rfl⟩) (0, []) ⟨by decide, rfl⟩ ⟨⟨rfl, rfl, rfl, trivial⟩, ⟨rfl, ⟨rfl, trivial⟩⟩⟩ ?_
    rintro ⟨k, l⟩ ⟨hk, rfl⟩
    have hk : k ≤ 0 := hk
    have : k = 0 := by omega
    subst this
    conv => whnf
    refine .f rfl ?_
    conv => whnf
    exact ⟨fun _ => rfl, rfl, trivial⟩
  · conv => whnf
    refine CodeL.loop tabOk (fun s : Nat × List Ln => ([(0, .ptr 0 0), (1, .func 26 [.ptr 1 0]), (4, .int .i64 ((s.1 : Int) - 1))], (0, .cells (setC s.2)) :: [(1, .view [.int .u64 a])])) (fun s => s.1) (fun s => s.1 ≤ 1 ∧ s.2 = [x].take s.1 ++ ([x].drop s.1).filter fun x => !isA a x) rfl (fun s => ⟨rfl, wfH_set rfl rfl⟩) (1, [x]) ⟨Nat.le_refl _, rfl⟩ ⟨⟨rfl, rfl, rfl, trivial⟩, ⟨rfl, ⟨rfl, trivial⟩⟩⟩ ?_
    rintro ⟨k, l⟩ hs
    have hk : k ≤ 1 := hs.1
    have hs : l = [x].take k ++ ([x].drop k).filter fun x => !isA a x := hs.2
    subst hs
    have : k = 0 ∨ k = 1 := by omega
    rcases this with rfl | rfl
    · conv => whnf
      refine .f rfl ?_
      conv => whnf
      exact ⟨fun _ => rfl, rfl, trivial⟩
    · conv => whnf
      refine .t rfl ?_
      conv => whnf
      refine .here 0 rfl (by decide) ?_
      conv => whnf
      refine Spec.fn (Fun.read (flushq_ok a x) rfl) [1] rfl rfl (fun _ => rfl) rfl ⟨⟨by decide, rfl, rfl, _, rfl, fun _ => rfl, Nat.le_refl _, fun _ => Nat.le_refl _, id⟩, trivial⟩ (fun _ _ => ⟨rfl, rfl, rfl, trivial⟩) (fun _ _ => ?_)
      conv => whnf
      refine ⟨fun (hp : isA a x = true) => ?_, fun (hp : isA a x = false) => ?_⟩
      · conv => whnf
        refine Spec.frame (fun i => (i, 0)) (H1 := [(0, .cells (setC ([])))]) (H2 := (0, .cells (setC ([]))) :: [(1, .view [.int .u64 a])]) (take1_ok x) (fun _ => rfl) rfl (Part.lists ⟨⟨by decide, rfl, _, Lies.whole rfl (fun _ => rfl) (Nat.le_refl _) (fun _ => Nat.le_refl _) id⟩, trivial⟩ (fun i j _ _ h => h)) rfl (keptL_out ⟨Kept.set (lek rfl) (lek rfl) rfl rfl rfl rfl, ⟨.far rfl (farL_out ⟨fun _ => by decide, trivial⟩), trivial⟩⟩) rfl ?_
        conv => whnf
        refine ⟨(0, []), ⟨lek rfl, by simp [hp]⟩, ltk rfl, ⟨rfl, rfl, rfl, trivial⟩, ⟨rfl, ⟨rfl, trivial⟩⟩⟩
      · conv => whnf
        refine ⟨(0, [x]), ⟨lek rfl, by simp [hp]⟩, ltk rfl, ⟨rfl, rfl, rfl, trivial⟩, ⟨rfl, ⟨rfl, trivial⟩⟩⟩
  · conv => whnf
    refine CodeL.loop tabOk (fun s : Nat × List Ln => ([(0, .ptr 0 0), (1, .func 26 [.ptr 1 0]), (4, .int .i64 ((s.1 : Int) - 1))], (0, .cells (setC s.2)) :: [(1, .view [.int .u64 a])])) (fun s => s.1) (fun s => s.1 ≤ 2 ∧ s.2 = [x, y].take s.1 ++ ([x, y].drop s.1).filter fun x => !isA a x) rfl (fun s => ⟨rfl, wfH_set rfl rfl⟩) (2, [x, y]) ⟨Nat.le_refl _, rfl⟩ ⟨⟨rfl, rfl, rfl, trivial⟩, ⟨rfl, ⟨rfl, trivial⟩⟩⟩ ?_
    rintro ⟨k, l⟩ hs
    have hk : k ≤ 2 := hs.1
    have hs : l = [x, y].take k ++ ([x, y].drop k).filter fun x => !isA a x := hs.2
    subst hs
    have : k = 0 ∨ k = 1 ∨ k = 2 := by omega
    rcases this with rfl | rfl | rfl
    · conv => whnf
      refine .f rfl ?_
      conv => whnf
      exact ⟨fun _ => rfl, rfl, trivial⟩
    · cases hy : isA a y
      · have e : [x, y].take 1 ++ ([x, y].drop 1).filter (fun x => !isA a x) = [x, y] := by simp [hy]
        rw [e]
        conv => whnf
        refine .t rfl ?_
        conv => whnf
        refine .here 0 rfl (by decide) ?_
        conv => whnf
        refine Spec.fn (Fun.read (flushq_ok a x) rfl) [1] rfl rfl (fun _ => rfl) rfl ⟨⟨by decide, rfl, rfl, _, rfl, fun _ => rfl, Nat.le_refl _, fun _ => Nat.le_refl _, id⟩, trivial⟩ (fun _ _ => ⟨rfl, rfl, rfl, trivial⟩) (fun _ _ => ?_)
        conv => whnf
        refine ⟨fun (hp : isA a x = true) => ?_, fun (hp : isA a x = false) => ?_⟩
        · conv => whnf
          refine Spec.frame (fun i => (i, 0)) (H1 := [(0, .cells (setC ([y])))]) (H2 := (0, .cells (setC ([y]))) :: [(1, .view [.int .u64 a])]) (take20_ok x y) (fun _ => rfl) rfl (Part.lists ⟨⟨by decide, rfl, _, Lies.whole rfl (fun _ => rfl) (Nat.le_refl _) (fun _ => Nat.le_refl _) id⟩, trivial⟩ (fun i j _ _ h => h)) rfl (keptL_out ⟨Kept.set (lek rfl) (lek rfl) rfl rfl rfl rfl, ⟨.far rfl (farL_out ⟨fun _ => by decide, trivial⟩), trivial⟩⟩) rfl ?_
          conv => whnf
          refine ⟨(0, [y]), ⟨lek rfl, by simp [hp, hy]⟩, ltk rfl, ⟨rfl, rfl, rfl, trivial⟩, ⟨rfl, ⟨rfl, trivial⟩⟩⟩
        · conv => whnf
          refine ⟨(0, [x, y]), ⟨lek rfl, by simp [hp, hy]⟩, ltk rfl, ⟨rfl, rfl, rfl, trivial⟩, ⟨rfl, ⟨rfl, trivial⟩⟩⟩
      · have e : [x, y].take 1 ++ ([x, y].drop 1).filter (fun x => !isA a x) = [x] := by simp [hy]
        rw [e]
        conv => whnf
        refine .t rfl ?_
        conv => whnf
        refine .here 0 rfl (by decide) ?_
        conv => whnf
        refine Spec.fn (Fun.read (flushq_ok a x) rfl) [1] rfl rfl (fun _ => rfl) rfl ⟨⟨by decide, rfl, rfl, _, rfl, fun _ => rfl, Nat.le_refl _, fun _ => Nat.le_refl _, id⟩, trivial⟩ (fun _ _ => ⟨rfl, rfl, rfl, trivial⟩) (fun _ _ => ?_)
        conv => whnf
        refine ⟨fun (hp : isA a x = true) => ?_, fun (hp : isA a x = false) => ?_⟩
        · conv => whnf
          refine Spec.frame (fun i => (i, 0)) (H1 := [(0, .cells (setC ([])))]) (H2 := (0, .cells (setC ([]))) :: [(1, .view [.int .u64 a])]) (take1_ok x) (fun _ => rfl) rfl (Part.lists ⟨⟨by decide, rfl, _, Lies.whole rfl (fun _ => rfl) (Nat.le_refl _) (fun _ => Nat.le_refl _) id⟩, trivial⟩ (fun i j _ _ h => h)) rfl (keptL_out ⟨Kept.set (lek rfl) (lek rfl) rfl rfl rfl rfl, ⟨.far rfl (farL_out ⟨fun _ => by decide, trivial⟩), trivial⟩⟩) rfl ?_
          conv => whnf
          refine ⟨(0, []), ⟨lek rfl, by simp [hp, hy]⟩, ltk rfl, ⟨rfl, rfl, rfl, trivial⟩, ⟨rfl, ⟨rfl, trivial⟩⟩⟩
        · conv => whnf
          refine ⟨(0, [x]), ⟨lek rfl, by simp [hp, hy]⟩, ltk rfl, ⟨rfl, rfl, rfl, trivial⟩, ⟨rfl, ⟨rfl, trivial⟩⟩⟩
    · conv => whnf
      refine .t rfl ?_
      conv => whnf
      refine .here 1 rfl (by decide) ?_
      conv => whnf
      refine Spec.fn (Fun.read (flushq_ok a y) rfl) [1] rfl rfl (fun _ => rfl) rfl ⟨⟨by decide, rfl, rfl, _, rfl, fun _ => rfl, Nat.le_refl _, fun _ => Nat.le_refl _, id⟩, trivial⟩ (fun _ _ => ⟨rfl, rfl, rfl, trivial⟩) (fun _ _ => ?_)
      conv => whnf
      refine ⟨fun (hp : isA a y = true) => ?_, fun (hp : isA a y = false) => ?_⟩
      · conv => whnf
        refine Spec.frame (fun i => (i, 0)) (H1 := [(0, .cells (setC ([x])))]) (H2 := (0, .cells (setC ([x]))) :: [(1, .view [.int .u64 a])]) (take21_ok x y) (fun _ => rfl) rfl (Part.lists ⟨⟨by decide, rfl, _, Lies.whole rfl (fun _ => rfl) (Nat.le_refl _) (fun _ => Nat.le_refl _) id⟩, trivial⟩ (fun i j _ _ h => h)) rfl (keptL_out ⟨Kept.set (lek rfl) (lek rfl) rfl rfl rfl rfl, ⟨.far rfl (farL_out ⟨fun _ => by decide, trivial⟩), trivial⟩⟩) rfl ?_
        conv => whnf
        refine ⟨(1, [x]), ⟨lek rfl, by simp [hp]⟩, ltk rfl, ⟨rfl, rfl, rfl, trivial⟩, ⟨rfl, ⟨rfl, trivial⟩⟩⟩
      · conv => whnf
        refine ⟨(1, [x, y]), ⟨lek rfl, by simp [hp]⟩, ltk rfl, ⟨rfl, rfl, rfl, trivial⟩, ⟨rfl, ⟨rfl, trivial⟩⟩⟩
theorem dropClear_ok (l : List Ln) (hl : l.length ≤ 2) : Spec Try.prog 22 [.ptr 0 0, .func 27 []] [(0, .cells (setC l))] 1 fun v H' _ => (∀ ρ, v.val ρ = (SV.tup []).val ρ) ∧ subH [(0, .cells (setC (l.filter fun x => !isT x)))] H' := by
  refine Spec.of_body tabOk Try.func22 rfl (ent Try.func22 rfl (by kernel_rfl)) Try.ntmps22 rfl (by kernel_rfl) (Nat.le_of_ble_eq_true rfl) ?_
  rcases le2 hl with rfl | ⟨x, rfl⟩ | ⟨x, y, rfl⟩
  · conv => whnf
    refine CodeL.loop tabOk (fun s : Nat × List Ln => ([(0, .ptr 0 0), (1, .func 27 []), (4, .int .i64 ((s.1 : Int) - 1))], (0, .cells (setC s.2)) :: [])) (fun s => s.1) (fun s => s.1 ≤ 0 ∧ s.2 = []) rfl (fun s => ⟨rfl, wfH_set rfl rfl⟩) (0, []) ⟨by decide, rfl⟩ ⟨⟨rfl, rfl, rfl, trivial⟩, ⟨rfl, trivial⟩⟩ ?_
    rintro ⟨k, l⟩ ⟨hk, rfl⟩
    have hk : k ≤ 0 := hk
    have : k = 0 := by omega
    subst this
    conv => whnf
    refine .f rfl ?_
    conv => whnf
    exact ⟨fun _ => rfl, rfl, trivial⟩
  · conv => whnf
    refine CodeL.loop tabOk (fun s : Nat × List Ln => ([(0, .ptr 0 0), (1, .func 27 []), (4, .int .i64 ((s.1 : Int) - 1))], (0, .cells (setC s.2)) :: [])) (fun s => s.1) (fun s => s.1 ≤ 1 ∧ s.2 = [x].take s.1 ++ ([x].drop s.1).filter fun x => !isT x) rfl (fun s => ⟨rfl, wfH_set rfl rfl⟩) (1, [x]) ⟨Nat.le_refl _, rfl⟩ ⟨⟨rfl, rfl, rfl, trivial⟩, ⟨rfl, trivial⟩⟩ ?_
    rintro ⟨k, l⟩ hs
    have hk : k ≤ 1 := hs.1
    have hs : l = [x].take k ++ ([x].drop k).filter fun x => !isT x := hs.2
    subst hs
    have : k = 0 ∨ k = 1 := by omega
    rcases this with rfl | rfl
    · conv => whnf
      refine .f rfl ?_
      conv => whnf
      exact ⟨fun _ => rfl, rfl, trivial⟩
    · conv => whnf
      refine .t rfl ?_
      conv => whnf
      refine .here 0 rfl (by decide) ?_
      conv => whnf
      refine Spec.fn (Fun.read (clearq_ok x) rfl) [] rfl rfl (fun _ => rfl) rfl trivial (fun _ _ => ⟨rfl, rfl, trivial⟩) (fun _ _ => ?_)
      conv => whnf
      refine ⟨fun (hp : isT x = true) => ?_, fun (hp : isT x = false) => ?_⟩
      · conv => whnf
        refine Spec.frame (fun i => (i, 0)) (H1 := [(0, .cells (setC ([])))]) (H2 := (0, .cells (setC ([]))) :: []) (take1_ok x) (fun _ => rfl) rfl (Part.lists ⟨⟨by decide, rfl, _, Lies.whole rfl (fun _ => rfl) (Nat.le_refl _) (fun _ => Nat.le_refl _) id⟩, trivial⟩ (fun i j _ _ h => h)) rfl (keptL_out ⟨Kept.set (lek rfl) (lek rfl) rfl rfl rfl rfl, trivial⟩) rfl ?_
        conv => whnf
        refine ⟨(0, []), ⟨lek rfl, by simp [hp]⟩, ltk rfl, ⟨rfl, rfl, rfl, trivial⟩, ⟨rfl, trivial⟩⟩
      · conv => whnf
        refine ⟨(0, [x]), ⟨lek rfl, by simp [hp]⟩, ltk rfl, ⟨rfl, rfl, rfl, trivial⟩, ⟨rfl, trivial⟩⟩
  · conv => whnf
    refine CodeL.loop tabOk (fun s : Nat × List Ln => ([(0, .ptr 0 0), (1, .func 27 []), (4, .int .i64 ((s.1 : Int) - 1))], (0, .cells (setC s.2)) :: [])) (fun s => s.1) (fun s => s.1 ≤ 2 ∧ s.2 = [x, y].take s.1 ++ ([x, y].drop s.1).filter fun x => !isT x) rfl (fun s => ⟨rfl, wfH_set rfl rfl⟩) (2, [x, y]) ⟨Nat.le_refl _, rfl⟩ ⟨⟨rfl, rfl, rfl, trivial⟩, ⟨rfl, trivial⟩⟩ ?_
    rintro ⟨k, l⟩ hs
    have hk : k ≤ 2 := hs.1
    have hs : l = [x, y].take k ++ ([x, y].drop k).filter fun x => !isT x := hs.2
    subst hs
    have : k = 0 ∨ k = 1 ∨ k = 2 := by omega
    rcases this with rfl | rfl | rfl
    · conv => whnf
      refine .f rfl ?_
      conv => whnf
      exact ⟨fun _ => rfl, rfl, trivial⟩
    · cases hy : isT y
      · have e : [x, y].take 1 ++ ([x, y].drop 1).filter (fun x => !isT x) = [x, y] := by simp [hy]
        rw [e]
        conv => whnf
        refine .t rfl ?_
        conv => whnf
        refine .here 0 rfl (by decide) ?_
        conv => whnf
        refine Spec.fn (Fun.read (clearq_ok x) rfl) [] rfl rfl (fun _ => rfl) rfl trivial (fun _ _ => ⟨rfl, rfl, trivial⟩) (fun _ _ => ?_)
        conv => whnf
        refine ⟨fun (hp : isT x = true) => ?_, fun (hp : isT x = false) => ?_⟩
        · conv => whnf
          refine Spec.frame (fun i => (i, 0)) (H1 := [(0, .cells (setC ([y])))]) (H2 := (0, .cells (setC ([y]))) :: []) (take20_ok x y) (fun _ => rfl) rfl (Part.lists ⟨⟨by decide, rfl, _, Lies.whole rfl (fun _ => rfl) (Nat.le_refl _) (fun _ => Nat.le_refl _) id⟩, trivial⟩ (fun i j _ _ h => h)) rfl (keptL_out ⟨Kept.set (lek rfl) (lek rfl) rfl rfl rfl rfl, trivial⟩) rfl ?_
          conv => whnf
          refine ⟨(0, [y]), ⟨lek rfl, by simp [hp, hy]⟩, ltk rfl, ⟨rfl, rfl, rfl, trivial⟩, ⟨rfl, trivial⟩⟩
        · conv => whnf
          refine ⟨(0, [x, y]), ⟨lek rfl, by simp [hp, hy]⟩, ltk rfl, ⟨rfl, rfl, rfl, trivial⟩, ⟨rfl, trivial⟩⟩
      · have e : [x, y].take 1 ++ ([x, y].drop 1).filter (fun x => !isT x) = [x] := by simp [hy]
        rw [e]
        conv => whnf
        refine .t rfl ?_
        conv => whnf
        refine .here 0 rfl (by decide) ?_
        conv => whnf
        refine Spec.fn (Fun.read (clearq_ok x) rfl) [] rfl rfl (fun _ => rfl) rfl trivial (fun _ _ => ⟨rfl, rfl, trivial⟩) (fun _ _ => ?_)
        conv => whnf
        refine ⟨fun (hp : isT x = true) => ?_, fun (hp : isT x = false) => ?_⟩
        · conv => whnf
          refine Spec.frame (fun i => (i, 0)) (H1 := [(0, .cells (setC ([])))]) (H2 := (0, .cells (setC ([]))) :: []) (take1_ok x) (fun _ => rfl) rfl (Part.lists ⟨⟨by decide, rfl, _, Lies.whole rfl (fun _ => rfl) (Nat.le_refl _) (fun _ => Nat.le_refl _) id⟩, trivial⟩ (fun i j _ _ h => h)) rfl (keptL_out ⟨Kept.set (lek rfl) (lek rfl) rfl rfl rfl rfl, trivial⟩) rfl ?_
          conv => whnf
          refine ⟨(0, []), ⟨lek rfl, by simp [hp, hy]⟩, ltk rfl, ⟨rfl, rfl, rfl, trivial⟩, ⟨rfl, trivial⟩⟩
        · conv => whnf
          refine ⟨(0, [x]), ⟨lek rfl, by simp [hp, hy]⟩, ltk rfl, ⟨rfl, rfl, rfl, trivial⟩, ⟨rfl, trivial⟩⟩
    · conv => whnf
      refine .t rfl ?_
      conv => whnf
      refine .here 1 rfl (by decide) ?_
      conv => whnf
      refine Spec.fn (Fun.read (clearq_ok y) rfl) [] rfl rfl (fun _ => rfl) rfl trivial (fun _ _ => ⟨rfl, rfl, trivial⟩) (fun _ _ => ?_)
      conv => whnf
      refine ⟨fun (hp : isT y = true) => ?_, fun (hp : isT y = false) => ?_⟩
      · conv => whnf
        refine Spec.frame (fun i => (i, 0)) (H1 := [(0, .cells (setC ([x])))]) (H2 := (0, .cells (setC ([x]))) :: []) (take21_ok x y) (fun _ => rfl) rfl (Part.lists ⟨⟨by decide, rfl, _, Lies.whole rfl (fun _ => rfl) (Nat.le_refl _) (fun _ => Nat.le_refl _) id⟩, trivial⟩ (fun i j _ _ h => h)) rfl (keptL_out ⟨Kept.set (lek rfl) (lek rfl) rfl rfl rfl rfl, trivial⟩) rfl ?_
        conv => whnf
        refine ⟨(1, [x]), ⟨lek rfl, by simp [hp]⟩, ltk rfl, ⟨rfl, rfl, rfl, trivial⟩, ⟨rfl, trivial⟩⟩
      · conv => whnf
        refine ⟨(1, [x, y]), ⟨lek rfl, by simp [hp]⟩, ltk rfl, ⟨rfl, rfl, rfl, trivial⟩, ⟨rfl, trivial⟩⟩
end Go.Sh.Ytmfpndffepjcpaa

set_option linter.unusedVariables false
namespace Go.Sh.Ytmfpndffepjcpaa
open Go.Proofs Go.Sh

theorem drop_ok (s : Nat → List Ln) (rest : List Value) (hs : okT s) (a n : Int) (hn : 0 ≤ n) : Spec Try.prog 13 [.ptr 0 0, .int .u64 a, .int .u64 n] [(0, .row (tlbC s rest))] 1 fun v H' _ => (∀ ρ, v.val ρ = (SV.tup []).val ρ) ∧ subH [(0, .row (tlbC (fset s (q4 n) ((s (q4 n)).filter fun x => !isP a n x)) rest))] H' := by
  refine Spec.of_body tabOk Try.func13 rfl (ent Try.func13 rfl (by kernel_rfl)) Try.ntmps13 rfl (by kernel_rfl) (Nat.le_of_ble_eq_true rfl) ?_
  conv => whnf
  refine Spec.of_body tabOk Try.func21 rfl (ent Try.func21 rfl (by kernel_rfl)) Try.ntmps21 rfl (by kernel_rfl) (Nat.le_of_ble_eq_true rfl) ?_
  conv => whnf
  refine .there (q4 n) (q4_eq hn) (q4_lt n) ?_
  conv => whnf
  refine Spec.of_body tabOk Try.func23 rfl (ent Try.func23 rfl (by kernel_rfl)) Try.ntmps23 rfl (by kernel_rfl) (Nat.le_of_ble_eq_true rfl) ?_
  conv => whnf
  refine Spec.set (q := q4 n) (dropPage_ok a n (s (q4 n)) (hs _)) [(1, 0), (2, 0)] hs (q4_lt n) (Nat.le_trans (List.length_filter_le _ _) (hs _)) rfl (noWr_out rfl) (fun ρ => ha_at (by show 0 + 0 + q4 n * 33 = 33 * q4 n; omega)) rfl ⟨⟨by decide, rfl, _, Lies.one rfl fun _ => rfl⟩, ⟨by decide, rfl, _, Lies.one rfl fun _ => rfl⟩, trivial⟩ rfl rfl ?_
  conv => whnf
  exact ⟨fun _ => rfl, rfl, trivial⟩

theorem put_ok (s : Nat → List Ln) (rest : List Value) (hs : okT s) (l : Ln) (hn : 0 ≤ l.num) : Spec Try.prog 6 [.ptr 0 0, .agg (lnC l)] [(0, .row (tlbC s rest))] 1 fun v H' _ => (∀ ρ, v.val ρ = (SV.tup []).val ρ) ∧ subH [(0, .row (tlbC (putS s l) rest))] H' := by
  have hq := q4_lt l.num
  have hfl : ((s (q4 l.num)).filter fun x => !isP l.asid l.num x).length ≤ 2 := Nat.le_trans (List.length_filter_le _ _) (hs _)
  unfold putS
  refine Spec.of_body tabOk Try.func6 rfl (ent Try.func6 rfl (by kernel_rfl)) Try.ntmps6 rfl (by kernel_rfl) (Nat.le_of_ble_eq_true rfl) ?_
  conv => whnf
  refine Spec.of_body tabOk Try.func21 rfl (ent Try.func21 rfl (by kernel_rfl)) Try.ntmps21 rfl (by kernel_rfl) (Nat.le_of_ble_eq_true rfl) ?_
  conv => whnf
  refine .there (q4 l.num) (q4_eq hn) (q4_lt l.num) ?_
  conv => whnf
  refine Spec.of_body tabOk Try.func23 rfl (ent Try.func23 rfl (by kernel_rfl)) Try.ntmps23 rfl (by kernel_rfl) (Nat.le_of_ble_eq_true rfl) ?_
  conv => whnf
  refine Spec.set (q := q4 l.num) (dropPage_ok l.asid l.num (s (q4 l.num)) (hs _)) [(2, 0), (3, 0)] hs (q4_lt l.num) hfl rfl (noWr_out rfl) (fun ρ => ha_at (by show 0 + 0 + q4 l.num * 33 = 33 * q4 l.num; omega)) rfl ⟨⟨by decide, rfl, _, Lies.one rfl fun _ => rfl⟩, ⟨by decide, rfl, _, Lies.one rfl fun _ => rfl⟩, trivial⟩ rfl rfl ?_
  generalize q4 l.num = q at hq hfl
  generalize hL : (s q).filter (fun x => !isP l.asid l.num x) = L at hfl
  have hs1 : okT (fset s q L) := okT_fset hs hfl
  have e1 : fset s q L q = L := fset_same _ _ _
  conv => whnf
  refine .at1 (.int .i64 (L.length : Int)) (33 * q + 32) (by show 0 + 0 + q * 33 + 32 = _; omega) (by have := tlbC_n hs1 rest hq; rw [e1] at this; exact this) rfl ?_
  conv => whnf
  refine ⟨fun h2 => ?_, fun h2 => ?_⟩
  · have h2 : L.length = 2 := by have := of_decide_eq_true h2; omega
    obtain ⟨x, y, rfl⟩ : ∃ x y, L = [x, y] := by
      rcases le2 hfl with rfl | ⟨a, rfl⟩ | h
      · cases h2
      · cases h2
      · exact h
    conv => whnf
    refine Spec.set (q := q) (l' := [y]) (args0 := [.ptr 0 0, .int .i64 0]) (u0 := 1) (caps := []) (by rw [e1]; exact take20_ok x y) [] hs1 hq (lek rfl) rfl (noWr_out rfl) (fun ρ => ha_at (by show 0 + 0 + q * 33 = 33 * q; omega)) rfl trivial rfl rfl ?_
    rw [fset_twice]
    generalize hst' : fset s q [y] = st
    have hst : okT st := by rw [← hst']; exact okT_fset hs (lek rfl)
    have e2 : st q = [y] := by rw [← hst']; exact fset_same _ _ _
    have h1 : (st q).length ≤ 1 := by rw [e2]; exact lek rfl
    conv => whnf
    refine CodeL.draw tabOk Try.checked.mixed 9 (by kernel_rfl) rfl ?_
    conv => whnf
    refine .at1 (.int .i64 ((st q).length : Int)) (33 * q + 32) (by show 0 + 0 + q * 33 + 32 = _; omega) (tlbC_n hst rest hq) rfl ?_
    conv => whnf
    refine .there (st q).length rfl (by omega) ?_
    conv => whnf
    refine .row (tlbM st q l rest) (lnC l) (33 * q + 16 * (st q).length) (by show 0 + 0 + q * 33 + 0 + (st q).length * 16 = _; omega) (fun _ => rfl) rfl rfl rfl (by rw [tlbC_len hst]; show _ + 16 ≤ _; omega) (tlbC_mid hst rest hq h1 l) ?_
    conv => whnf
    refine .at1 (.int .i64 ((st q).length : Int)) (33 * q + 32) (by show 0 + 0 + q * 33 + 32 = _; omega) (tlbM_n hst rest hq h1 l) rfl ?_
    conv => whnf
    refine .row (tlbC (fset st q (st q ++ [l])) rest) [.int .i64 (((st q).length : Int) + 1)] (33 * q + 32) (by show 0 + 0 + q * 33 + 32 = _; omega) (fun ρ => ?_) rfl rfl rfl (by rw [tlbM_len hst rest hq h1 l, tlbC_len hst]; show _ + 1 ≤ _; omega) (tlbM_put hst rest hq h1 l) ?_
    · show [Value.int .i64 (IntKind.wrap .i64 (((st q).length : Int) + 1))] = [Value.int .i64 (((st q).length : Int) + 1)]
      rw [wrap_i64' _ (by omega) (by omega)]
    conv => whnf
    refine ⟨fun _ => rfl, ?_, trivial⟩
    · rw [e2, ← hst', fset_twice]; rfl
  · have h2 : L.length ≠ 2 := by have := of_decide_eq_false h2; omega
    generalize hst' : fset s q L = st at hs1 e1
    have hst := hs1
    have h1 : (st q).length ≤ 1 := by rw [e1]; omega
    conv => whnf
    refine CodeL.draw tabOk Try.checked.mixed 9 (by kernel_rfl) rfl ?_
    conv => whnf
    refine .at1 (.int .i64 ((st q).length : Int)) (33 * q + 32) (by show 0 + 0 + q * 33 + 32 = _; omega) (tlbC_n hst rest hq) rfl ?_
    conv => whnf
    refine .there (st q).length rfl (by omega) ?_
    conv => whnf
    refine .row (tlbM st q l rest) (lnC l) (33 * q + 16 * (st q).length) (by show 0 + 0 + q * 33 + 0 + (st q).length * 16 = _; omega) (fun _ => rfl) rfl rfl rfl (by rw [tlbC_len hst]; show _ + 16 ≤ _; omega) (tlbC_mid hst rest hq h1 l) ?_
    conv => whnf
    refine .at1 (.int .i64 ((st q).length : Int)) (33 * q + 32) (by show 0 + 0 + q * 33 + 32 = _; omega) (tlbM_n hst rest hq h1 l) rfl ?_
    conv => whnf
    refine .row (tlbC (fset st q (st q ++ [l])) rest) [.int .i64 (((st q).length : Int) + 1)] (33 * q + 32) (by show 0 + 0 + q * 33 + 32 = _; omega) (fun ρ => ?_) rfl rfl rfl (by rw [tlbM_len hst rest hq h1 l, tlbC_len hst]; show _ + 1 ≤ _; omega) (tlbM_put hst rest hq h1 l) ?_
    · show [Value.int .i64 (IntKind.wrap .i64 (((st q).length : Int) + 1))] = [Value.int .i64 (((st q).length : Int) + 1)]
      rw [wrap_i64' _ (by omega) (by omega)]
    conv => whnf
    refine ⟨fun _ => rfl, ?_, trivial⟩
    · rw [e1, ← hst', fset_twice, putL, if_neg h2]; rfl
end Go.Sh.Ytmfpndffepjcpaa

set_option linter.unusedVariables false
namespace Go.Sh.Ytmfpndffepjcpaa
open Go.Proofs Go.Sh

def lookR : Option Ln → SV
  | some x => .tup [.agg (lnC x), .tt]
  | none => .tup [.agg (lnC ln0), .ff]
theorem look_ok (s : Nat → List Ln) (rest : List Value) (hs : okT s) (a n : Int) (hn : 0 ≤ n) : Spec Try.prog 9 [.ptr 0 0, .int .u64 a, .int .u64 n] [(0, .view (tlbC s rest))] 1 fun v _ _ => ∀ ρ, v.val ρ = (lookR ((s (q4 n)).find? (isP a n))).val ρ := by
  have hq := q4_lt n
  have hl := hs (q4 n)
  refine Spec.of_body tabOk Try.func9 rfl (ent Try.func9 rfl (by kernel_rfl)) Try.ntmps9 rfl (by kernel_rfl) (Nat.le_of_ble_eq_true rfl) ?_
  conv => whnf
  refine Spec.of_body tabOk Try.func21 rfl (ent Try.func21 rfl (by kernel_rfl)) Try.ntmps21 rfl (by kernel_rfl) (Nat.le_of_ble_eq_true rfl) ?_
  conv => whnf
  refine .there (q4 n) (q4_eq hn) (q4_lt n) ?_
  conv => whnf
  refine Spec.of_body tabOk Try.func23 rfl (ent Try.func23 rfl (by kernel_rfl)) Try.ntmps23 rfl (by kernel_rfl) (Nat.le_of_ble_eq_true rfl) ?_
  conv => whnf
  generalize q4 n = q at hq hl
  refine CodeL.draw tabOk Try.checked.mixed 14 (by kernel_rfl) rfl ?_
  conv => whnf
  refine .at1 (.int .i64 ((s q).length : Int)) (33 * q + 32) (by show 0 + 0 + q * 33 + 32 = _; omega) (tlbC_n hs rest hq) rfl ?_
  conv => whnf
  refine .at1 (.int .i64 ((s q).length : Int)) (33 * q + 32) (by show 0 + 0 + q * 33 + 32 = _; omega) (tlbC_n hs rest hq) rfl ?_
  conv => whnf
  refine VL.qop rfl (VL.slice tabOk ?_)
  conv => whnf
  refine ⟨0, (s q).length, (s q).length, rfl, rfl, rfl, rfl, Nat.zero_le _, Nat.le_refl _, hl, ?_⟩
  conv => whnf
  refine CodeL.loop tabOk (fun i : Nat => ([(6, .ptr 1 0), (7, .ff), (9, .func 28 [.ptr 2 0, .ptr 3 0]), (32, .slice 0 (sOff (s q).length 0 (0 + 0 + q * 33 + 0) 16) ((s q).length - 0) ((s q).length - 0)), (33, .int .i64 ((s q).length - 0 : Nat)), (34, .int .i64 (i : Int))], [(0, .view (tlbC s rest)), (1, .cells lnZ), (2, .cells [.int .u64 a]), (3, .cells [.int .u64 n])]))
    (fun i => (s q).length - i) (fun i => i ≤ (s q).length ∧ ∀ k y, k < i → (s q)[k]? = some y → isP a n y = false) rfl (fun i => ⟨rfl, rfl⟩) 0 ⟨Nat.zero_le _, fun k y hk => absurd hk (Nat.not_lt_zero _)⟩ ⟨⟨rfl, rfl, rfl, rfl, rfl, rfl, trivial⟩, ⟨rfl, rfl, rfl, rfl, trivial⟩⟩ ?_
  rintro i ⟨hi, hno⟩
  conv => whnf
  refine ⟨fun h => ?_, fun h => ?_⟩
  · have h : i < (s q).length := by have := of_decide_eq_true h; omega
    obtain ⟨x, hx⟩ : ∃ x, (s q)[i]? = some x := ⟨_, List.getElem?_eq_getElem h⟩
    conv => whnf
    refine .there i rfl (by omega) ?_
    conv => whnf
    refine .atN (lnC x) (33 * q + i * 16) (by show sOff (s q).length 0 (0 + 0 + q * 33 + 0) 16 + i * 16 = _; rw [sOff_zero]; omega) (by rw [tlbC_len hs]; show _ + 16 ≤ _; omega) (tlbC_line hs rest hq hx) rfl ?_
    conv => whnf
    refine Spec.fn (Fun.read (pageq_ok a n x) rfl) [2, 3] rfl rfl (fun _ => rfl) rfl ⟨⟨by decide, rfl, rfl, _, rfl, fun _ => rfl, Nat.le_refl _, fun _ => Nat.le_refl _, fun h => by cases h⟩, ⟨by decide, rfl, rfl, _, rfl, fun _ => rfl, Nat.le_refl _, fun _ => Nat.le_refl _, fun h => by cases h⟩, trivial⟩ (fun _ _ => ⟨rfl, rfl, rfl, rfl, trivial⟩) (fun _ _ => ?_)
    conv => whnf
    refine ⟨fun hp => ?_, fun hp => ?_⟩
    · conv => whnf
      intro ρ
      rw [find_hit hx hp hno]
      rfl
    · conv => whnf
      exact ⟨i + 1, ⟨by omega, fun k y hk hy => by
        by_cases e : k = i
        · subst e; rw [hx] at hy; injection hy with hy; subst hy; exact hp
        · exact hno k y (by omega) hy⟩, by omega, ⟨rfl, rfl, rfl, rfl, rfl, congrArg (fun x => some (SV.int .i64 x)) (by rw [wrap_i64' _ (by omega) (by omega)]; omega), trivial⟩, ⟨rfl, rfl, rfl, rfl, trivial⟩⟩
  · have h : i = (s q).length := by have := of_decide_eq_false h; omega
    subst h
    conv => whnf
    intro ρ
    rw [find_miss hno]
    rfl
end Go.Sh.Ytmfpndffepjcpaa

set_option linter.unusedVariables false
namespace Go.Sh.Ytmfpndffepjcpaa
open Go.Proofs Go.Sh

theorem flush_ok (s : Nat → List Ln) (rest : List Value) (hs : okT s) (a : Int) : Spec Try.prog 15 [.ptr 0 0, .int .u64 a] [(0, .row (tlbC s rest))] 1 fun v H' _ => (∀ ρ, v.val ρ = (SV.tup []).val ρ) ∧ subH [(0, .row (tlbC (filtS (fun x => !isA a x) s 4) rest))] H' := by
  refine Spec.of_body tabOk Try.func15 rfl (ent Try.func15 rfl (by kernel_rfl)) Try.ntmps15 rfl (by kernel_rfl) (Nat.le_of_ble_eq_true rfl) ?_
  conv => whnf
  refine Spec.of_body tabOk Try.func25 rfl (ent Try.func25 rfl (by kernel_rfl)) Try.ntmps25 rfl (by kernel_rfl) (Nat.le_of_ble_eq_true rfl) ?_
  conv => whnf
  refine CodeL.loop tabOk (fun i : Nat => ([(0, .ptr 0 0), (1, .func 26 [.ptr 1 0]), (7, .int .i64 (i : Int))], (0, .row (tlbC (filtS (fun x => !isA a x) s i) rest)) :: [(1, .cells [.int .u64 a])])) (fun i => 4 - i) (fun i => i ≤ 4) rfl (fun i => ⟨rfl, rfl⟩) 0 (Nat.zero_le _) ⟨⟨rfl, rfl, rfl, trivial⟩, ⟨by rw [filtS_zero]; rfl, ⟨rfl, trivial⟩⟩⟩ ?_
  intro i hi
  conv => whnf
  refine ⟨fun h => ?_, fun h => ?_⟩
  · have h : i < 4 := by have := of_decide_eq_true h; omega
    have hs1 : okT (filtS (fun x => !isA a x) s i) := okT_filtS hs i
    conv => whnf
    refine .there i rfl h ?_
    conv => whnf
    refine Spec.set (q := i) (l' := (s i).filter fun x => !isA a x) (args0 := [.ptr 0 0, .func 26 [.ptr 1 0]]) (u0 := 2) (caps := [(1, .view [.int .u64 a])]) (by rw [filtS_at]; exact dropFlush_ok a (s i) (hs i)) [(1, 0)] hs1 h (Nat.le_trans (List.length_filter_le _ _) (hs i)) rfl (noWr_out rfl) (fun ρ => ha_at (by show 0 + 0 + i * 33 = 33 * i; omega)) rfl ⟨⟨by decide, rfl, _, Lies.one rfl fun _ => rfl⟩, trivial⟩ rfl rfl ?_
    rw [filtS_succ]
    conv => whnf
    exact ⟨i + 1, by omega, by omega, ⟨rfl, rfl, congrArg (fun x => some (SV.int .i64 x)) (by rw [wrap_i64' _ (by omega) (by omega)]; omega), trivial⟩, ⟨rfl, ⟨rfl, trivial⟩⟩⟩
  · have h : i = 4 := by have := of_decide_eq_false h; omega
    subst h
    conv => whnf
    exact ⟨fun _ => rfl, rfl, trivial⟩
theorem clear_ok (s : Nat → List Ln) (rest : List Value) (hs : okT s) : Spec Try.prog 17 [.ptr 0 0] [(0, .row (tlbC s rest))] 1 fun v H' _ => (∀ ρ, v.val ρ = (SV.tup []).val ρ) ∧ subH [(0, .row (tlbC (filtS (fun x => !isT x) s 4) rest))] H' := by
  refine Spec.of_body tabOk Try.func17 rfl (ent Try.func17 rfl (by kernel_rfl)) Try.ntmps17 rfl (by kernel_rfl) (Nat.le_of_ble_eq_true rfl) ?_
  conv => whnf
  refine Spec.of_body tabOk Try.func25 rfl (ent Try.func25 rfl (by kernel_rfl)) Try.ntmps25 rfl (by kernel_rfl) (Nat.le_of_ble_eq_true rfl) ?_
  conv => whnf
  refine CodeL.loop tabOk (fun i : Nat => ([(0, .ptr 0 0), (1, .func 27 []), (7, .int .i64 (i : Int))], (0, .row (tlbC (filtS (fun x => !isT x) s i) rest)) :: [])) (fun i => 4 - i) (fun i => i ≤ 4) rfl (fun i => ⟨rfl, rfl⟩) 0 (Nat.zero_le _) ⟨⟨rfl, rfl, rfl, trivial⟩, ⟨by rw [filtS_zero]; rfl, trivial⟩⟩ ?_
  intro i hi
  conv => whnf
  refine ⟨fun h => ?_, fun h => ?_⟩
  · have h : i < 4 := by have := of_decide_eq_true h; omega
    have hs1 : okT (filtS (fun x => !isT x) s i) := okT_filtS hs i
    conv => whnf
    refine .there i rfl h ?_
    conv => whnf
    refine Spec.set (q := i) (l' := (s i).filter fun x => !isT x) (args0 := [.ptr 0 0, .func 27 []]) (u0 := 1) (caps := []) (by rw [filtS_at]; exact dropClear_ok (s i) (hs i)) [] hs1 h (Nat.le_trans (List.length_filter_le _ _) (hs i)) rfl (noWr_out rfl) (fun ρ => ha_at (by show 0 + 0 + i * 33 = 33 * i; omega)) rfl trivial rfl rfl ?_
    rw [filtS_succ]
    conv => whnf
    exact ⟨i + 1, by omega, by omega, ⟨rfl, rfl, congrArg (fun x => some (SV.int .i64 x)) (by rw [wrap_i64' _ (by omega) (by omega)]; omega), trivial⟩, ⟨rfl, trivial⟩⟩
  · have h : i = 4 := by have := of_decide_eq_false h; omega
    subst h
    conv => whnf
    exact ⟨fun _ => rfl, rfl, trivial⟩

theorem lines_ok (s : Nat → List Ln) (rest : List Value) (hs : okT s) : Fun Try.prog 8 [.ptr 0 0] [(0, .view (tlbC s rest))] 1 1 (okS (preL s 4).length) (fun x => .slz x.1 1 0 (preL s 4).length x.2) (fun x => [(1, .row (linesV (preL s 4)))]) := by
  unfold Fun
  refine Spec.of_body tabOk Try.func8 rfl (ent Try.func8 rfl (by kernel_rfl)) Try.ntmps8 rfl (by kernel_rfl) (Nat.le_of_ble_eq_true rfl) ?_
  conv => whnf
  refine CodeL.loopG tabOk 2 (by decide) (fun x : Nat × Bool × Nat => ([(0, .ptr 0 0), (3, .slz x.2.1 1 0 (preL s x.1).length x.2.2), (8, .int .i64 (x.1 : Int))], [(0, .view (tlbC s rest)), (1, .vec (linesV (preL s x.1)) (x.2.2 * 16))]))
    (fun x => 4 - x.1) (fun x => x.1 ≤ 4 ∧ okS (preL s x.1).length x.2) rfl (fun x => rfl) (0, true, 0) ⟨Nat.zero_le _, Nat.le_refl _, fun _ => rfl⟩ (fun i => (i, 0)) (fun _ _ => rfl) ⟨⟨⟨_, rfl, fun _ => rfl⟩, ⟨_, rfl, fun _ => rfl⟩, ⟨_, rfl, fun _ => rfl⟩, trivial⟩,
      Part.same ⟨⟨by decide, rfl, rfl, _, rfl, fun _ => rfl, Nat.le_refl _, fun _ => Nat.le_refl _, id⟩, ⟨by decide, rfl, rfl, _, rfl, fun _ => rfl, Nat.le_refl _, fun _ => Nat.le_refl _, id⟩, trivial⟩ (fun i j _ _ h => h)⟩ ?_
  rintro ⟨i, b, c⟩ ⟨hi, hc⟩
  have hi : i ≤ 4 := hi
  have hc : okS (preL s i).length (b, c) := hc
  dsimp only
  conv => whnf
  refine ⟨fun h => ?_, fun h => ?_⟩
  · have h : i < 4 := by have := of_decide_eq_true h; omega
    have hl := hs i
    have hp := preL_len hs i
    conv => whnf
    refine .there i rfl h ?_
    conv => whnf
    refine CodeL.draw tabOk Try.checked.mixed 13 (by kernel_rfl) rfl ?_
    conv => whnf
    refine .at1 (.int .i64 ((s i).length : Int)) (33 * i + 32) (by show 0 + 0 + i * 33 + 32 = _; omega) (tlbC_n hs rest h) rfl ?_
    conv => whnf
    refine .at1 (.int .i64 ((s i).length : Int)) (33 * i + 32) (by show 0 + 0 + i * 33 + 32 = _; omega) (tlbC_n hs rest h) rfl ?_
    conv => whnf
    refine VL.qop rfl (VL.slice tabOk ?_)
    conv => whnf
    refine ⟨0, (s i).length, (s i).length, rfl, rfl, rfl, rfl, Nat.zero_le _, Nat.le_refl _, hl, ?_⟩
    conv => whnf
    refine OpL.app tabOk ?_
    conv => whnf
    refine ⟨linesV (s i), fun ρ => ?_, by rw [linesV_len, Nat.sub_zero], by rw [linesV_len], rfl, hc.1, by omega, by show ((preL s i).length + ((s i).length - 0)) * 48 ≤ 140737488355328; omega, fun b' c' hc' hb' => ?_⟩
    · show ((tlbC s rest).drop (sOff (s i).length 0 (0 + 0 + i * 33 + 0) 16)).take (((s i).length - 0) * 16) = linesV (s i)
      rw [sOff_zero, Nat.sub_zero, show 0 + 0 + i * 33 + 0 = 33 * i by omega, tlbC_lines hs rest h]
    have hlen : (preL s (i + 1)).length = (preL s i).length + ((s i).length - 0) := by simp only [preL, List.length_append, Nat.sub_zero]
    conv => whnf
    exact ⟨(i + 1, b', c'), to1 1 2, ⟨by show i + 1 ≤ 4; omega, by rw [hlen]; exact hc', fun h => (hb' h).2⟩, by simp only; omega, to1_low (by decide), ⟨⟨_, rfl, fun _ => rfl⟩, ⟨_, rfl, fun ρ => by rw [hlen]; rfl⟩, ⟨_, rfl, fun _ => congrArg (fun x => Value.int .i64 x) (by rw [wrap_i64' _ (by omega) (by omega)]; omega)⟩, trivial⟩,
      Part.same ⟨⟨by decide, rfl, rfl, _, rfl, fun _ => rfl, Nat.le_refl _, fun _ => Nat.le_refl _, id⟩, ⟨by decide, rfl, rfl, _, rfl, fun _ => by simp only [SO.vals, preL, linesV_append], Nat.le_refl _, fun _ => by show (linesV (preL s (i + 1))).length ≤ c' * 16; rw [linesV_len, hlen]; exact Nat.mul_le_mul_right _ hc', id⟩, trivial⟩ (to1_inj (.inr (by decide)))⟩
  · have h : i = 4 := by have := of_decide_eq_false h; omega
    subst h
    conv => whnf
    exact ⟨(b, c), fun i => (i, 0), hc, fun _ _ => rfl, Part.same ⟨⟨by decide, rfl, rfl, _, rfl, fun _ => rfl, by show (linesV (preL s 4)).length ≤ c * 16; rw [linesV_len]; exact Nat.mul_le_mul_right _ hc.1, fun _ => Nat.le_refl _, id⟩, trivial⟩ (fun i j _ _ h => h), fun ρ => rfl⟩
end Go.Sh.Ytmfpndffepjcpaa
