import Derived.Test.YtimlenccbchidaaRRRChecked
import Derived.Test.YtimlenccbchidaaRRRRam1
set_option linter.unusedVariables false
namespace Go.Sh.YtimlenccbchidaaRRR
open Go.Proofs Go.Sh

theorem row3 : TIok Try.prog 3 ⟨.int .i64, 1, 8, .cells [.int .i64 0]⟩ := .of_cells (.int .i64 0) Try.underlying3 (by kernel_rfl) rfl rfl rfl rfl
theorem row4 : TIok Try.prog 4 ⟨.bool, 1, 1, .cells [.ff]⟩ := .of_cells (.bool false) Try.underlying4 (by kernel_rfl) rfl rfl rfl rfl
theorem row5 : TIok Try.prog 5 ⟨.int .u8, 1, 1, .cells [.int .u8 0]⟩ := .of_cells (.int .u8 0) Try.underlying5 (by kernel_rfl) rfl rfl rfl rfl
theorem row22 : TIok Try.prog 22 ⟨.int .u64, 1, 8, .cells [.int .u64 0]⟩ := .of_cells (.int .u64 0) Try.underlying22 (by kernel_rfl) rfl rfl rfl rfl
theorem row23 : TIok Try.prog 23 ⟨.pointer 42, 1, 8, .cells [.nil]⟩ := .of_cells (.pointer none) Try.underlying23 (by kernel_rfl) rfl rfl rfl rfl
theorem row24 : TIok Try.prog 24 ⟨.int .i64, 1, 8, .cells [.int .i64 0]⟩ := .of_cells (.int .i64 0) Try.underlying24 (by kernel_rfl) rfl rfl rfl rfl
theorem row27 : TIok Try.prog 27 ⟨.int .u64, 1, 8, .cells [.int .u64 0]⟩ := .of_cells (.int .u64 0) Try.underlying27 (by kernel_rfl) rfl rfl rfl rfl
theorem row33 : TIok Try.prog 33 ⟨.struct #[⟨ "Tag", 4, 0, false, "", "", 0⟩, ⟨ "Meta", 22, 1, false, "", "", 8⟩, ⟨ "Addr", 22, 2, false, "", "", 16⟩], 3, 24, .cells [.ff, .int .u64 0, .int .u64 0]⟩ := .of_cells (.agg #[.bool false, .int .u64 0, .int .u64 0]) Try.underlying33 (by kernel_rfl) rfl rfl rfl rfl
theorem row37 : TIok Try.prog 37 ⟨.array 16 5, 16, 16, .cells [.int .u8 0, .int .u8 0, .int .u8 0, .int .u8 0, .int .u8 0, .int .u8 0, .int .u8 0, .int .u8 0, .int .u8 0, .int .u8 0, .int .u8 0, .int .u8 0, .int .u8 0, .int .u8 0, .int .u8 0, .int .u8 0]⟩ := .of_cells (.agg #[.int .u8 0, .int .u8 0, .int .u8 0, .int .u8 0, .int .u8 0, .int .u8 0, .int .u8 0, .int .u8 0, .int .u8 0, .int .u8 0, .int .u8 0, .int .u8 0, .int .u8 0, .int .u8 0, .int .u8 0, .int .u8 0]) Try.underlying37 (by kernel_rfl) rfl rfl rfl rfl
theorem row40 : TIok Try.prog 40 ⟨.slice 53, 1, 24, .cells [.nilSlice]⟩ := .of_cells (.slice none 0 0) Try.underlying40 (by kernel_rfl) rfl rfl rfl rfl
theorem row42 : TIok Try.prog 42 ⟨.struct #[⟨ "frames", 40, 0, false, "", "mintmark/ram", 0⟩], 1, 24, .cells [.nilSlice]⟩ := .of_cells (.agg #[.slice none 0 0]) Try.underlying42 (by kernel_rfl) rfl rfl rfl rfl
theorem row45 : TIok Try.prog 45 ⟨.pointer 53, 1, 8, .cells [.nil]⟩ := .of_cells (.pointer none) Try.underlying45 (by kernel_rfl) rfl rfl rfl rfl
theorem row49 : TIok Try.prog 49 ⟨.array 4096 5, 4096, 4096, .row (bigZ Try.prog 49)⟩ := .of_big Try.underlying49 (by kernel_rfl)
theorem row51 : TIok Try.prog 51 ⟨.array 4 22, 4, 32, .cells [.int .u64 0, .int .u64 0, .int .u64 0, .int .u64 0]⟩ := .of_cells (.agg #[.int .u64 0, .int .u64 0, .int .u64 0, .int .u64 0]) Try.underlying51 (by kernel_rfl) rfl rfl rfl rfl
theorem row53 : TIok Try.prog 53 ⟨.struct #[⟨ "Bytes", 49, 0, false, "", "", 0⟩, ⟨ "Tags", 51, 4096, false, "", "", 4096⟩], 4100, 4128, .row (bigZ Try.prog 53)⟩ := .of_big Try.underlying53 (by kernel_rfl)
theorem row57 : TIok Try.prog 57 ⟨.slice 5, 1, 24, .cells [.nilSlice]⟩ := .of_cells (.slice none 0 0) Try.underlying57 (by kernel_rfl) rfl rfl rfl rfl
noncomputable def tab : Tab := [(3, ⟨.int .i64, 1, 8, .cells [.int .i64 0]⟩), (4, ⟨.bool, 1, 1, .cells [.ff]⟩), (5, ⟨.int .u8, 1, 1, .cells [.int .u8 0]⟩), (22, ⟨.int .u64, 1, 8, .cells [.int .u64 0]⟩), (23, ⟨.pointer 42, 1, 8, .cells [.nil]⟩), (24, ⟨.int .i64, 1, 8, .cells [.int .i64 0]⟩), (27, ⟨.int .u64, 1, 8, .cells [.int .u64 0]⟩), (33, ⟨.struct #[⟨ "Tag", 4, 0, false, "", "", 0⟩, ⟨ "Meta", 22, 1, false, "", "", 8⟩, ⟨ "Addr", 22, 2, false, "", "", 16⟩], 3, 24, .cells [.ff, .int .u64 0, .int .u64 0]⟩), (37, ⟨.array 16 5, 16, 16, .cells [.int .u8 0, .int .u8 0, .int .u8 0, .int .u8 0, .int .u8 0, .int .u8 0, .int .u8 0, .int .u8 0, .int .u8 0, .int .u8 0, .int .u8 0, .int .u8 0, .int .u8 0, .int .u8 0, .int .u8 0, .int .u8 0]⟩), (40, ⟨.slice 53, 1, 24, .cells [.nilSlice]⟩), (42, ⟨.struct #[⟨ "frames", 40, 0, false, "", "mintmark/ram", 0⟩], 1, 24, .cells [.nilSlice]⟩), (45, ⟨.pointer 53, 1, 8, .cells [.nil]⟩), (49, ⟨.array 4096 5, 4096, 4096, .row (bigZ Try.prog 49)⟩), (51, ⟨.array 4 22, 4, 32, .cells [.int .u64 0, .int .u64 0, .int .u64 0, .int .u64 0]⟩), (53, ⟨.struct #[⟨ "Bytes", 49, 0, false, "", "", 0⟩, ⟨ "Tags", 51, 4096, false, "", "", 4096⟩], 4100, 4128, .row (bigZ Try.prog 53)⟩), (57, ⟨.slice 5, 1, 24, .cells [.nilSlice]⟩)]
theorem tabOk : TabOk Try.prog tab := .cons row3 <| .cons row4 <| .cons row5 <| .cons row22 <| .cons row23 <| .cons row24 <| .cons row27 <| .cons row33 <| .cons row37 <| .cons row40 <| .cons row42 <| .cons row45 <| .cons row49 <| .cons row51 <| .cons row53 <| .cons row57 <| .nil _

end Go.Sh.YtimlenccbchidaaRRR
