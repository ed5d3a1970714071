import Derived.Test.YtkopfaenfaelfaaChecked
import Derived.Test.YtkopfaenfaelfaaRam1
set_option linter.unusedVariables false
namespace Go.Sh.Ytkopfaenfaelfaa
open Go.Proofs Go.Sh

theorem row3 : TIok Try.prog 3 ⟨.int .i64, 1, 8, .cells [.int .i64 0]⟩ := .of_cells (.int .i64 0) Try.underlying3 (by kernel_rfl) rfl rfl rfl rfl
theorem row4 : TIok Try.prog 4 ⟨.bool, 1, 1, .cells [.ff]⟩ := .of_cells (.bool false) Try.underlying4 (by kernel_rfl) rfl rfl rfl rfl
theorem row22 : TIok Try.prog 22 ⟨.int .u64, 1, 8, .cells [.int .u64 0]⟩ := .of_cells (.int .u64 0) Try.underlying22 (by kernel_rfl) rfl rfl rfl rfl
theorem row24 : TIok Try.prog 24 ⟨.struct #[⟨ "Base", 22, 0, false, "", "", 0⟩, ⟨ "Top", 22, 1, false, "", "", 8⟩], 2, 16, .cells [.int .u64 0, .int .u64 0]⟩ := .of_cells (.agg #[.int .u64 0, .int .u64 0]) Try.underlying24 (by kernel_rfl) rfl rfl rfl rfl
theorem row25 : TIok Try.prog 25 ⟨.map 22 39, 1, 8, .cells [.nilMap]⟩ := .of_cells (.map none) Try.underlying25 (by kernel_rfl) rfl rfl rfl rfl
theorem row27 : TIok Try.prog 27 ⟨.struct #[⟨ "pages", 25, 0, false, "", "mintmark/paint", 0⟩], 1, 8, .cells [.nilMap]⟩ := .of_cells (.agg #[.map none]) Try.underlying27 (by kernel_rfl) rfl rfl rfl rfl
theorem row33 : TIok Try.prog 33 ⟨.slice 24, 1, 24, .cells [.nilSlice]⟩ := .of_cells (.slice none 0 0) Try.underlying33 (by kernel_rfl) rfl rfl rfl rfl
theorem row39 : TIok Try.prog 39 ⟨.array 4 22, 4, 32, .cells [.int .u64 0, .int .u64 0, .int .u64 0, .int .u64 0]⟩ := .of_cells (.agg #[.int .u64 0, .int .u64 0, .int .u64 0, .int .u64 0]) Try.underlying39 (by kernel_rfl) rfl rfl rfl rfl
theorem row59 : TIok Try.prog 59 ⟨.int .u64, 1, 8, .cells [.int .u64 0]⟩ := .of_cells (.int .u64 0) Try.underlying59 (by kernel_rfl) rfl rfl rfl rfl
noncomputable def tab : Tab := [(3, ⟨.int .i64, 1, 8, .cells [.int .i64 0]⟩), (4, ⟨.bool, 1, 1, .cells [.ff]⟩), (22, ⟨.int .u64, 1, 8, .cells [.int .u64 0]⟩), (24, ⟨.struct #[⟨ "Base", 22, 0, false, "", "", 0⟩, ⟨ "Top", 22, 1, false, "", "", 8⟩], 2, 16, .cells [.int .u64 0, .int .u64 0]⟩), (25, ⟨.map 22 39, 1, 8, .cells [.nilMap]⟩), (27, ⟨.struct #[⟨ "pages", 25, 0, false, "", "mintmark/paint", 0⟩], 1, 8, .cells [.nilMap]⟩), (33, ⟨.slice 24, 1, 24, .cells [.nilSlice]⟩), (39, ⟨.array 4 22, 4, 32, .cells [.int .u64 0, .int .u64 0, .int .u64 0, .int .u64 0]⟩), (59, ⟨.int .u64, 1, 8, .cells [.int .u64 0]⟩)]
theorem tabOk : TabOk Try.prog tab := .cons row3 <| .cons row4 <| .cons row22 <| .cons row24 <| .cons row25 <| .cons row27 <| .cons row33 <| .cons row39 <| .cons row59 <| .nil _

end Go.Sh.Ytkopfaenfaelfaa
