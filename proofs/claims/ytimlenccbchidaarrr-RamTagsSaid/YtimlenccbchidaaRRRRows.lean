/-
  No cell of these rows narrows 'for every input' (looked for: loops, veiled, ifaces, maps, wideKeys, modest, calm, conditions, laid).
  DERIVED. THE GIVEN ROWS OF THIS SEAT. 2 by the template 'for every input the law returns true; each argument reads behind the call as it read before'; 0 by the template 'total and deterministic' (their statements: YtimlenccbchidaaRRRTotals.lean).
  GIVEN WITH THE SEED: the statements are not yours to turn. If you find one false, say at which input.
  Laid BY PROGRAM, IN A SANDBOX (cutbox-rows.mjs): the forced cells as the released guide's own fill.sh prints them over the translation d0327766d1ea9279… (all of the seat's roots in one cut). By AI agents, Wed Nov 11 2026. No macro, syntax, notation, axiom, sorry.
-/
import Derived.Test.YtimlenccbchidaaRRRChecked
import GoSem.Claim
import GoSem.ClaimJoined
import GoSem.ClaimMapViews
import Derived.JoinedTies
import Derived.KernelRfl
namespace Go.Proofs.YtimlenccbchidaaRRR
/- THE CELL 'sum', in the pinned program and in every row, IS THE sha256 OF THE DUMP (.gsa) THAT YtimlenccbchidaaRRRProg.lean LOADS. Nothing in Lean hashes anything: it is a label: what it is worth is what the hold of that sum in a sandbox is worth. -/
noncomputable def Try.pinned : Pinned := { name := "ytimlenccbchidaarrr", sum := "d0327766d1ea9279e5d5070058b322d33946970b19b7f520f4d6c68e1b6d8212", checked := Try.checked }
namespace Rows
def none {H : Type} : Left H := { results := [], args := [] }

/-- 'mintmarklaw08.RamNumbers': WHATEVER THE INPUT: true; the input reads as it did. -/
def ramNumbersSpec : ChangeSpec := { name := "ramNumbers", fn := fun _ => fun
  | [d1, d2, d3] => { results := [.lit (.bool true)], args := [d1, d2, d3] }
  | _ => none }
def ramNumbersRow : OpenClaim := { program := "ytimlenccbchidaarrr", sum := "d0327766d1ea9279e5d5070058b322d33946970b19b7f520f4d6c68e1b6d8212", func := "mintmark/mintmarklaw08.RamNumbers", spec := "ramNumbers", unfollowed := true, recurses := true, apart := false }
def RamNumbersSaid : Prop := ramNumbersRow.holds Try.pinned (OpenSpec.ofChange ramNumbersSpec)

/-- ITS FALSE NEIGHBOUR: 'it returns false'. Refute it at one input. -/
def ramNumbersWrong : ChangeSpec := { name := "ramNumbers", fn := fun _ => fun
  | [d1, d2, d3] => { results := [.lit (.bool false)], args := [d1, d2, d3] }
  | _ => none }
def RamNumbersWrongFalsely : Prop := ramNumbersRow.holds Try.pinned (OpenSpec.ofChange ramNumbersWrong)

/-- 'mintmarklaw08.RamTags': WHATEVER THE INPUT: true; the input reads as it did. -/
def ramTagsSpec : ChangeSpec := { name := "ramTags", fn := fun _ => fun
  | [d1, d2, d3] => { results := [.lit (.bool true)], args := [d1, d2, d3] }
  | _ => none }
def ramTagsRow : OpenClaim := { program := "ytimlenccbchidaarrr", sum := "d0327766d1ea9279e5d5070058b322d33946970b19b7f520f4d6c68e1b6d8212", func := "mintmark/mintmarklaw08.RamTags", spec := "ramTags", unfollowed := true, recurses := true, apart := false }
def RamTagsSaid : Prop := ramTagsRow.holds Try.pinned (OpenSpec.ofChange ramTagsSpec)

/-- ITS FALSE NEIGHBOUR: 'it returns false'. Refute it at one input. -/
def ramTagsWrong : ChangeSpec := { name := "ramTags", fn := fun _ => fun
  | [d1, d2, d3] => { results := [.lit (.bool false)], args := [d1, d2, d3] }
  | _ => none }
def RamTagsWrongFalsely : Prop := ramTagsRow.holds Try.pinned (OpenSpec.ofChange ramTagsWrong)

/- THE SECOND FORM. 'bulk': how many values and letters a reading holds, each counted each time it is reached (what is shared counts as often as it is met; a slice's spare places count too). A statement '..UptoSaid' is the law's where the arguments, and the package variables that the reading takes, are together of bulk at most 1048576: NARROWER than '..Said'. Prove '..Said' where nothing that the law and all that it calls make is longer than what came in: it says more and counts as full. Else prove '..UptoSaid'. A law counts once. -/
mutual
def uptoBulk {H : Type} : DataW H → Nat
  | .lit (.string bytes) => bytes.length + 1
  | .lit _ => 1
  | .nil => 1
  | .ptr d => uptoBulk d + 1
  | .slice elems spare => uptoBulkAll elems + uptoBulkAll spare + 1
  | .agg parts => uptoBulkAll parts + 1
  | .iface _ d => uptoBulk d + 1
  | .map entries => uptoBulkEntries entries + 1
  | .held _ => 1
def uptoBulkAll {H : Type} : List (DataW H) → Nat
  | [] => 0
  | d :: r => uptoBulk d + uptoBulkAll r
def uptoBulkEntries {H : Type} : List (Lit × DataW H) → Nat
  | [] => 0
  | x :: r => uptoBulkEntry x + uptoBulkEntries r
def uptoBulkEntry {H : Type} : Lit × DataW H → Nat
  | (.string bytes, d) => bytes.length + uptoBulk d + 1
  | (_, d) => uptoBulk d + 1
 end
def uptoSmall : (H : Type) → List (DataW H) → Bool := fun _ ds => decide (uptoBulkAll ds ≤ 1048576)
def OpenSpec.upto (s : _root_.Go.ChangeSpec) : _root_.Go.OpenSpec := { _root_.Go.OpenSpec.ofChange s with cond := some uptoSmall }

/-- 'mintmarklaw08.RamNumbers', WHERE WHAT IT READS IS OF BULK AT MOST 1048576: true; the input reads as it did. -/
def ramNumbersUptoRow : OpenClaim := { program := "ytimlenccbchidaarrr", sum := "d0327766d1ea9279e5d5070058b322d33946970b19b7f520f4d6c68e1b6d8212", func := "mintmark/mintmarklaw08.RamNumbers", spec := "ramNumbers", unfollowed := true, recurses := true, apart := false, narrowed := true }
def RamNumbersUptoSaid : Prop := ramNumbersUptoRow.holds Try.pinned (OpenSpec.upto ramNumbersSpec)

/-- 'mintmarklaw08.RamTags', WHERE WHAT IT READS IS OF BULK AT MOST 1048576: true; the input reads as it did. -/
def ramTagsUptoRow : OpenClaim := { program := "ytimlenccbchidaarrr", sum := "d0327766d1ea9279e5d5070058b322d33946970b19b7f520f4d6c68e1b6d8212", func := "mintmark/mintmarklaw08.RamTags", spec := "ramTags", unfollowed := true, recurses := true, apart := false, narrowed := true }
def RamTagsUptoSaid : Prop := ramTagsUptoRow.holds Try.pinned (OpenSpec.upto ramTagsSpec)

end Rows
end Go.Proofs.YtimlenccbchidaaRRR
