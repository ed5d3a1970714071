/-
  No cell of these rows narrows 'for every input' (looked for: loops, veiled, ifaces, maps, wideKeys, modest, calm, conditions, laid).
  DERIVED. THE GIVEN ROWS OF THIS SEAT. 5 by the template 'for every input the law returns true; each argument reads behind the call as it read before'; 0 by the template 'total and deterministic' (their statements: YthpalblfkpmpeaaTotals.lean).
  GIVEN WITH THE SEED: the statements are not yours to turn. If you find one false, say at which input.
  Laid BY PROGRAM, IN A SANDBOX (cutbox-rows.mjs): the forced cells as the released guide's own fill.sh prints them over the translation 37bd2aa40ac2dfd2… (all of the seat's roots in one cut). By AI agents, Wed Nov 11 2026. No macro, syntax, notation, axiom, sorry.
-/
import Derived.Test.YthpalblfkpmpeaaChecked
import GoSem.Claim
import GoSem.ClaimJoined
import GoSem.ClaimMapViews
import Derived.JoinedTies
import Derived.KernelRfl
namespace Go.Proofs.Ythpalblfkpmpeaa
/- THE CELL 'sum', in the pinned program and in every row, IS THE sha256 OF THE DUMP (.gsa) THAT YthpalblfkpmpeaaProg.lean LOADS. Nothing in Lean hashes anything: it is a label: what it is worth is what the hold of that sum in a sandbox is worth. -/
noncomputable def Try.pinned : Pinned := { name := "ythpalblfkpmpeaa", sum := "37bd2aa40ac2dfd2310609e617d3acdf23c94d8fe43bc6434c7886b287347a5f", checked := Try.checked }
namespace Rows
def none {H : Type} : Left H := { results := [], args := [] }

/-- 'mintmarklaw10.WalkFinds': WHATEVER THE INPUT: true; the input reads as it did. -/
def walkFindsSpec : ChangeSpec := { name := "walkFinds", fn := fun _ => fun
  | [d1, d2, d3] => { results := [.lit (.bool true)], args := [d1, d2, d3] }
  | _ => none }
def walkFindsRow : OpenClaim := { program := "ythpalblfkpmpeaa", sum := "37bd2aa40ac2dfd2310609e617d3acdf23c94d8fe43bc6434c7886b287347a5f", func := "mintmark/mintmarklaw10.WalkFinds", spec := "walkFinds", unfollowed := true, recurses := true, apart := false }
def WalkFindsSaid : Prop := walkFindsRow.holds Try.pinned (OpenSpec.ofChange walkFindsSpec)

/-- ITS FALSE NEIGHBOUR: 'it returns false'. Refute it at one input. -/
def walkFindsWrong : ChangeSpec := { name := "walkFinds", fn := fun _ => fun
  | [d1, d2, d3] => { results := [.lit (.bool false)], args := [d1, d2, d3] }
  | _ => none }
def WalkFindsWrongFalsely : Prop := walkFindsRow.holds Try.pinned (OpenSpec.ofChange walkFindsWrong)

/-- 'mintmarklaw10.WalkApart': WHATEVER THE INPUT: true; the input reads as it did. -/
def walkApartSpec : ChangeSpec := { name := "walkApart", fn := fun _ => fun
  | [d1, d2, d3] => { results := [.lit (.bool true)], args := [d1, d2, d3] }
  | _ => none }
def walkApartRow : OpenClaim := { program := "ythpalblfkpmpeaa", sum := "37bd2aa40ac2dfd2310609e617d3acdf23c94d8fe43bc6434c7886b287347a5f", func := "mintmark/mintmarklaw10.WalkApart", spec := "walkApart", unfollowed := true, recurses := true, apart := false }
def WalkApartSaid : Prop := walkApartRow.holds Try.pinned (OpenSpec.ofChange walkApartSpec)

/-- ITS FALSE NEIGHBOUR: 'it returns false'. Refute it at one input. -/
def walkApartWrong : ChangeSpec := { name := "walkApart", fn := fun _ => fun
  | [d1, d2, d3] => { results := [.lit (.bool false)], args := [d1, d2, d3] }
  | _ => none }
def WalkApartWrongFalsely : Prop := walkApartRow.holds Try.pinned (OpenSpec.ofChange walkApartWrong)

/-- 'mintmarklaw10.WalkLeaves': WHATEVER THE INPUT: true; the input reads as it did. -/
def walkLeavesSpec : ChangeSpec := { name := "walkLeaves", fn := fun _ => fun
  | [d1, d2, d3] => { results := [.lit (.bool true)], args := [d1, d2, d3] }
  | _ => none }
def walkLeavesRow : OpenClaim := { program := "ythpalblfkpmpeaa", sum := "37bd2aa40ac2dfd2310609e617d3acdf23c94d8fe43bc6434c7886b287347a5f", func := "mintmark/mintmarklaw10.WalkLeaves", spec := "walkLeaves", unfollowed := true, recurses := true, apart := false }
def WalkLeavesSaid : Prop := walkLeavesRow.holds Try.pinned (OpenSpec.ofChange walkLeavesSpec)

/-- ITS FALSE NEIGHBOUR: 'it returns false'. Refute it at one input. -/
def walkLeavesWrong : ChangeSpec := { name := "walkLeaves", fn := fun _ => fun
  | [d1, d2, d3] => { results := [.lit (.bool false)], args := [d1, d2, d3] }
  | _ => none }
def WalkLeavesWrongFalsely : Prop := walkLeavesRow.holds Try.pinned (OpenSpec.ofChange walkLeavesWrong)

/-- 'mintmarklaw10.WalkChecks': WHATEVER THE INPUT: true; the input reads as it did. -/
def walkChecksSpec : ChangeSpec := { name := "walkChecks", fn := fun _ => fun
  | [d1, d2, d3] => { results := [.lit (.bool true)], args := [d1, d2, d3] }
  | _ => none }
def walkChecksRow : OpenClaim := { program := "ythpalblfkpmpeaa", sum := "37bd2aa40ac2dfd2310609e617d3acdf23c94d8fe43bc6434c7886b287347a5f", func := "mintmark/mintmarklaw10.WalkChecks", spec := "walkChecks", unfollowed := true, recurses := true, apart := false }
def WalkChecksSaid : Prop := walkChecksRow.holds Try.pinned (OpenSpec.ofChange walkChecksSpec)

/-- ITS FALSE NEIGHBOUR: 'it returns false'. Refute it at one input. -/
def walkChecksWrong : ChangeSpec := { name := "walkChecks", fn := fun _ => fun
  | [d1, d2, d3] => { results := [.lit (.bool false)], args := [d1, d2, d3] }
  | _ => none }
def WalkChecksWrongFalsely : Prop := walkChecksRow.holds Try.pinned (OpenSpec.ofChange walkChecksWrong)

/-- 'mintmarklaw10.WalkMarks': WHATEVER THE INPUT: true; the input reads as it did. -/
def walkMarksSpec : ChangeSpec := { name := "walkMarks", fn := fun _ => fun
  | [d1, d2, d3] => { results := [.lit (.bool true)], args := [d1, d2, d3] }
  | _ => none }
def walkMarksRow : OpenClaim := { program := "ythpalblfkpmpeaa", sum := "37bd2aa40ac2dfd2310609e617d3acdf23c94d8fe43bc6434c7886b287347a5f", func := "mintmark/mintmarklaw10.WalkMarks", spec := "walkMarks", unfollowed := true, recurses := true, apart := false }
def WalkMarksSaid : Prop := walkMarksRow.holds Try.pinned (OpenSpec.ofChange walkMarksSpec)

/-- ITS FALSE NEIGHBOUR: 'it returns false'. Refute it at one input. -/
def walkMarksWrong : ChangeSpec := { name := "walkMarks", fn := fun _ => fun
  | [d1, d2, d3] => { results := [.lit (.bool false)], args := [d1, d2, d3] }
  | _ => none }
def WalkMarksWrongFalsely : Prop := walkMarksRow.holds Try.pinned (OpenSpec.ofChange walkMarksWrong)

/- THE SECOND FORM. 'bulk': how many values and letters a reading holds, each counted each time it is reached (what is shared counts as often as it is met; a slice's spare places count too). A statement '..UptoSaid' is the law's where the arguments, and the package variables that the reading takes, are together of bulk at most 1048576: NARROWER than '..Said'. Prove '..Said' where nothing that the law and all that it calls make is longer than what came in: it says more and counts as full. Else prove '..UptoSaid'. A law counts once. -/
mutual
def uptoBulk {H : Type} : DataW H → Nat
  | .lit (.string bytes) => bytes.length + 1
  | .lit _ => 1
  | .nil => 1
  | .ptr d => uptoBulk d + 1
  | .slice elems spare => uptoBulkAll elems + uptoBulkAll spare + 1
  | .agg parts => uptoBulkAll parts + 1
  | .iface _ d => uptoBulk d + 1
  | .map entries => uptoBulkEntries entries + 1
  | .held _ => 1
def uptoBulkAll {H : Type} : List (DataW H) → Nat
  | [] => 0
  | d :: r => uptoBulk d + uptoBulkAll r
def uptoBulkEntries {H : Type} : List (Lit × DataW H) → Nat
  | [] => 0
  | x :: r => uptoBulkEntry x + uptoBulkEntries r
def uptoBulkEntry {H : Type} : Lit × DataW H → Nat
  | (.string bytes, d) => bytes.length + uptoBulk d + 1
  | (_, d) => uptoBulk d + 1
 end
def uptoSmall : (H : Type) → List (DataW H) → Bool := fun _ ds => decide (uptoBulkAll ds ≤ 1048576)
def OpenSpec.upto (s : _root_.Go.ChangeSpec) : _root_.Go.OpenSpec := { _root_.Go.OpenSpec.ofChange s with cond := some uptoSmall }

/-- 'mintmarklaw10.WalkFinds', WHERE WHAT IT READS IS OF BULK AT MOST 1048576: true; the input reads as it did. -/
def walkFindsUptoRow : OpenClaim := { program := "ythpalblfkpmpeaa", sum := "37bd2aa40ac2dfd2310609e617d3acdf23c94d8fe43bc6434c7886b287347a5f", func := "mintmark/mintmarklaw10.WalkFinds", spec := "walkFinds", unfollowed := true, recurses := true, apart := false, narrowed := true }
def WalkFindsUptoSaid : Prop := walkFindsUptoRow.holds Try.pinned (OpenSpec.upto walkFindsSpec)

/-- 'mintmarklaw10.WalkApart', WHERE WHAT IT READS IS OF BULK AT MOST 1048576: true; the input reads as it did. -/
def walkApartUptoRow : OpenClaim := { program := "ythpalblfkpmpeaa", sum := "37bd2aa40ac2dfd2310609e617d3acdf23c94d8fe43bc6434c7886b287347a5f", func := "mintmark/mintmarklaw10.WalkApart", spec := "walkApart", unfollowed := true, recurses := true, apart := false, narrowed := true }
def WalkApartUptoSaid : Prop := walkApartUptoRow.holds Try.pinned (OpenSpec.upto walkApartSpec)

/-- 'mintmarklaw10.WalkLeaves', WHERE WHAT IT READS IS OF BULK AT MOST 1048576: true; the input reads as it did. -/
def walkLeavesUptoRow : OpenClaim := { program := "ythpalblfkpmpeaa", sum := "37bd2aa40ac2dfd2310609e617d3acdf23c94d8fe43bc6434c7886b287347a5f", func := "mintmark/mintmarklaw10.WalkLeaves", spec := "walkLeaves", unfollowed := true, recurses := true, apart := false, narrowed := true }
def WalkLeavesUptoSaid : Prop := walkLeavesUptoRow.holds Try.pinned (OpenSpec.upto walkLeavesSpec)

/-- 'mintmarklaw10.WalkChecks', WHERE WHAT IT READS IS OF BULK AT MOST 1048576: true; the input reads as it did. -/
def walkChecksUptoRow : OpenClaim := { program := "ythpalblfkpmpeaa", sum := "37bd2aa40ac2dfd2310609e617d3acdf23c94d8fe43bc6434c7886b287347a5f", func := "mintmark/mintmarklaw10.WalkChecks", spec := "walkChecks", unfollowed := true, recurses := true, apart := false, narrowed := true }
def WalkChecksUptoSaid : Prop := walkChecksUptoRow.holds Try.pinned (OpenSpec.upto walkChecksSpec)

/-- 'mintmarklaw10.WalkMarks', WHERE WHAT IT READS IS OF BULK AT MOST 1048576: true; the input reads as it did. -/
def walkMarksUptoRow : OpenClaim := { program := "ythpalblfkpmpeaa", sum := "37bd2aa40ac2dfd2310609e617d3acdf23c94d8fe43bc6434c7886b287347a5f", func := "mintmark/mintmarklaw10.WalkMarks", spec := "walkMarks", unfollowed := true, recurses := true, apart := false, narrowed := true }
def WalkMarksUptoSaid : Prop := walkMarksUptoRow.holds Try.pinned (OpenSpec.upto walkMarksSpec)

end Rows
end Go.Proofs.Ythpalblfkpmpeaa
