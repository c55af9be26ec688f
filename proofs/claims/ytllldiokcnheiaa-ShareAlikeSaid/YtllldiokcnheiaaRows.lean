/-
  No cell of these rows narrows 'for every input' (looked for: loops, veiled, ifaces, maps, wideKeys, modest, calm, conditions, laid).
  DERIVED. THE GIVEN ROWS OF THIS SEAT. 3 by the template 'for every input the law returns true; each argument reads behind the call as it read before'; 0 by the template 'total and deterministic' (their statements: YtllldiokcnheiaaTotals.lean).
  GIVEN WITH THE SEED: the statements are not yours to turn. If you find one false, say at which input.
  Laid BY PROGRAM, IN A SANDBOX (cutbox-rows.mjs): the forced cells as the released guide's own fill.sh prints them over the translation ecf8a2a5f46ea1f8… (all of the seat's roots in one cut). By AI agents, Wed Nov 11 2026. No macro, syntax, notation, axiom, sorry.
-/
import Derived.Test.YtllldiokcnheiaaChecked
import GoSem.Claim
import GoSem.ClaimJoined
import GoSem.ClaimMapViews
import Derived.JoinedTies
import Derived.KernelRfl
namespace Go.Proofs.Ytllldiokcnheiaa
/- THE CELL 'sum', in the pinned program and in every row, IS THE sha256 OF THE DUMP (.gsa) THAT YtllldiokcnheiaaProg.lean LOADS. Nothing in Lean hashes anything: it is a label: what it is worth is what the hold of that sum in a sandbox is worth. -/
noncomputable def Try.pinned : Pinned := { name := "ytllldiokcnheiaa", sum := "ecf8a2a5f46ea1f8ff61bf524b82886c1ffd0393d15add0b6868405ddb2a34c1", checked := Try.checked }
namespace Rows
def none {H : Type} : Left H := { results := [], args := [] }

/-- 'bellarminelaw07.ShareAlike': WHATEVER THE INPUT: true; the input reads as it did. -/
def shareAlikeSpec : ChangeSpec := { name := "shareAlike", fn := fun _ => fun
  | [d1, d2] => { results := [.lit (.bool true)], args := [d1, d2] }
  | _ => none }
def shareAlikeRow : OpenClaim := { program := "ytllldiokcnheiaa", sum := "ecf8a2a5f46ea1f8ff61bf524b82886c1ffd0393d15add0b6868405ddb2a34c1", func := "bellarmine/bellarminelaw07.ShareAlike", spec := "shareAlike", unfollowed := true, recurses := true, apart := false }
def ShareAlikeSaid : Prop := shareAlikeRow.holds Try.pinned (OpenSpec.ofChange shareAlikeSpec)

/-- ITS FALSE NEIGHBOUR: 'it returns false'. Refute it at one input. -/
def shareAlikeWrong : ChangeSpec := { name := "shareAlike", fn := fun _ => fun
  | [d1, d2] => { results := [.lit (.bool false)], args := [d1, d2] }
  | _ => none }
def ShareAlikeWrongFalsely : Prop := shareAlikeRow.holds Try.pinned (OpenSpec.ofChange shareAlikeWrong)

/-- 'bellarminelaw07.ShareTimes': WHATEVER THE INPUT: true; the input reads as it did. -/
def shareTimesSpec : ChangeSpec := { name := "shareTimes", fn := fun _ => fun
  | [d1, d2, d3, d4] => { results := [.lit (.bool true)], args := [d1, d2, d3, d4] }
  | _ => none }
def shareTimesRow : OpenClaim := { program := "ytllldiokcnheiaa", sum := "ecf8a2a5f46ea1f8ff61bf524b82886c1ffd0393d15add0b6868405ddb2a34c1", func := "bellarmine/bellarminelaw07.ShareTimes", spec := "shareTimes", unfollowed := true, recurses := true, apart := false }
def ShareTimesSaid : Prop := shareTimesRow.holds Try.pinned (OpenSpec.ofChange shareTimesSpec)

/-- ITS FALSE NEIGHBOUR: 'it returns false'. Refute it at one input. -/
def shareTimesWrong : ChangeSpec := { name := "shareTimes", fn := fun _ => fun
  | [d1, d2, d3, d4] => { results := [.lit (.bool false)], args := [d1, d2, d3, d4] }
  | _ => none }
def ShareTimesWrongFalsely : Prop := shareTimesRow.holds Try.pinned (OpenSpec.ofChange shareTimesWrong)

/-- 'bellarminelaw07.ShareNamed': WHATEVER THE INPUT: true; the input reads as it did. -/
def shareNamedSpec : ChangeSpec := { name := "shareNamed", fn := fun _ => fun
  | [d1, d2] => { results := [.lit (.bool true)], args := [d1, d2] }
  | _ => none }
def shareNamedRow : OpenClaim := { program := "ytllldiokcnheiaa", sum := "ecf8a2a5f46ea1f8ff61bf524b82886c1ffd0393d15add0b6868405ddb2a34c1", func := "bellarmine/bellarminelaw07.ShareNamed", spec := "shareNamed", unfollowed := true, recurses := true, apart := false }
def ShareNamedSaid : Prop := shareNamedRow.holds Try.pinned (OpenSpec.ofChange shareNamedSpec)

/-- ITS FALSE NEIGHBOUR: 'it returns false'. Refute it at one input. -/
def shareNamedWrong : ChangeSpec := { name := "shareNamed", fn := fun _ => fun
  | [d1, d2] => { results := [.lit (.bool false)], args := [d1, d2] }
  | _ => none }
def ShareNamedWrongFalsely : Prop := shareNamedRow.holds Try.pinned (OpenSpec.ofChange shareNamedWrong)

/- THE SECOND FORM. 'bulk': how many values and letters a reading holds, each counted each time it is reached (what is shared counts as often as it is met; a slice's spare places count too). A statement '..UptoSaid' is the law's where the arguments, and the package variables that the reading takes, are together of bulk at most 1048576: NARROWER than '..Said'. Prove '..Said' where nothing that the law and all that it calls make is longer than what came in: it says more and counts as full. Else prove '..UptoSaid'. A law counts once. -/
mutual
def uptoBulk {H : Type} : DataW H → Nat
  | .lit (.string bytes) => bytes.length + 1
  | .lit _ => 1
  | .nil => 1
  | .ptr d => uptoBulk d + 1
  | .slice elems spare => uptoBulkAll elems + uptoBulkAll spare + 1
  | .agg parts => uptoBulkAll parts + 1
  | .iface _ d => uptoBulk d + 1
  | .map entries => uptoBulkEntries entries + 1
  | .held _ => 1
def uptoBulkAll {H : Type} : List (DataW H) → Nat
  | [] => 0
  | d :: r => uptoBulk d + uptoBulkAll r
def uptoBulkEntries {H : Type} : List (Lit × DataW H) → Nat
  | [] => 0
  | x :: r => uptoBulkEntry x + uptoBulkEntries r
def uptoBulkEntry {H : Type} : Lit × DataW H → Nat
  | (.string bytes, d) => bytes.length + uptoBulk d + 1
  | (_, d) => uptoBulk d + 1
 end
def uptoSmall : (H : Type) → List (DataW H) → Bool := fun _ ds => decide (uptoBulkAll ds ≤ 1048576)
def OpenSpec.upto (s : _root_.Go.ChangeSpec) : _root_.Go.OpenSpec := { _root_.Go.OpenSpec.ofChange s with cond := some uptoSmall }

/-- 'bellarminelaw07.ShareAlike', WHERE WHAT IT READS IS OF BULK AT MOST 1048576: true; the input reads as it did. -/
def shareAlikeUptoRow : OpenClaim := { program := "ytllldiokcnheiaa", sum := "ecf8a2a5f46ea1f8ff61bf524b82886c1ffd0393d15add0b6868405ddb2a34c1", func := "bellarmine/bellarminelaw07.ShareAlike", spec := "shareAlike", unfollowed := true, recurses := true, apart := false, narrowed := true }
def ShareAlikeUptoSaid : Prop := shareAlikeUptoRow.holds Try.pinned (OpenSpec.upto shareAlikeSpec)

/-- 'bellarminelaw07.ShareTimes', WHERE WHAT IT READS IS OF BULK AT MOST 1048576: true; the input reads as it did. -/
def shareTimesUptoRow : OpenClaim := { program := "ytllldiokcnheiaa", sum := "ecf8a2a5f46ea1f8ff61bf524b82886c1ffd0393d15add0b6868405ddb2a34c1", func := "bellarmine/bellarminelaw07.ShareTimes", spec := "shareTimes", unfollowed := true, recurses := true, apart := false, narrowed := true }
def ShareTimesUptoSaid : Prop := shareTimesUptoRow.holds Try.pinned (OpenSpec.upto shareTimesSpec)

/-- 'bellarminelaw07.ShareNamed', WHERE WHAT IT READS IS OF BULK AT MOST 1048576: true; the input reads as it did. -/
def shareNamedUptoRow : OpenClaim := { program := "ytllldiokcnheiaa", sum := "ecf8a2a5f46ea1f8ff61bf524b82886c1ffd0393d15add0b6868405ddb2a34c1", func := "bellarmine/bellarminelaw07.ShareNamed", spec := "shareNamed", unfollowed := true, recurses := true, apart := false, narrowed := true }
def ShareNamedUptoSaid : Prop := shareNamedUptoRow.holds Try.pinned (OpenSpec.upto shareNamedSpec)

end Rows
end Go.Proofs.Ytllldiokcnheiaa
