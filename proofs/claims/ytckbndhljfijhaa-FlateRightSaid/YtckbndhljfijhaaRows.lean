/-
  No cell of these rows narrows 'for every input' (looked for: loops, veiled, ifaces, maps, wideKeys, modest, calm, conditions, laid).
  DERIVED. THE GIVEN ROWS OF THIS SEAT. 4 by the template 'for every input the law returns true; each argument reads behind the call as it read before'; 0 by the template 'total and deterministic' (their statements: YtckbndhljfijhaaTotals.lean).
  GIVEN WITH THE SEED: the statements are not yours to turn. If you find one false, say at which input.
  Laid BY PROGRAM, IN A SANDBOX (cutbox-rows.mjs): the forced cells as the released guide's own fill.sh prints them over the translation 80638661a270d8e3… (all of the seat's roots in one cut). By AI agents, Wed Nov 11 2026. No macro, syntax, notation, axiom, sorry.
-/
import Derived.Test.YtckbndhljfijhaaChecked
import GoSem.Claim
import GoSem.ClaimJoined
import GoSem.ClaimMapViews
import Derived.JoinedTies
import Derived.KernelRfl
namespace Go.Proofs.Ytckbndhljfijhaa
/- THE CELL 'sum', in the pinned program and in every row, IS THE sha256 OF THE DUMP (.gsa) THAT YtckbndhljfijhaaProg.lean LOADS. Nothing in Lean hashes anything: it is a label: what it is worth is what the hold of that sum in a sandbox is worth. -/
noncomputable def Try.pinned : Pinned := { name := "ytckbndhljfijhaa", sum := "80638661a270d8e35b7c28a47829e821d0d9905843a1d1b018143bb178fbca1d", checked := Try.checked }
namespace Rows
def none {H : Type} : Left H := { results := [], args := [] }

/-- 'scumblelaw06.FlateBack': WHATEVER THE INPUT: true; the input reads as it did. -/
def flateBackSpec : ChangeSpec := { name := "flateBack", fn := fun _ => fun
  | [d1, d2, d3] => { results := [.lit (.bool true)], args := [d1, d2, d3] }
  | _ => none }
def flateBackRow : OpenClaim := { program := "ytckbndhljfijhaa", sum := "80638661a270d8e35b7c28a47829e821d0d9905843a1d1b018143bb178fbca1d", func := "scumble/scumblelaw06.FlateBack", spec := "flateBack", unfollowed := true, recurses := true, apart := false }
def FlateBackSaid : Prop := flateBackRow.holds Try.pinned (OpenSpec.ofChange flateBackSpec)

/-- ITS FALSE NEIGHBOUR: 'it returns false'. Refute it at one input. -/
def flateBackWrong : ChangeSpec := { name := "flateBack", fn := fun _ => fun
  | [d1, d2, d3] => { results := [.lit (.bool false)], args := [d1, d2, d3] }
  | _ => none }
def FlateBackWrongFalsely : Prop := flateBackRow.holds Try.pinned (OpenSpec.ofChange flateBackWrong)

/-- 'scumblelaw06.FlateRight': WHATEVER THE INPUT: true; the input reads as it did. -/
def flateRightSpec : ChangeSpec := { name := "flateRight", fn := fun _ => fun
  | [d1, d2] => { results := [.lit (.bool true)], args := [d1, d2] }
  | _ => none }
def flateRightRow : OpenClaim := { program := "ytckbndhljfijhaa", sum := "80638661a270d8e35b7c28a47829e821d0d9905843a1d1b018143bb178fbca1d", func := "scumble/scumblelaw06.FlateRight", spec := "flateRight", unfollowed := true, recurses := true, apart := false }
def FlateRightSaid : Prop := flateRightRow.holds Try.pinned (OpenSpec.ofChange flateRightSpec)

/-- ITS FALSE NEIGHBOUR: 'it returns false'. Refute it at one input. -/
def flateRightWrong : ChangeSpec := { name := "flateRight", fn := fun _ => fun
  | [d1, d2] => { results := [.lit (.bool false)], args := [d1, d2] }
  | _ => none }
def FlateRightWrongFalsely : Prop := flateRightRow.holds Try.pinned (OpenSpec.ofChange flateRightWrong)

/-- 'scumblelaw06.FlateCuts': WHATEVER THE INPUT: true; the input reads as it did. -/
def flateCutsSpec : ChangeSpec := { name := "flateCuts", fn := fun _ => fun
  | [d1, d2, d3, d4] => { results := [.lit (.bool true)], args := [d1, d2, d3, d4] }
  | _ => none }
def flateCutsRow : OpenClaim := { program := "ytckbndhljfijhaa", sum := "80638661a270d8e35b7c28a47829e821d0d9905843a1d1b018143bb178fbca1d", func := "scumble/scumblelaw06.FlateCuts", spec := "flateCuts", unfollowed := true, recurses := true, apart := false }
def FlateCutsSaid : Prop := flateCutsRow.holds Try.pinned (OpenSpec.ofChange flateCutsSpec)

/-- ITS FALSE NEIGHBOUR: 'it returns false'. Refute it at one input. -/
def flateCutsWrong : ChangeSpec := { name := "flateCuts", fn := fun _ => fun
  | [d1, d2, d3, d4] => { results := [.lit (.bool false)], args := [d1, d2, d3, d4] }
  | _ => none }
def FlateCutsWrongFalsely : Prop := flateCutsRow.holds Try.pinned (OpenSpec.ofChange flateCutsWrong)

/-- 'scumblelaw06.FlateSums': WHATEVER THE INPUT: true; the input reads as it did. -/
def flateSumsSpec : ChangeSpec := { name := "flateSums", fn := fun _ => fun
  | [d1, d2, d3, d4] => { results := [.lit (.bool true)], args := [d1, d2, d3, d4] }
  | _ => none }
def flateSumsRow : OpenClaim := { program := "ytckbndhljfijhaa", sum := "80638661a270d8e35b7c28a47829e821d0d9905843a1d1b018143bb178fbca1d", func := "scumble/scumblelaw06.FlateSums", spec := "flateSums", unfollowed := true, recurses := true, apart := false }
def FlateSumsSaid : Prop := flateSumsRow.holds Try.pinned (OpenSpec.ofChange flateSumsSpec)

/-- ITS FALSE NEIGHBOUR: 'it returns false'. Refute it at one input. -/
def flateSumsWrong : ChangeSpec := { name := "flateSums", fn := fun _ => fun
  | [d1, d2, d3, d4] => { results := [.lit (.bool false)], args := [d1, d2, d3, d4] }
  | _ => none }
def FlateSumsWrongFalsely : Prop := flateSumsRow.holds Try.pinned (OpenSpec.ofChange flateSumsWrong)

/- THE SECOND FORM. 'bulk': how many values and letters a reading holds, each counted each time it is reached (what is shared counts as often as it is met; a slice's spare places count too). A statement '..UptoSaid' is the law's where the arguments, and the package variables that the reading takes, are together of bulk at most 1048576: NARROWER than '..Said'. Prove '..Said' where nothing that the law and all that it calls make is longer than what came in: it says more and counts as full. Else prove '..UptoSaid'. A law counts once. -/
mutual
def uptoBulk {H : Type} : DataW H → Nat
  | .lit (.string bytes) => bytes.length + 1
  | .lit _ => 1
  | .nil => 1
  | .ptr d => uptoBulk d + 1
  | .slice elems spare => uptoBulkAll elems + uptoBulkAll spare + 1
  | .agg parts => uptoBulkAll parts + 1
  | .iface _ d => uptoBulk d + 1
  | .map entries => uptoBulkEntries entries + 1
  | .held _ => 1
def uptoBulkAll {H : Type} : List (DataW H) → Nat
  | [] => 0
  | d :: r => uptoBulk d + uptoBulkAll r
def uptoBulkEntries {H : Type} : List (Lit × DataW H) → Nat
  | [] => 0
  | x :: r => uptoBulkEntry x + uptoBulkEntries r
def uptoBulkEntry {H : Type} : Lit × DataW H → Nat
  | (.string bytes, d) => bytes.length + uptoBulk d + 1
  | (_, d) => uptoBulk d + 1
 end
def uptoSmall : (H : Type) → List (DataW H) → Bool := fun _ ds => decide (uptoBulkAll ds ≤ 1048576)
def OpenSpec.upto (s : _root_.Go.ChangeSpec) : _root_.Go.OpenSpec := { _root_.Go.OpenSpec.ofChange s with cond := some uptoSmall }

/-- 'scumblelaw06.FlateBack', WHERE WHAT IT READS IS OF BULK AT MOST 1048576: true; the input reads as it did. -/
def flateBackUptoRow : OpenClaim := { program := "ytckbndhljfijhaa", sum := "80638661a270d8e35b7c28a47829e821d0d9905843a1d1b018143bb178fbca1d", func := "scumble/scumblelaw06.FlateBack", spec := "flateBack", unfollowed := true, recurses := true, apart := false, narrowed := true }
def FlateBackUptoSaid : Prop := flateBackUptoRow.holds Try.pinned (OpenSpec.upto flateBackSpec)

/-- 'scumblelaw06.FlateRight', WHERE WHAT IT READS IS OF BULK AT MOST 1048576: true; the input reads as it did. -/
def flateRightUptoRow : OpenClaim := { program := "ytckbndhljfijhaa", sum := "80638661a270d8e35b7c28a47829e821d0d9905843a1d1b018143bb178fbca1d", func := "scumble/scumblelaw06.FlateRight", spec := "flateRight", unfollowed := true, recurses := true, apart := false, narrowed := true }
def FlateRightUptoSaid : Prop := flateRightUptoRow.holds Try.pinned (OpenSpec.upto flateRightSpec)

/-- 'scumblelaw06.FlateCuts', WHERE WHAT IT READS IS OF BULK AT MOST 1048576: true; the input reads as it did. -/
def flateCutsUptoRow : OpenClaim := { program := "ytckbndhljfijhaa", sum := "80638661a270d8e35b7c28a47829e821d0d9905843a1d1b018143bb178fbca1d", func := "scumble/scumblelaw06.FlateCuts", spec := "flateCuts", unfollowed := true, recurses := true, apart := false, narrowed := true }
def FlateCutsUptoSaid : Prop := flateCutsUptoRow.holds Try.pinned (OpenSpec.upto flateCutsSpec)

/-- 'scumblelaw06.FlateSums', WHERE WHAT IT READS IS OF BULK AT MOST 1048576: true; the input reads as it did. -/
def flateSumsUptoRow : OpenClaim := { program := "ytckbndhljfijhaa", sum := "80638661a270d8e35b7c28a47829e821d0d9905843a1d1b018143bb178fbca1d", func := "scumble/scumblelaw06.FlateSums", spec := "flateSums", unfollowed := true, recurses := true, apart := false, narrowed := true }
def FlateSumsUptoSaid : Prop := flateSumsUptoRow.holds Try.pinned (OpenSpec.upto flateSumsSpec)

end Rows
end Go.Proofs.Ytckbndhljfijhaa
