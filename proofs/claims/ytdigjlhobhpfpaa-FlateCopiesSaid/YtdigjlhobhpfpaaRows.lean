/-
  No cell of these rows narrows 'for every input' (looked for: loops, veiled, ifaces, maps, wideKeys, modest, calm, conditions, laid).
  DERIVED. THE GIVEN ROWS OF THIS SEAT. 2 by the template 'for every input the law returns true; each argument reads behind the call as it read before'; 0 by the template 'total and deterministic' (their statements: YtdigjlhobhpfpaaTotals.lean).
  GIVEN WITH THE SEED: the statements are not yours to turn. If you find one false, say at which input.
  Laid BY PROGRAM, IN A SANDBOX (cutbox-rows.mjs): the forced cells as the released guide's own fill.sh prints them over the translation 5ab195d6fb02aefe… (all of the seat's roots in one cut). By AI agents, Wed Nov 11 2026. No macro, syntax, notation, axiom, sorry.
-/
import Derived.Test.YtdigjlhobhpfpaaChecked
import GoSem.Claim
import GoSem.ClaimJoined
import GoSem.ClaimMapViews
import Derived.JoinedTies
import Derived.KernelRfl
namespace Go.Proofs.Ytdigjlhobhpfpaa
/- THE CELL 'sum', in the pinned program and in every row, IS THE sha256 OF THE DUMP (.gsa) THAT YtdigjlhobhpfpaaProg.lean LOADS. Nothing in Lean hashes anything: it is a label: what it is worth is what the hold of that sum in a sandbox is worth. -/
noncomputable def Try.pinned : Pinned := { name := "ytdigjlhobhpfpaa", sum := "5ab195d6fb02aefeabf9559c01f59b7ddbe5233b82b5ad9e981f227265221be6", checked := Try.checked }
namespace Rows
def none {H : Type} : Left H := { results := [], args := [] }

/-- 'scumblelaw06.FlateCopies': WHATEVER THE INPUT: true; the input reads as it did. -/
def flateCopiesSpec : ChangeSpec := { name := "flateCopies", fn := fun _ => fun
  | [d1, d2, d3] => { results := [.lit (.bool true)], args := [d1, d2, d3] }
  | _ => none }
def flateCopiesRow : OpenClaim := { program := "ytdigjlhobhpfpaa", sum := "5ab195d6fb02aefeabf9559c01f59b7ddbe5233b82b5ad9e981f227265221be6", func := "scumble/scumblelaw06.FlateCopies", spec := "flateCopies", unfollowed := true, recurses := true, apart := false }
def FlateCopiesSaid : Prop := flateCopiesRow.holds Try.pinned (OpenSpec.ofChange flateCopiesSpec)

/-- ITS FALSE NEIGHBOUR: 'it returns false'. Refute it at one input. -/
def flateCopiesWrong : ChangeSpec := { name := "flateCopies", fn := fun _ => fun
  | [d1, d2, d3] => { results := [.lit (.bool false)], args := [d1, d2, d3] }
  | _ => none }
def FlateCopiesWrongFalsely : Prop := flateCopiesRow.holds Try.pinned (OpenSpec.ofChange flateCopiesWrong)

/-- 'scumblelaw06.FlateStored': WHATEVER THE INPUT: true; the input reads as it did. -/
def flateStoredSpec : ChangeSpec := { name := "flateStored", fn := fun _ => fun
  | [d] => { results := [.lit (.bool true)], args := [d] }
  | _ => none }
def flateStoredRow : OpenClaim := { program := "ytdigjlhobhpfpaa", sum := "5ab195d6fb02aefeabf9559c01f59b7ddbe5233b82b5ad9e981f227265221be6", func := "scumble/scumblelaw06.FlateStored", spec := "flateStored", apart := false }
def FlateStoredSaid : Prop := flateStoredRow.holds Try.pinned (OpenSpec.ofChange flateStoredSpec)

/-- ITS FALSE NEIGHBOUR: 'it returns false'. Refute it at one input. -/
def flateStoredWrong : ChangeSpec := { name := "flateStored", fn := fun _ => fun
  | [d] => { results := [.lit (.bool false)], args := [d] }
  | _ => none }
def FlateStoredWrongFalsely : Prop := flateStoredRow.holds Try.pinned (OpenSpec.ofChange flateStoredWrong)

/- THE SECOND FORM. 'bulk': how many values and letters a reading holds, each counted each time it is reached (what is shared counts as often as it is met; a slice's spare places count too). A statement '..UptoSaid' is the law's where the arguments, and the package variables that the reading takes, are together of bulk at most 1048576: NARROWER than '..Said'. Prove '..Said' where nothing that the law and all that it calls make is longer than what came in: it says more and counts as full. Else prove '..UptoSaid'. A law counts once. -/
mutual
def uptoBulk {H : Type} : DataW H → Nat
  | .lit (.string bytes) => bytes.length + 1
  | .lit _ => 1
  | .nil => 1
  | .ptr d => uptoBulk d + 1
  | .slice elems spare => uptoBulkAll elems + uptoBulkAll spare + 1
  | .agg parts => uptoBulkAll parts + 1
  | .iface _ d => uptoBulk d + 1
  | .map entries => uptoBulkEntries entries + 1
  | .held _ => 1
def uptoBulkAll {H : Type} : List (DataW H) → Nat
  | [] => 0
  | d :: r => uptoBulk d + uptoBulkAll r
def uptoBulkEntries {H : Type} : List (Lit × DataW H) → Nat
  | [] => 0
  | x :: r => uptoBulkEntry x + uptoBulkEntries r
def uptoBulkEntry {H : Type} : Lit × DataW H → Nat
  | (.string bytes, d) => bytes.length + uptoBulk d + 1
  | (_, d) => uptoBulk d + 1
 end
def uptoSmall : (H : Type) → List (DataW H) → Bool := fun _ ds => decide (uptoBulkAll ds ≤ 1048576)
def OpenSpec.upto (s : _root_.Go.ChangeSpec) : _root_.Go.OpenSpec := { _root_.Go.OpenSpec.ofChange s with cond := some uptoSmall }

/-- 'scumblelaw06.FlateCopies', WHERE WHAT IT READS IS OF BULK AT MOST 1048576: true; the input reads as it did. -/
def flateCopiesUptoRow : OpenClaim := { program := "ytdigjlhobhpfpaa", sum := "5ab195d6fb02aefeabf9559c01f59b7ddbe5233b82b5ad9e981f227265221be6", func := "scumble/scumblelaw06.FlateCopies", spec := "flateCopies", unfollowed := true, recurses := true, apart := false, narrowed := true }
def FlateCopiesUptoSaid : Prop := flateCopiesUptoRow.holds Try.pinned (OpenSpec.upto flateCopiesSpec)

/-- 'scumblelaw06.FlateStored', WHERE WHAT IT READS IS OF BULK AT MOST 1048576: true; the input reads as it did. -/
def flateStoredUptoRow : OpenClaim := { program := "ytdigjlhobhpfpaa", sum := "5ab195d6fb02aefeabf9559c01f59b7ddbe5233b82b5ad9e981f227265221be6", func := "scumble/scumblelaw06.FlateStored", spec := "flateStored", apart := false, narrowed := true }
def FlateStoredUptoSaid : Prop := flateStoredUptoRow.holds Try.pinned (OpenSpec.upto flateStoredSpec)

end Rows
end Go.Proofs.Ytdigjlhobhpfpaa
