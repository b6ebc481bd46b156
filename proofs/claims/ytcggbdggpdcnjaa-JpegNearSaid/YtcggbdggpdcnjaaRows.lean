/-
  No cell of these rows narrows 'for every input' (looked for: loops, veiled, ifaces, maps, wideKeys, modest, calm, conditions, laid).
  DERIVED. THE GIVEN ROWS OF THIS SEAT. 3 by the template 'for every input the law returns true; each argument reads behind the call as it read before'; 0 by the template 'total and deterministic' (their statements: YtcggbdggpdcnjaaTotals.lean).
  GIVEN WITH THE SEED: the statements are not yours to turn. If you find one false, say at which input.
  Laid BY PROGRAM, IN A SANDBOX (cutbox-rows.mjs): the forced cells as the released guide's own fill.sh prints them over the translation ebb4416414329894… (all of the seat's roots in one cut). By AI agents, Wed Nov 11 2026. No macro, syntax, notation, axiom, sorry.
-/
import Derived.Test.YtcggbdggpdcnjaaChecked
import GoSem.Claim
import GoSem.ClaimJoined
import GoSem.ClaimMapViews
import Derived.JoinedTies
import Derived.KernelRfl
namespace Go.Proofs.Ytcggbdggpdcnjaa
/- THE CELL 'sum', in the pinned program and in every row, IS THE sha256 OF THE DUMP (.gsa) THAT YtcggbdggpdcnjaaProg.lean LOADS. Nothing in Lean hashes anything: it is a label: what it is worth is what the hold of that sum in a sandbox is worth. -/
noncomputable def Try.pinned : Pinned := { name := "ytcggbdggpdcnjaa", sum := "ebb4416414329894b023404a444eeb3cb01619141534c79842552299e81913bb", checked := Try.checked }
namespace Rows
def none {H : Type} : Left H := { results := [], args := [] }

/-- 'scumblelaw19.JpegBack': WHATEVER THE INPUT: true; the input reads as it did. -/
def jpegBackSpec : ChangeSpec := { name := "jpegBack", fn := fun _ => fun
  | [d1, d2, d3, d4, d5] => { results := [.lit (.bool true)], args := [d1, d2, d3, d4, d5] }
  | _ => none }
def jpegBackRow : OpenClaim := { program := "ytcggbdggpdcnjaa", sum := "ebb4416414329894b023404a444eeb3cb01619141534c79842552299e81913bb", func := "scumble/scumblelaw19.JpegBack", spec := "jpegBack", unfollowed := true, recurses := true, apart := false }
def JpegBackSaid : Prop := jpegBackRow.holds Try.pinned (OpenSpec.ofChange jpegBackSpec)

/-- ITS FALSE NEIGHBOUR: 'it returns false'. Refute it at one input. -/
def jpegBackWrong : ChangeSpec := { name := "jpegBack", fn := fun _ => fun
  | [d1, d2, d3, d4, d5] => { results := [.lit (.bool false)], args := [d1, d2, d3, d4, d5] }
  | _ => none }
def JpegBackWrongFalsely : Prop := jpegBackRow.holds Try.pinned (OpenSpec.ofChange jpegBackWrong)

/-- 'scumblelaw19.JpegNear': WHATEVER THE INPUT: true; the input reads as it did. -/
def jpegNearSpec : ChangeSpec := { name := "jpegNear", fn := fun _ => fun
  | [d1, d2, d3] => { results := [.lit (.bool true)], args := [d1, d2, d3] }
  | _ => none }
def jpegNearRow : OpenClaim := { program := "ytcggbdggpdcnjaa", sum := "ebb4416414329894b023404a444eeb3cb01619141534c79842552299e81913bb", func := "scumble/scumblelaw19.JpegNear", spec := "jpegNear", unfollowed := true, recurses := true, apart := false }
def JpegNearSaid : Prop := jpegNearRow.holds Try.pinned (OpenSpec.ofChange jpegNearSpec)

/-- ITS FALSE NEIGHBOUR: 'it returns false'. Refute it at one input. -/
def jpegNearWrong : ChangeSpec := { name := "jpegNear", fn := fun _ => fun
  | [d1, d2, d3] => { results := [.lit (.bool false)], args := [d1, d2, d3] }
  | _ => none }
def JpegNearWrongFalsely : Prop := jpegNearRow.holds Try.pinned (OpenSpec.ofChange jpegNearWrong)

/-- 'scumblelaw19.JpegCuts': WHATEVER THE INPUT: true; the input reads as it did. -/
def jpegCutsSpec : ChangeSpec := { name := "jpegCuts", fn := fun _ => fun
  | [d1, d2, d3, d4, d5, d6, d7] => { results := [.lit (.bool true)], args := [d1, d2, d3, d4, d5, d6, d7] }
  | _ => none }
def jpegCutsRow : OpenClaim := { program := "ytcggbdggpdcnjaa", sum := "ebb4416414329894b023404a444eeb3cb01619141534c79842552299e81913bb", func := "scumble/scumblelaw19.JpegCuts", spec := "jpegCuts", unfollowed := true, recurses := true, apart := false }
def JpegCutsSaid : Prop := jpegCutsRow.holds Try.pinned (OpenSpec.ofChange jpegCutsSpec)

/-- ITS FALSE NEIGHBOUR: 'it returns false'. Refute it at one input. -/
def jpegCutsWrong : ChangeSpec := { name := "jpegCuts", fn := fun _ => fun
  | [d1, d2, d3, d4, d5, d6, d7] => { results := [.lit (.bool false)], args := [d1, d2, d3, d4, d5, d6, d7] }
  | _ => none }
def JpegCutsWrongFalsely : Prop := jpegCutsRow.holds Try.pinned (OpenSpec.ofChange jpegCutsWrong)

/- THE SECOND FORM. 'bulk': how many values and letters a reading holds, each counted each time it is reached (what is shared counts as often as it is met; a slice's spare places count too). A statement '..UptoSaid' is the law's where the arguments, and the package variables that the reading takes, are together of bulk at most 1048576: NARROWER than '..Said'. Prove '..Said' where nothing that the law and all that it calls make is longer than what came in: it says more and counts as full. Else prove '..UptoSaid'. A law counts once. -/
mutual
def uptoBulk {H : Type} : DataW H → Nat
  | .lit (.string bytes) => bytes.length + 1
  | .lit _ => 1
  | .nil => 1
  | .ptr d => uptoBulk d + 1
  | .slice elems spare => uptoBulkAll elems + uptoBulkAll spare + 1
  | .agg parts => uptoBulkAll parts + 1
  | .iface _ d => uptoBulk d + 1
  | .map entries => uptoBulkEntries entries + 1
  | .held _ => 1
def uptoBulkAll {H : Type} : List (DataW H) → Nat
  | [] => 0
  | d :: r => uptoBulk d + uptoBulkAll r
def uptoBulkEntries {H : Type} : List (Lit × DataW H) → Nat
  | [] => 0
  | x :: r => uptoBulkEntry x + uptoBulkEntries r
def uptoBulkEntry {H : Type} : Lit × DataW H → Nat
  | (.string bytes, d) => bytes.length + uptoBulk d + 1
  | (_, d) => uptoBulk d + 1
 end
def uptoSmall : (H : Type) → List (DataW H) → Bool := fun _ ds => decide (uptoBulkAll ds ≤ 1048576)
def OpenSpec.upto (s : _root_.Go.ChangeSpec) : _root_.Go.OpenSpec := { _root_.Go.OpenSpec.ofChange s with cond := some uptoSmall }

/-- 'scumblelaw19.JpegBack', WHERE WHAT IT READS IS OF BULK AT MOST 1048576: true; the input reads as it did. -/
def jpegBackUptoRow : OpenClaim := { program := "ytcggbdggpdcnjaa", sum := "ebb4416414329894b023404a444eeb3cb01619141534c79842552299e81913bb", func := "scumble/scumblelaw19.JpegBack", spec := "jpegBack", unfollowed := true, recurses := true, apart := false, narrowed := true }
def JpegBackUptoSaid : Prop := jpegBackUptoRow.holds Try.pinned (OpenSpec.upto jpegBackSpec)

/-- 'scumblelaw19.JpegNear', WHERE WHAT IT READS IS OF BULK AT MOST 1048576: true; the input reads as it did. -/
def jpegNearUptoRow : OpenClaim := { program := "ytcggbdggpdcnjaa", sum := "ebb4416414329894b023404a444eeb3cb01619141534c79842552299e81913bb", func := "scumble/scumblelaw19.JpegNear", spec := "jpegNear", unfollowed := true, recurses := true, apart := false, narrowed := true }
def JpegNearUptoSaid : Prop := jpegNearUptoRow.holds Try.pinned (OpenSpec.upto jpegNearSpec)

/-- 'scumblelaw19.JpegCuts', WHERE WHAT IT READS IS OF BULK AT MOST 1048576: true; the input reads as it did. -/
def jpegCutsUptoRow : OpenClaim := { program := "ytcggbdggpdcnjaa", sum := "ebb4416414329894b023404a444eeb3cb01619141534c79842552299e81913bb", func := "scumble/scumblelaw19.JpegCuts", spec := "jpegCuts", unfollowed := true, recurses := true, apart := false, narrowed := true }
def JpegCutsUptoSaid : Prop := jpegCutsUptoRow.holds Try.pinned (OpenSpec.upto jpegCutsSpec)

end Rows
end Go.Proofs.Ytcggbdggpdcnjaa
