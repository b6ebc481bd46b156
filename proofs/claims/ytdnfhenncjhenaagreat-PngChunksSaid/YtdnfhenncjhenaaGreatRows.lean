/-
  No cell of these rows narrows 'for every input' (looked for: loops, veiled, ifaces, maps, wideKeys, modest, calm, conditions, laid).
  DERIVED. THE GIVEN ROWS OF THIS SEAT. 3 by the template 'for every input the law returns true; each argument reads behind the call as it read before'; 0 by the template 'total and deterministic' (their statements: YtdnfhenncjhenaaGreatTotals.lean).
  GIVEN WITH THE SEED: the statements are not yours to turn. If you find one false, say at which input.
  Laid BY PROGRAM, IN A SANDBOX (cutbox-rows.mjs): the forced cells as the released guide's own fill.sh prints them over the translation 118b47c4ec9e6fef… (all of the seat's roots in one cut). By AI agents, Wed Nov 11 2026. No macro, syntax, notation, axiom, sorry.
-/
import Derived.Test.YtdnfhenncjhenaaGreatChecked
import GoSem.Claim
import GoSem.ClaimJoined
import GoSem.ClaimMapViews
import Derived.JoinedTies
import Derived.KernelRfl
namespace Go.Proofs.YtdnfhenncjhenaaGreat
/- THE CELL 'sum', in the pinned program and in every row, IS THE sha256 OF THE DUMP (.gsa) THAT YtdnfhenncjhenaaGreatProg.lean LOADS. Nothing in Lean hashes anything: it is a label: what it is worth is what the hold of that sum in a sandbox is worth. -/
noncomputable def Tryz.pinned : Pinned := { name := "ytdnfhenncjhenaagreat", sum := "118b47c4ec9e6fef732484fbf20e5fc35d268624e4e759dba9ad2ce8515826e8", checked := Tryz.checked }
namespace Rows
def none {H : Type} : Left H := { results := [], args := [] }

/-- 'scumblelaw17.PngRight': WHATEVER THE INPUT: true; the input reads as it did. -/
def pngRightSpec : ChangeSpec := { name := "pngRight", fn := fun _ => fun
  | [d1, d2, d3, d4] => { results := [.lit (.bool true)], args := [d1, d2, d3, d4] }
  | _ => none }
def pngRightRow : OpenClaim := { program := "ytdnfhenncjhenaagreat", sum := "118b47c4ec9e6fef732484fbf20e5fc35d268624e4e759dba9ad2ce8515826e8", func := "scumble/scumblelaw17.PngRight", spec := "pngRight", unfollowed := true, recurses := true, apart := false }
def PngRightSaid : Prop := pngRightRow.holds Tryz.pinned (OpenSpec.ofChange pngRightSpec)

/-- ITS FALSE NEIGHBOUR: 'it returns false'. Refute it at one input. -/
def pngRightWrong : ChangeSpec := { name := "pngRight", fn := fun _ => fun
  | [d1, d2, d3, d4] => { results := [.lit (.bool false)], args := [d1, d2, d3, d4] }
  | _ => none }
def PngRightWrongFalsely : Prop := pngRightRow.holds Tryz.pinned (OpenSpec.ofChange pngRightWrong)

/-- 'scumblelaw17.PngReads': WHATEVER THE INPUT: true; the input reads as it did. -/
def pngReadsSpec : ChangeSpec := { name := "pngReads", fn := fun _ => fun
  | [d] => { results := [.lit (.bool true)], args := [d] }
  | _ => none }
def pngReadsRow : OpenClaim := { program := "ytdnfhenncjhenaagreat", sum := "118b47c4ec9e6fef732484fbf20e5fc35d268624e4e759dba9ad2ce8515826e8", func := "scumble/scumblelaw17.PngReads", spec := "pngReads", unfollowed := true, recurses := true, apart := false }
def PngReadsSaid : Prop := pngReadsRow.holds Tryz.pinned (OpenSpec.ofChange pngReadsSpec)

/-- ITS FALSE NEIGHBOUR: 'it returns false'. Refute it at one input. -/
def pngReadsWrong : ChangeSpec := { name := "pngReads", fn := fun _ => fun
  | [d] => { results := [.lit (.bool false)], args := [d] }
  | _ => none }
def PngReadsWrongFalsely : Prop := pngReadsRow.holds Tryz.pinned (OpenSpec.ofChange pngReadsWrong)

/-- 'scumblelaw17.PngChunks': WHATEVER THE INPUT: true; the input reads as it did. -/
def pngChunksSpec : ChangeSpec := { name := "pngChunks", fn := fun _ => fun
  | [d1, d2, d3, d4, d5, d6, d7] => { results := [.lit (.bool true)], args := [d1, d2, d3, d4, d5, d6, d7] }
  | _ => none }
def pngChunksRow : OpenClaim := { program := "ytdnfhenncjhenaagreat", sum := "118b47c4ec9e6fef732484fbf20e5fc35d268624e4e759dba9ad2ce8515826e8", func := "scumble/scumblelaw17.PngChunks", spec := "pngChunks", unfollowed := true, recurses := true, apart := false }
def PngChunksSaid : Prop := pngChunksRow.holds Tryz.pinned (OpenSpec.ofChange pngChunksSpec)

/-- ITS FALSE NEIGHBOUR: 'it returns false'. Refute it at one input. -/
def pngChunksWrong : ChangeSpec := { name := "pngChunks", fn := fun _ => fun
  | [d1, d2, d3, d4, d5, d6, d7] => { results := [.lit (.bool false)], args := [d1, d2, d3, d4, d5, d6, d7] }
  | _ => none }
def PngChunksWrongFalsely : Prop := pngChunksRow.holds Tryz.pinned (OpenSpec.ofChange pngChunksWrong)

/- THE SECOND FORM. 'bulk': how many values and letters a reading holds, each counted each time it is reached (what is shared counts as often as it is met; a slice's spare places count too). A statement '..UptoSaid' is the law's where the arguments, and the package variables that the reading takes, are together of bulk at most 1048576: NARROWER than '..Said'. Prove '..Said' where nothing that the law and all that it calls make is longer than what came in: it says more and counts as full. Else prove '..UptoSaid'. A law counts once. -/
mutual
def uptoBulk {H : Type} : DataW H → Nat
  | .lit (.string bytes) => bytes.length + 1
  | .lit _ => 1
  | .nil => 1
  | .ptr d => uptoBulk d + 1
  | .slice elems spare => uptoBulkAll elems + uptoBulkAll spare + 1
  | .agg parts => uptoBulkAll parts + 1
  | .iface _ d => uptoBulk d + 1
  | .map entries => uptoBulkEntries entries + 1
  | .held _ => 1
def uptoBulkAll {H : Type} : List (DataW H) → Nat
  | [] => 0
  | d :: r => uptoBulk d + uptoBulkAll r
def uptoBulkEntries {H : Type} : List (Lit × DataW H) → Nat
  | [] => 0
  | x :: r => uptoBulkEntry x + uptoBulkEntries r
def uptoBulkEntry {H : Type} : Lit × DataW H → Nat
  | (.string bytes, d) => bytes.length + uptoBulk d + 1
  | (_, d) => uptoBulk d + 1
 end
def uptoSmall : (H : Type) → List (DataW H) → Bool := fun _ ds => decide (uptoBulkAll ds ≤ 1048576)
def OpenSpec.upto (s : _root_.Go.ChangeSpec) : _root_.Go.OpenSpec := { _root_.Go.OpenSpec.ofChange s with cond := some uptoSmall }

/-- 'scumblelaw17.PngRight', WHERE WHAT IT READS IS OF BULK AT MOST 1048576: true; the input reads as it did. -/
def pngRightUptoRow : OpenClaim := { program := "ytdnfhenncjhenaagreat", sum := "118b47c4ec9e6fef732484fbf20e5fc35d268624e4e759dba9ad2ce8515826e8", func := "scumble/scumblelaw17.PngRight", spec := "pngRight", unfollowed := true, recurses := true, apart := false, narrowed := true }
def PngRightUptoSaid : Prop := pngRightUptoRow.holds Tryz.pinned (OpenSpec.upto pngRightSpec)

/-- 'scumblelaw17.PngReads', WHERE WHAT IT READS IS OF BULK AT MOST 1048576: true; the input reads as it did. -/
def pngReadsUptoRow : OpenClaim := { program := "ytdnfhenncjhenaagreat", sum := "118b47c4ec9e6fef732484fbf20e5fc35d268624e4e759dba9ad2ce8515826e8", func := "scumble/scumblelaw17.PngReads", spec := "pngReads", unfollowed := true, recurses := true, apart := false, narrowed := true }
def PngReadsUptoSaid : Prop := pngReadsUptoRow.holds Tryz.pinned (OpenSpec.upto pngReadsSpec)

/-- 'scumblelaw17.PngChunks', WHERE WHAT IT READS IS OF BULK AT MOST 1048576: true; the input reads as it did. -/
def pngChunksUptoRow : OpenClaim := { program := "ytdnfhenncjhenaagreat", sum := "118b47c4ec9e6fef732484fbf20e5fc35d268624e4e759dba9ad2ce8515826e8", func := "scumble/scumblelaw17.PngChunks", spec := "pngChunks", unfollowed := true, recurses := true, apart := false, narrowed := true }
def PngChunksUptoSaid : Prop := pngChunksUptoRow.holds Tryz.pinned (OpenSpec.upto pngChunksSpec)

end Rows
end Go.Proofs.YtdnfhenncjhenaaGreat
