/-
  No cell of these rows narrows 'for every input' (looked for: loops, veiled, ifaces, maps, wideKeys, modest, calm, conditions, laid).
  DERIVED. THE GIVEN ROWS OF THIS SEAT. 3 by the template 'for every input the law returns true; each argument reads behind the call as it read before'; 0 by the template 'total and deterministic' (their statements: YtdnfhenncjhenaaTotals.lean).
  GIVEN WITH THE SEED: the statements are not yours to turn. If you find one false, say at which input.
  Laid BY PROGRAM, IN A SANDBOX (cutbox-rows.mjs): the forced cells as the released guide's own fill.sh prints them over the translation 902a09b2c111c886… (all of the seat's roots in one cut). By AI agents, Wed Nov 11 2026. No macro, syntax, notation, axiom, sorry.
-/
import Derived.Test.YtdnfhenncjhenaaChecked
import GoSem.Claim
import GoSem.ClaimJoined
import GoSem.ClaimMapViews
import Derived.JoinedTies
import Derived.KernelRfl
namespace Go.Proofs.Ytdnfhenncjhenaa
/- THE CELL 'sum', in the pinned program and in every row, IS THE sha256 OF THE DUMP (.gsa) THAT YtdnfhenncjhenaaProg.lean LOADS. Nothing in Lean hashes anything: it is a label: what it is worth is what the hold of that sum in a sandbox is worth. -/
noncomputable def Try.pinned : Pinned := { name := "ytdnfhenncjhenaa", sum := "902a09b2c111c886bf6489464735e6ad9bbb81f4c1ca03469329975945b5c206", checked := Try.checked }
namespace Rows
def none {H : Type} : Left H := { results := [], args := [] }

/-- 'scumblelaw17.PngFilters': WHATEVER THE INPUT: true; the input reads as it did. -/
def pngFiltersSpec : ChangeSpec := { name := "pngFilters", fn := fun _ => fun
  | [d1, d2, d3] => { results := [.lit (.bool true)], args := [d1, d2, d3] }
  | _ => none }
def pngFiltersRow : OpenClaim := { program := "ytdnfhenncjhenaa", sum := "902a09b2c111c886bf6489464735e6ad9bbb81f4c1ca03469329975945b5c206", func := "scumble/scumblelaw17.PngFilters", spec := "pngFilters", unfollowed := true, recurses := true, apart := false }
def PngFiltersSaid : Prop := pngFiltersRow.holds Try.pinned (OpenSpec.ofChange pngFiltersSpec)

/-- ITS FALSE NEIGHBOUR: 'it returns false'. Refute it at one input. -/
def pngFiltersWrong : ChangeSpec := { name := "pngFilters", fn := fun _ => fun
  | [d1, d2, d3] => { results := [.lit (.bool false)], args := [d1, d2, d3] }
  | _ => none }
def PngFiltersWrongFalsely : Prop := pngFiltersRow.holds Try.pinned (OpenSpec.ofChange pngFiltersWrong)

/-- 'scumblelaw17.PngBack': WHATEVER THE INPUT: true; the input reads as it did. -/
def pngBackSpec : ChangeSpec := { name := "pngBack", fn := fun _ => fun
  | [d1, d2, d3, d4] => { results := [.lit (.bool true)], args := [d1, d2, d3, d4] }
  | _ => none }
def pngBackRow : OpenClaim := { program := "ytdnfhenncjhenaa", sum := "902a09b2c111c886bf6489464735e6ad9bbb81f4c1ca03469329975945b5c206", func := "scumble/scumblelaw17.PngBack", spec := "pngBack", unfollowed := true, recurses := true, apart := false }
def PngBackSaid : Prop := pngBackRow.holds Try.pinned (OpenSpec.ofChange pngBackSpec)

/-- ITS FALSE NEIGHBOUR: 'it returns false'. Refute it at one input. -/
def pngBackWrong : ChangeSpec := { name := "pngBack", fn := fun _ => fun
  | [d1, d2, d3, d4] => { results := [.lit (.bool false)], args := [d1, d2, d3, d4] }
  | _ => none }
def PngBackWrongFalsely : Prop := pngBackRow.holds Try.pinned (OpenSpec.ofChange pngBackWrong)

/-- 'scumblelaw17.PngCuts': WHATEVER THE INPUT: true; the input reads as it did. -/
def pngCutsSpec : ChangeSpec := { name := "pngCuts", fn := fun _ => fun
  | [d1, d2, d3, d4, d5, d6] => { results := [.lit (.bool true)], args := [d1, d2, d3, d4, d5, d6] }
  | _ => none }
def pngCutsRow : OpenClaim := { program := "ytdnfhenncjhenaa", sum := "902a09b2c111c886bf6489464735e6ad9bbb81f4c1ca03469329975945b5c206", func := "scumble/scumblelaw17.PngCuts", spec := "pngCuts", unfollowed := true, recurses := true, apart := false }
def PngCutsSaid : Prop := pngCutsRow.holds Try.pinned (OpenSpec.ofChange pngCutsSpec)

/-- ITS FALSE NEIGHBOUR: 'it returns false'. Refute it at one input. -/
def pngCutsWrong : ChangeSpec := { name := "pngCuts", fn := fun _ => fun
  | [d1, d2, d3, d4, d5, d6] => { results := [.lit (.bool false)], args := [d1, d2, d3, d4, d5, d6] }
  | _ => none }
def PngCutsWrongFalsely : Prop := pngCutsRow.holds Try.pinned (OpenSpec.ofChange pngCutsWrong)

/- THE SECOND FORM. 'bulk': how many values and letters a reading holds, each counted each time it is reached (what is shared counts as often as it is met; a slice's spare places count too). A statement '..UptoSaid' is the law's where the arguments, and the package variables that the reading takes, are together of bulk at most 1048576: NARROWER than '..Said'. Prove '..Said' where nothing that the law and all that it calls make is longer than what came in: it says more and counts as full. Else prove '..UptoSaid'. A law counts once. -/
mutual
def uptoBulk {H : Type} : DataW H → Nat
  | .lit (.string bytes) => bytes.length + 1
  | .lit _ => 1
  | .nil => 1
  | .ptr d => uptoBulk d + 1
  | .slice elems spare => uptoBulkAll elems + uptoBulkAll spare + 1
  | .agg parts => uptoBulkAll parts + 1
  | .iface _ d => uptoBulk d + 1
  | .map entries => uptoBulkEntries entries + 1
  | .held _ => 1
def uptoBulkAll {H : Type} : List (DataW H) → Nat
  | [] => 0
  | d :: r => uptoBulk d + uptoBulkAll r
def uptoBulkEntries {H : Type} : List (Lit × DataW H) → Nat
  | [] => 0
  | x :: r => uptoBulkEntry x + uptoBulkEntries r
def uptoBulkEntry {H : Type} : Lit × DataW H → Nat
  | (.string bytes, d) => bytes.length + uptoBulk d + 1
  | (_, d) => uptoBulk d + 1
 end
def uptoSmall : (H : Type) → List (DataW H) → Bool := fun _ ds => decide (uptoBulkAll ds ≤ 1048576)
def OpenSpec.upto (s : _root_.Go.ChangeSpec) : _root_.Go.OpenSpec := { _root_.Go.OpenSpec.ofChange s with cond := some uptoSmall }

/-- 'scumblelaw17.PngFilters', WHERE WHAT IT READS IS OF BULK AT MOST 1048576: true; the input reads as it did. -/
def pngFiltersUptoRow : OpenClaim := { program := "ytdnfhenncjhenaa", sum := "902a09b2c111c886bf6489464735e6ad9bbb81f4c1ca03469329975945b5c206", func := "scumble/scumblelaw17.PngFilters", spec := "pngFilters", unfollowed := true, recurses := true, apart := false, narrowed := true }
def PngFiltersUptoSaid : Prop := pngFiltersUptoRow.holds Try.pinned (OpenSpec.upto pngFiltersSpec)

/-- 'scumblelaw17.PngBack', WHERE WHAT IT READS IS OF BULK AT MOST 1048576: true; the input reads as it did. -/
def pngBackUptoRow : OpenClaim := { program := "ytdnfhenncjhenaa", sum := "902a09b2c111c886bf6489464735e6ad9bbb81f4c1ca03469329975945b5c206", func := "scumble/scumblelaw17.PngBack", spec := "pngBack", unfollowed := true, recurses := true, apart := false, narrowed := true }
def PngBackUptoSaid : Prop := pngBackUptoRow.holds Try.pinned (OpenSpec.upto pngBackSpec)

/-- 'scumblelaw17.PngCuts', WHERE WHAT IT READS IS OF BULK AT MOST 1048576: true; the input reads as it did. -/
def pngCutsUptoRow : OpenClaim := { program := "ytdnfhenncjhenaa", sum := "902a09b2c111c886bf6489464735e6ad9bbb81f4c1ca03469329975945b5c206", func := "scumble/scumblelaw17.PngCuts", spec := "pngCuts", unfollowed := true, recurses := true, apart := false, narrowed := true }
def PngCutsUptoSaid : Prop := pngCutsUptoRow.holds Try.pinned (OpenSpec.upto pngCutsSpec)

end Rows
end Go.Proofs.Ytdnfhenncjhenaa
