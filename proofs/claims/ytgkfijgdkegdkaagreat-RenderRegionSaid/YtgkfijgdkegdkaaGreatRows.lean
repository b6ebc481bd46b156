/-
  No cell of these rows narrows 'for every input' (looked for: loops, veiled, ifaces, maps, wideKeys, modest, calm, conditions, laid).
  DERIVED. THE GIVEN ROWS OF THIS SEAT. 6 by the template 'for every input the law returns true; each argument reads behind the call as it read before'; 0 by the template 'total and deterministic' (their statements: YtgkfijgdkegdkaaGreatTotals.lean).
  GIVEN WITH THE SEED: the statements are not yours to turn. If you find one false, say at which input.
  Laid BY PROGRAM, IN A SANDBOX (cutbox-rows.mjs): the forced cells as the released guide's own fill.sh prints them over the translation ff6b82136721af73… (all of the seat's roots in one cut). By AI agents, Wed Nov 11 2026. No macro, syntax, notation, axiom, sorry.
-/
import Derived.Test.YtgkfijgdkegdkaaGreatChecked
import GoSem.Claim
import GoSem.ClaimJoined
import GoSem.ClaimMapViews
import Derived.JoinedTies
import Derived.KernelRfl
namespace Go.Proofs.YtgkfijgdkegdkaaGreat
/- THE CELL 'sum', in the pinned program and in every row, IS THE sha256 OF THE DUMP (.gsa) THAT YtgkfijgdkegdkaaGreatProg.lean LOADS. Nothing in Lean hashes anything: it is a label: what it is worth is what the hold of that sum in a sandbox is worth. -/
noncomputable def Tryz.pinned : Pinned := { name := "ytgkfijgdkegdkaagreat", sum := "ff6b82136721af73efb35720309b48191ecbd4da2eb7f40451b058429f7a9cd7", checked := Tryz.checked }
namespace Rows
def none {H : Type} : Left H := { results := [], args := [] }

/-- 'scumblelaw12.RenderWhole': WHATEVER THE INPUT: true; the input reads as it did. -/
def renderWholeSpec : ChangeSpec := { name := "renderWhole", fn := fun _ => fun
  | [d1, d2, d3] => { results := [.lit (.bool true)], args := [d1, d2, d3] }
  | _ => none }
def renderWholeRow : OpenClaim := { program := "ytgkfijgdkegdkaagreat", sum := "ff6b82136721af73efb35720309b48191ecbd4da2eb7f40451b058429f7a9cd7", func := "scumble/scumblelaw12.RenderWhole", spec := "renderWhole", inPlace := ["slices.overlaps[scumble/tree.Layer]"], unfollowed := true, recurses := true, apart := false }
def RenderWholeSaid : Prop := renderWholeRow.holds Tryz.pinned (OpenSpec.ofChange renderWholeSpec)

/-- ITS FALSE NEIGHBOUR: 'it returns false'. Refute it at one input. -/
def renderWholeWrong : ChangeSpec := { name := "renderWhole", fn := fun _ => fun
  | [d1, d2, d3] => { results := [.lit (.bool false)], args := [d1, d2, d3] }
  | _ => none }
def RenderWholeWrongFalsely : Prop := renderWholeRow.holds Tryz.pinned (OpenSpec.ofChange renderWholeWrong)

/-- 'scumblelaw12.RenderRegion': WHATEVER THE INPUT: true; the input reads as it did. -/
def renderRegionSpec : ChangeSpec := { name := "renderRegion", fn := fun _ => fun
  | [d1, d2, d3, d4, d5] => { results := [.lit (.bool true)], args := [d1, d2, d3, d4, d5] }
  | _ => none }
def renderRegionRow : OpenClaim := { program := "ytgkfijgdkegdkaagreat", sum := "ff6b82136721af73efb35720309b48191ecbd4da2eb7f40451b058429f7a9cd7", func := "scumble/scumblelaw12.RenderRegion", spec := "renderRegion", inPlace := ["slices.overlaps[scumble/tree.Layer]"], unfollowed := true, recurses := true, apart := false }
def RenderRegionSaid : Prop := renderRegionRow.holds Tryz.pinned (OpenSpec.ofChange renderRegionSpec)

/-- ITS FALSE NEIGHBOUR: 'it returns false'. Refute it at one input. -/
def renderRegionWrong : ChangeSpec := { name := "renderRegion", fn := fun _ => fun
  | [d1, d2, d3, d4, d5] => { results := [.lit (.bool false)], args := [d1, d2, d3, d4, d5] }
  | _ => none }
def RenderRegionWrongFalsely : Prop := renderRegionRow.holds Tryz.pinned (OpenSpec.ofChange renderRegionWrong)

/-- 'scumblelaw12.RenderOver': WHATEVER THE INPUT: true; the input reads as it did. -/
def renderOverSpec : ChangeSpec := { name := "renderOver", fn := fun _ => fun
  | [d1, d2] => { results := [.lit (.bool true)], args := [d1, d2] }
  | _ => none }
def renderOverRow : OpenClaim := { program := "ytgkfijgdkegdkaagreat", sum := "ff6b82136721af73efb35720309b48191ecbd4da2eb7f40451b058429f7a9cd7", func := "scumble/scumblelaw12.RenderOver", spec := "renderOver", inPlace := ["slices.overlaps[scumble/tree.Layer]"], unfollowed := true, recurses := true, apart := false }
def RenderOverSaid : Prop := renderOverRow.holds Tryz.pinned (OpenSpec.ofChange renderOverSpec)

/-- ITS FALSE NEIGHBOUR: 'it returns false'. Refute it at one input. -/
def renderOverWrong : ChangeSpec := { name := "renderOver", fn := fun _ => fun
  | [d1, d2] => { results := [.lit (.bool false)], args := [d1, d2] }
  | _ => none }
def RenderOverWrongFalsely : Prop := renderOverRow.holds Tryz.pinned (OpenSpec.ofChange renderOverWrong)

/-- 'scumblelaw12.RenderGroups': WHATEVER THE INPUT: true; the input reads as it did. -/
def renderGroupsSpec : ChangeSpec := { name := "renderGroups", fn := fun _ => fun
  | [d] => { results := [.lit (.bool true)], args := [d] }
  | _ => none }
def renderGroupsRow : OpenClaim := { program := "ytgkfijgdkegdkaagreat", sum := "ff6b82136721af73efb35720309b48191ecbd4da2eb7f40451b058429f7a9cd7", func := "scumble/scumblelaw12.RenderGroups", spec := "renderGroups", inPlace := ["slices.overlaps[scumble/tree.Layer]"], unfollowed := true, recurses := true, apart := false }
def RenderGroupsSaid : Prop := renderGroupsRow.holds Tryz.pinned (OpenSpec.ofChange renderGroupsSpec)

/-- ITS FALSE NEIGHBOUR: 'it returns false'. Refute it at one input. -/
def renderGroupsWrong : ChangeSpec := { name := "renderGroups", fn := fun _ => fun
  | [d] => { results := [.lit (.bool false)], args := [d] }
  | _ => none }
def RenderGroupsWrongFalsely : Prop := renderGroupsRow.holds Tryz.pinned (OpenSpec.ofChange renderGroupsWrong)

/-- 'scumblelaw12.RenderHidden': WHATEVER THE INPUT: true; the input reads as it did. -/
def renderHiddenSpec : ChangeSpec := { name := "renderHidden", fn := fun _ => fun
  | [d1, d2] => { results := [.lit (.bool true)], args := [d1, d2] }
  | _ => none }
def renderHiddenRow : OpenClaim := { program := "ytgkfijgdkegdkaagreat", sum := "ff6b82136721af73efb35720309b48191ecbd4da2eb7f40451b058429f7a9cd7", func := "scumble/scumblelaw12.RenderHidden", spec := "renderHidden", inPlace := ["slices.overlaps[scumble/tree.Layer]"], unfollowed := true, recurses := true, apart := false }
def RenderHiddenSaid : Prop := renderHiddenRow.holds Tryz.pinned (OpenSpec.ofChange renderHiddenSpec)

/-- ITS FALSE NEIGHBOUR: 'it returns false'. Refute it at one input. -/
def renderHiddenWrong : ChangeSpec := { name := "renderHidden", fn := fun _ => fun
  | [d1, d2] => { results := [.lit (.bool false)], args := [d1, d2] }
  | _ => none }
def RenderHiddenWrongFalsely : Prop := renderHiddenRow.holds Tryz.pinned (OpenSpec.ofChange renderHiddenWrong)

/-- 'scumblelaw12.RenderMasks': WHATEVER THE INPUT: true; the input reads as it did. -/
def renderMasksSpec : ChangeSpec := { name := "renderMasks", fn := fun _ => fun
  | [d1, d2] => { results := [.lit (.bool true)], args := [d1, d2] }
  | _ => none }
def renderMasksRow : OpenClaim := { program := "ytgkfijgdkegdkaagreat", sum := "ff6b82136721af73efb35720309b48191ecbd4da2eb7f40451b058429f7a9cd7", func := "scumble/scumblelaw12.RenderMasks", spec := "renderMasks", inPlace := ["slices.overlaps[scumble/tree.Layer]"], unfollowed := true, recurses := true, apart := false }
def RenderMasksSaid : Prop := renderMasksRow.holds Tryz.pinned (OpenSpec.ofChange renderMasksSpec)

/-- ITS FALSE NEIGHBOUR: 'it returns false'. Refute it at one input. -/
def renderMasksWrong : ChangeSpec := { name := "renderMasks", fn := fun _ => fun
  | [d1, d2] => { results := [.lit (.bool false)], args := [d1, d2] }
  | _ => none }
def RenderMasksWrongFalsely : Prop := renderMasksRow.holds Tryz.pinned (OpenSpec.ofChange renderMasksWrong)

/- THE SECOND FORM. 'bulk': how many values and letters a reading holds, each counted each time it is reached (what is shared counts as often as it is met; a slice's spare places count too). A statement '..UptoSaid' is the law's where the arguments, and the package variables that the reading takes, are together of bulk at most 1048576: NARROWER than '..Said'. Prove '..Said' where nothing that the law and all that it calls make is longer than what came in: it says more and counts as full. Else prove '..UptoSaid'. A law counts once. -/
mutual
def uptoBulk {H : Type} : DataW H → Nat
  | .lit (.string bytes) => bytes.length + 1
  | .lit _ => 1
  | .nil => 1
  | .ptr d => uptoBulk d + 1
  | .slice elems spare => uptoBulkAll elems + uptoBulkAll spare + 1
  | .agg parts => uptoBulkAll parts + 1
  | .iface _ d => uptoBulk d + 1
  | .map entries => uptoBulkEntries entries + 1
  | .held _ => 1
def uptoBulkAll {H : Type} : List (DataW H) → Nat
  | [] => 0
  | d :: r => uptoBulk d + uptoBulkAll r
def uptoBulkEntries {H : Type} : List (Lit × DataW H) → Nat
  | [] => 0
  | x :: r => uptoBulkEntry x + uptoBulkEntries r
def uptoBulkEntry {H : Type} : Lit × DataW H → Nat
  | (.string bytes, d) => bytes.length + uptoBulk d + 1
  | (_, d) => uptoBulk d + 1
 end
def uptoSmall : (H : Type) → List (DataW H) → Bool := fun _ ds => decide (uptoBulkAll ds ≤ 1048576)
def OpenSpec.upto (s : _root_.Go.ChangeSpec) : _root_.Go.OpenSpec := { _root_.Go.OpenSpec.ofChange s with cond := some uptoSmall }

/-- 'scumblelaw12.RenderWhole', WHERE WHAT IT READS IS OF BULK AT MOST 1048576: true; the input reads as it did. -/
def renderWholeUptoRow : OpenClaim := { program := "ytgkfijgdkegdkaagreat", sum := "ff6b82136721af73efb35720309b48191ecbd4da2eb7f40451b058429f7a9cd7", func := "scumble/scumblelaw12.RenderWhole", spec := "renderWhole", inPlace := ["slices.overlaps[scumble/tree.Layer]"], unfollowed := true, recurses := true, apart := false, narrowed := true }
def RenderWholeUptoSaid : Prop := renderWholeUptoRow.holds Tryz.pinned (OpenSpec.upto renderWholeSpec)

/-- 'scumblelaw12.RenderRegion', WHERE WHAT IT READS IS OF BULK AT MOST 1048576: true; the input reads as it did. -/
def renderRegionUptoRow : OpenClaim := { program := "ytgkfijgdkegdkaagreat", sum := "ff6b82136721af73efb35720309b48191ecbd4da2eb7f40451b058429f7a9cd7", func := "scumble/scumblelaw12.RenderRegion", spec := "renderRegion", inPlace := ["slices.overlaps[scumble/tree.Layer]"], unfollowed := true, recurses := true, apart := false, narrowed := true }
def RenderRegionUptoSaid : Prop := renderRegionUptoRow.holds Tryz.pinned (OpenSpec.upto renderRegionSpec)

/-- 'scumblelaw12.RenderOver', WHERE WHAT IT READS IS OF BULK AT MOST 1048576: true; the input reads as it did. -/
def renderOverUptoRow : OpenClaim := { program := "ytgkfijgdkegdkaagreat", sum := "ff6b82136721af73efb35720309b48191ecbd4da2eb7f40451b058429f7a9cd7", func := "scumble/scumblelaw12.RenderOver", spec := "renderOver", inPlace := ["slices.overlaps[scumble/tree.Layer]"], unfollowed := true, recurses := true, apart := false, narrowed := true }
def RenderOverUptoSaid : Prop := renderOverUptoRow.holds Tryz.pinned (OpenSpec.upto renderOverSpec)

/-- 'scumblelaw12.RenderGroups', WHERE WHAT IT READS IS OF BULK AT MOST 1048576: true; the input reads as it did. -/
def renderGroupsUptoRow : OpenClaim := { program := "ytgkfijgdkegdkaagreat", sum := "ff6b82136721af73efb35720309b48191ecbd4da2eb7f40451b058429f7a9cd7", func := "scumble/scumblelaw12.RenderGroups", spec := "renderGroups", inPlace := ["slices.overlaps[scumble/tree.Layer]"], unfollowed := true, recurses := true, apart := false, narrowed := true }
def RenderGroupsUptoSaid : Prop := renderGroupsUptoRow.holds Tryz.pinned (OpenSpec.upto renderGroupsSpec)

/-- 'scumblelaw12.RenderHidden', WHERE WHAT IT READS IS OF BULK AT MOST 1048576: true; the input reads as it did. -/
def renderHiddenUptoRow : OpenClaim := { program := "ytgkfijgdkegdkaagreat", sum := "ff6b82136721af73efb35720309b48191ecbd4da2eb7f40451b058429f7a9cd7", func := "scumble/scumblelaw12.RenderHidden", spec := "renderHidden", inPlace := ["slices.overlaps[scumble/tree.Layer]"], unfollowed := true, recurses := true, apart := false, narrowed := true }
def RenderHiddenUptoSaid : Prop := renderHiddenUptoRow.holds Tryz.pinned (OpenSpec.upto renderHiddenSpec)

/-- 'scumblelaw12.RenderMasks', WHERE WHAT IT READS IS OF BULK AT MOST 1048576: true; the input reads as it did. -/
def renderMasksUptoRow : OpenClaim := { program := "ytgkfijgdkegdkaagreat", sum := "ff6b82136721af73efb35720309b48191ecbd4da2eb7f40451b058429f7a9cd7", func := "scumble/scumblelaw12.RenderMasks", spec := "renderMasks", inPlace := ["slices.overlaps[scumble/tree.Layer]"], unfollowed := true, recurses := true, apart := false, narrowed := true }
def RenderMasksUptoSaid : Prop := renderMasksUptoRow.holds Tryz.pinned (OpenSpec.upto renderMasksSpec)

end Rows
end Go.Proofs.YtgkfijgdkegdkaaGreat
