/-
  No cell of these rows narrows 'for every input' (looked for: loops, veiled, ifaces, maps, wideKeys, modest, calm, conditions, laid).
  DERIVED. THE GIVEN ROWS OF THIS SEAT. 3 by the template 'for every input the law returns true; each argument reads behind the call as it read before'; 0 by the template 'total and deterministic' (their statements: YtnbelfjfealnhaaTotals.lean).
  GIVEN WITH THE SEED: the statements are not yours to turn. If you find one false, say at which input.
  Laid BY PROGRAM, IN A SANDBOX (cutbox-rows.mjs): the forced cells as the released guide's own fill.sh prints them over the translation d3ab4626bef16c22… (all of the seat's roots in one cut). By AI agents, Wed Nov 11 2026. No macro, syntax, notation, axiom, sorry.
-/
import Derived.Test.YtnbelfjfealnhaaChecked
import GoSem.Claim
import GoSem.ClaimJoined
import GoSem.ClaimMapViews
import Derived.JoinedTies
import Derived.KernelRfl
namespace Go.Proofs.Ytnbelfjfealnhaa
/- THE CELL 'sum', in the pinned program and in every row, IS THE sha256 OF THE DUMP (.gsa) THAT YtnbelfjfealnhaaProg.lean LOADS. Nothing in Lean hashes anything: it is a label: what it is worth is what the hold of that sum in a sandbox is worth. -/
noncomputable def Try.pinned : Pinned := { name := "ytnbelfjfealnhaa", sum := "d3ab4626bef16c227a7dcb8d117a9f6873350af417107e275eeb568bbdb91378", checked := Try.checked }
namespace Rows
def none {H : Type} : Left H := { results := [], args := [] }

/-- 'scumblelaw13.LiveSaves': WHATEVER THE INPUT: true; the input reads as it did. -/
def liveSavesSpec : ChangeSpec := { name := "liveSaves", fn := fun _ => fun
  | [d1, d2] => { results := [.lit (.bool true)], args := [d1, d2] }
  | _ => none }
def liveSavesRow : OpenClaim := { program := "ytnbelfjfealnhaa", sum := "d3ab4626bef16c227a7dcb8d117a9f6873350af417107e275eeb568bbdb91378", func := "scumble/scumblelaw13.LiveSaves", spec := "liveSaves", inPlace := ["slices.overlaps[scumble/tree.Layer]"], unfollowed := true, recurses := true, plainKeys := false, apart := false }
def LiveSavesSaid : Prop := liveSavesRow.holds Try.pinned (OpenSpec.ofChange liveSavesSpec)

/-- ITS FALSE NEIGHBOUR: 'it returns false'. Refute it at one input. -/
def liveSavesWrong : ChangeSpec := { name := "liveSaves", fn := fun _ => fun
  | [d1, d2] => { results := [.lit (.bool false)], args := [d1, d2] }
  | _ => none }
def LiveSavesWrongFalsely : Prop := liveSavesRow.holds Try.pinned (OpenSpec.ofChange liveSavesWrong)

/-- 'scumblelaw13.LiveOrder': WHATEVER THE INPUT: true; the input reads as it did. -/
def liveOrderSpec : ChangeSpec := { name := "liveOrder", fn := fun _ => fun
  | [d1, d2] => { results := [.lit (.bool true)], args := [d1, d2] }
  | _ => none }
def liveOrderRow : OpenClaim := { program := "ytnbelfjfealnhaa", sum := "d3ab4626bef16c227a7dcb8d117a9f6873350af417107e275eeb568bbdb91378", func := "scumble/scumblelaw13.LiveOrder", spec := "liveOrder", inPlace := ["slices.overlaps[scumble/tree.Layer]"], unfollowed := true, recurses := true, plainKeys := false, apart := false }
def LiveOrderSaid : Prop := liveOrderRow.holds Try.pinned (OpenSpec.ofChange liveOrderSpec)

/-- ITS FALSE NEIGHBOUR: 'it returns false'. Refute it at one input. -/
def liveOrderWrong : ChangeSpec := { name := "liveOrder", fn := fun _ => fun
  | [d1, d2] => { results := [.lit (.bool false)], args := [d1, d2] }
  | _ => none }
def LiveOrderWrongFalsely : Prop := liveOrderRow.holds Try.pinned (OpenSpec.ofChange liveOrderWrong)

/-- 'scumblelaw13.LiveSets': WHATEVER THE INPUT: true; the input reads as it did. -/
def liveSetsSpec : ChangeSpec := { name := "liveSets", fn := fun _ => fun
  | [d1, d2, d3, d4] => { results := [.lit (.bool true)], args := [d1, d2, d3, d4] }
  | _ => none }
def liveSetsRow : OpenClaim := { program := "ytnbelfjfealnhaa", sum := "d3ab4626bef16c227a7dcb8d117a9f6873350af417107e275eeb568bbdb91378", func := "scumble/scumblelaw13.LiveSets", spec := "liveSets", inPlace := ["slices.overlaps[scumble/tree.Layer]"], unfollowed := true, recurses := true, plainKeys := false, apart := false }
def LiveSetsSaid : Prop := liveSetsRow.holds Try.pinned (OpenSpec.ofChange liveSetsSpec)

/-- ITS FALSE NEIGHBOUR: 'it returns false'. Refute it at one input. -/
def liveSetsWrong : ChangeSpec := { name := "liveSets", fn := fun _ => fun
  | [d1, d2, d3, d4] => { results := [.lit (.bool false)], args := [d1, d2, d3, d4] }
  | _ => none }
def LiveSetsWrongFalsely : Prop := liveSetsRow.holds Try.pinned (OpenSpec.ofChange liveSetsWrong)

/- THE SECOND FORM. 'bulk': how many values and letters a reading holds, each counted each time it is reached (what is shared counts as often as it is met; a slice's spare places count too). A statement '..UptoSaid' is the law's where the arguments, and the package variables that the reading takes, are together of bulk at most 1048576: NARROWER than '..Said'. Prove '..Said' where nothing that the law and all that it calls make is longer than what came in: it says more and counts as full. Else prove '..UptoSaid'. A law counts once. -/
mutual
def uptoBulk {H : Type} : DataW H → Nat
  | .lit (.string bytes) => bytes.length + 1
  | .lit _ => 1
  | .nil => 1
  | .ptr d => uptoBulk d + 1
  | .slice elems spare => uptoBulkAll elems + uptoBulkAll spare + 1
  | .agg parts => uptoBulkAll parts + 1
  | .iface _ d => uptoBulk d + 1
  | .map entries => uptoBulkEntries entries + 1
  | .held _ => 1
def uptoBulkAll {H : Type} : List (DataW H) → Nat
  | [] => 0
  | d :: r => uptoBulk d + uptoBulkAll r
def uptoBulkEntries {H : Type} : List (Lit × DataW H) → Nat
  | [] => 0
  | x :: r => uptoBulkEntry x + uptoBulkEntries r
def uptoBulkEntry {H : Type} : Lit × DataW H → Nat
  | (.string bytes, d) => bytes.length + uptoBulk d + 1
  | (_, d) => uptoBulk d + 1
 end
def uptoSmall : (H : Type) → List (DataW H) → Bool := fun _ ds => decide (uptoBulkAll ds ≤ 1048576)
def OpenSpec.upto (s : _root_.Go.ChangeSpec) : _root_.Go.OpenSpec := { _root_.Go.OpenSpec.ofChange s with cond := some uptoSmall }

/-- 'scumblelaw13.LiveSaves', WHERE WHAT IT READS IS OF BULK AT MOST 1048576: true; the input reads as it did. -/
def liveSavesUptoRow : OpenClaim := { program := "ytnbelfjfealnhaa", sum := "d3ab4626bef16c227a7dcb8d117a9f6873350af417107e275eeb568bbdb91378", func := "scumble/scumblelaw13.LiveSaves", spec := "liveSaves", inPlace := ["slices.overlaps[scumble/tree.Layer]"], unfollowed := true, recurses := true, plainKeys := false, apart := false, narrowed := true }
def LiveSavesUptoSaid : Prop := liveSavesUptoRow.holds Try.pinned (OpenSpec.upto liveSavesSpec)

/-- 'scumblelaw13.LiveOrder', WHERE WHAT IT READS IS OF BULK AT MOST 1048576: true; the input reads as it did. -/
def liveOrderUptoRow : OpenClaim := { program := "ytnbelfjfealnhaa", sum := "d3ab4626bef16c227a7dcb8d117a9f6873350af417107e275eeb568bbdb91378", func := "scumble/scumblelaw13.LiveOrder", spec := "liveOrder", inPlace := ["slices.overlaps[scumble/tree.Layer]"], unfollowed := true, recurses := true, plainKeys := false, apart := false, narrowed := true }
def LiveOrderUptoSaid : Prop := liveOrderUptoRow.holds Try.pinned (OpenSpec.upto liveOrderSpec)

/-- 'scumblelaw13.LiveSets', WHERE WHAT IT READS IS OF BULK AT MOST 1048576: true; the input reads as it did. -/
def liveSetsUptoRow : OpenClaim := { program := "ytnbelfjfealnhaa", sum := "d3ab4626bef16c227a7dcb8d117a9f6873350af417107e275eeb568bbdb91378", func := "scumble/scumblelaw13.LiveSets", spec := "liveSets", inPlace := ["slices.overlaps[scumble/tree.Layer]"], unfollowed := true, recurses := true, plainKeys := false, apart := false, narrowed := true }
def LiveSetsUptoSaid : Prop := liveSetsUptoRow.holds Try.pinned (OpenSpec.upto liveSetsSpec)

end Rows
end Go.Proofs.Ytnbelfjfealnhaa
