/-
  No cell of these rows narrows 'for every input' (looked for: loops, veiled, ifaces, maps, wideKeys, modest, calm, conditions, laid).
  DERIVED. THE GIVEN ROWS OF THIS SEAT. 3 by the template 'for every input the law returns true; each argument reads behind the call as it read before'; 0 by the template 'total and deterministic' (their statements: YtgmhjfnnhfjgkaaTotals.lean).
  GIVEN WITH THE SEED: the statements are not yours to turn. If you find one false, say at which input.
  Laid BY PROGRAM, IN A SANDBOX (cutbox-rows.mjs): the forced cells as the released guide's own fill.sh prints them over the translation 17c1628e7b38d1d0… (all of the seat's roots in one cut). By AI agents, Wed Nov 11 2026. No macro, syntax, notation, axiom, sorry.
-/
import Derived.Test.YtgmhjfnnhfjgkaaChecked
import GoSem.Claim
import GoSem.ClaimJoined
import GoSem.ClaimMapViews
import Derived.JoinedTies
import Derived.KernelRfl
namespace Go.Proofs.Ytgmhjfnnhfjgkaa
/- THE CELL 'sum', in the pinned program and in every row, IS THE sha256 OF THE DUMP (.gsa) THAT YtgmhjfnnhfjgkaaProg.lean LOADS. Nothing in Lean hashes anything: it is a label: what it is worth is what the hold of that sum in a sandbox is worth. -/
noncomputable def Try.pinned : Pinned := { name := "ytgmhjfnnhfjgkaa", sum := "17c1628e7b38d1d0f6839fdfc45f6ca129bf6d1111f3488c2918f09e7cd4442d", checked := Try.checked }
namespace Rows
def none {H : Type} : Left H := { results := [], args := [] }

/-- 'scumblelaw14.HistBack': WHATEVER THE INPUT: true; the input reads as it did. -/
def histBackSpec : ChangeSpec := { name := "histBack", fn := fun _ => fun
  | [d] => { results := [.lit (.bool true)], args := [d] }
  | _ => none }
def histBackRow : OpenClaim := { program := "ytgmhjfnnhfjgkaa", sum := "17c1628e7b38d1d0f6839fdfc45f6ca129bf6d1111f3488c2918f09e7cd4442d", func := "scumble/scumblelaw14.HistBack", spec := "histBack", inPlace := ["slices.overlaps[scumble/tree.Layer]"], unfollowed := true, recurses := true, apart := false }
def HistBackSaid : Prop := histBackRow.holds Try.pinned (OpenSpec.ofChange histBackSpec)

/-- ITS FALSE NEIGHBOUR: 'it returns false'. Refute it at one input. -/
def histBackWrong : ChangeSpec := { name := "histBack", fn := fun _ => fun
  | [d] => { results := [.lit (.bool false)], args := [d] }
  | _ => none }
def HistBackWrongFalsely : Prop := histBackRow.holds Try.pinned (OpenSpec.ofChange histBackWrong)

/-- 'scumblelaw14.HistBranch': WHATEVER THE INPUT: true; the input reads as it did. -/
def histBranchSpec : ChangeSpec := { name := "histBranch", fn := fun _ => fun
  | [d1, d2, d3] => { results := [.lit (.bool true)], args := [d1, d2, d3] }
  | _ => none }
def histBranchRow : OpenClaim := { program := "ytgmhjfnnhfjgkaa", sum := "17c1628e7b38d1d0f6839fdfc45f6ca129bf6d1111f3488c2918f09e7cd4442d", func := "scumble/scumblelaw14.HistBranch", spec := "histBranch", inPlace := ["slices.overlaps[scumble/tree.Layer]"], unfollowed := true, recurses := true, apart := false }
def HistBranchSaid : Prop := histBranchRow.holds Try.pinned (OpenSpec.ofChange histBranchSpec)

/-- ITS FALSE NEIGHBOUR: 'it returns false'. Refute it at one input. -/
def histBranchWrong : ChangeSpec := { name := "histBranch", fn := fun _ => fun
  | [d1, d2, d3] => { results := [.lit (.bool false)], args := [d1, d2, d3] }
  | _ => none }
def HistBranchWrongFalsely : Prop := histBranchRow.holds Try.pinned (OpenSpec.ofChange histBranchWrong)

/-- 'scumblelaw14.HistRestores': WHATEVER THE INPUT: true; the input reads as it did. -/
def histRestoresSpec : ChangeSpec := { name := "histRestores", fn := fun _ => fun
  | [d1, d2] => { results := [.lit (.bool true)], args := [d1, d2] }
  | _ => none }
def histRestoresRow : OpenClaim := { program := "ytgmhjfnnhfjgkaa", sum := "17c1628e7b38d1d0f6839fdfc45f6ca129bf6d1111f3488c2918f09e7cd4442d", func := "scumble/scumblelaw14.HistRestores", spec := "histRestores", inPlace := ["slices.overlaps[scumble/tree.Layer]"], unfollowed := true, recurses := true, apart := false }
def HistRestoresSaid : Prop := histRestoresRow.holds Try.pinned (OpenSpec.ofChange histRestoresSpec)

/-- ITS FALSE NEIGHBOUR: 'it returns false'. Refute it at one input. -/
def histRestoresWrong : ChangeSpec := { name := "histRestores", fn := fun _ => fun
  | [d1, d2] => { results := [.lit (.bool false)], args := [d1, d2] }
  | _ => none }
def HistRestoresWrongFalsely : Prop := histRestoresRow.holds Try.pinned (OpenSpec.ofChange histRestoresWrong)

/- THE SECOND FORM. 'bulk': how many values and letters a reading holds, each counted each time it is reached (what is shared counts as often as it is met; a slice's spare places count too). A statement '..UptoSaid' is the law's where the arguments, and the package variables that the reading takes, are together of bulk at most 1048576: NARROWER than '..Said'. Prove '..Said' where nothing that the law and all that it calls make is longer than what came in: it says more and counts as full. Else prove '..UptoSaid'. A law counts once. -/
mutual
def uptoBulk {H : Type} : DataW H → Nat
  | .lit (.string bytes) => bytes.length + 1
  | .lit _ => 1
  | .nil => 1
  | .ptr d => uptoBulk d + 1
  | .slice elems spare => uptoBulkAll elems + uptoBulkAll spare + 1
  | .agg parts => uptoBulkAll parts + 1
  | .iface _ d => uptoBulk d + 1
  | .map entries => uptoBulkEntries entries + 1
  | .held _ => 1
def uptoBulkAll {H : Type} : List (DataW H) → Nat
  | [] => 0
  | d :: r => uptoBulk d + uptoBulkAll r
def uptoBulkEntries {H : Type} : List (Lit × DataW H) → Nat
  | [] => 0
  | x :: r => uptoBulkEntry x + uptoBulkEntries r
def uptoBulkEntry {H : Type} : Lit × DataW H → Nat
  | (.string bytes, d) => bytes.length + uptoBulk d + 1
  | (_, d) => uptoBulk d + 1
 end
def uptoSmall : (H : Type) → List (DataW H) → Bool := fun _ ds => decide (uptoBulkAll ds ≤ 1048576)
def OpenSpec.upto (s : _root_.Go.ChangeSpec) : _root_.Go.OpenSpec := { _root_.Go.OpenSpec.ofChange s with cond := some uptoSmall }

/-- 'scumblelaw14.HistBack', WHERE WHAT IT READS IS OF BULK AT MOST 1048576: true; the input reads as it did. -/
def histBackUptoRow : OpenClaim := { program := "ytgmhjfnnhfjgkaa", sum := "17c1628e7b38d1d0f6839fdfc45f6ca129bf6d1111f3488c2918f09e7cd4442d", func := "scumble/scumblelaw14.HistBack", spec := "histBack", inPlace := ["slices.overlaps[scumble/tree.Layer]"], unfollowed := true, recurses := true, apart := false, narrowed := true }
def HistBackUptoSaid : Prop := histBackUptoRow.holds Try.pinned (OpenSpec.upto histBackSpec)

/-- 'scumblelaw14.HistBranch', WHERE WHAT IT READS IS OF BULK AT MOST 1048576: true; the input reads as it did. -/
def histBranchUptoRow : OpenClaim := { program := "ytgmhjfnnhfjgkaa", sum := "17c1628e7b38d1d0f6839fdfc45f6ca129bf6d1111f3488c2918f09e7cd4442d", func := "scumble/scumblelaw14.HistBranch", spec := "histBranch", inPlace := ["slices.overlaps[scumble/tree.Layer]"], unfollowed := true, recurses := true, apart := false, narrowed := true }
def HistBranchUptoSaid : Prop := histBranchUptoRow.holds Try.pinned (OpenSpec.upto histBranchSpec)

/-- 'scumblelaw14.HistRestores', WHERE WHAT IT READS IS OF BULK AT MOST 1048576: true; the input reads as it did. -/
def histRestoresUptoRow : OpenClaim := { program := "ytgmhjfnnhfjgkaa", sum := "17c1628e7b38d1d0f6839fdfc45f6ca129bf6d1111f3488c2918f09e7cd4442d", func := "scumble/scumblelaw14.HistRestores", spec := "histRestores", inPlace := ["slices.overlaps[scumble/tree.Layer]"], unfollowed := true, recurses := true, apart := false, narrowed := true }
def HistRestoresUptoSaid : Prop := histRestoresUptoRow.holds Try.pinned (OpenSpec.upto histRestoresSpec)

end Rows
end Go.Proofs.Ytgmhjfnnhfjgkaa
