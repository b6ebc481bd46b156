/-
  NARROWER THAN 'FOR EVERY INPUT', by the rows' own cells (each row's printed sentence says how): TreeRight: loops.
  DERIVED. THE GIVEN ROWS OF THIS SEAT. 9 by the template 'for every input the law returns true; each argument reads behind the call as it read before'; 0 by the template 'total and deterministic' (their statements: YtnoebcjpbbccnaaTotals.lean).
  GIVEN WITH THE SEED: the statements are not yours to turn. If you find one false, say at which input.
  Laid BY PROGRAM, IN A SANDBOX (cutbox-rows.mjs): the forced cells as the released guide's own fill.sh prints them over the translation e09bb7bda861c1df… (all of the seat's roots in one cut). By AI agents, Wed Nov 11 2026. No macro, syntax, notation, axiom, sorry.
-/
import Derived.Test.YtnoebcjpbbccnaaChecked
import GoSem.Claim
import GoSem.ClaimJoined
import GoSem.ClaimMapViews
import Derived.JoinedTies
import Derived.KernelRfl
namespace Go.Proofs.Ytnoebcjpbbccnaa
/- THE CELL 'sum', in the pinned program and in every row, IS THE sha256 OF THE DUMP (.gsa) THAT YtnoebcjpbbccnaaProg.lean LOADS. Nothing in Lean hashes anything: it is a label: what it is worth is what the hold of that sum in a sandbox is worth. -/
noncomputable def Try.pinned : Pinned := { name := "ytnoebcjpbbccnaa", sum := "e09bb7bda861c1dfb8f487e8b3724bd3ba19073bc644c42c1bcff856dd162e7c", checked := Try.checked }
namespace Rows
def none {H : Type} : Left H := { results := [], args := [] }

/-- 'scumblelaw11.TreePlays': WHATEVER THE INPUT: true; the input reads as it did. -/
def treePlaysSpec : ChangeSpec := { name := "treePlays", fn := fun _ => fun
  | [d1, d2, d3] => { results := [.lit (.bool true)], args := [d1, d2, d3] }
  | _ => none }
def treePlaysRow : OpenClaim := { program := "ytnoebcjpbbccnaa", sum := "e09bb7bda861c1dfb8f487e8b3724bd3ba19073bc644c42c1bcff856dd162e7c", func := "scumble/scumblelaw11.TreePlays", spec := "treePlays", inPlace := ["slices.overlaps[scumble/tree.Layer]"], unfollowed := true, recurses := true, apart := false }
def TreePlaysSaid : Prop := treePlaysRow.holds Try.pinned (OpenSpec.ofChange treePlaysSpec)

/-- ITS FALSE NEIGHBOUR: 'it returns false'. Refute it at one input. -/
def treePlaysWrong : ChangeSpec := { name := "treePlays", fn := fun _ => fun
  | [d1, d2, d3] => { results := [.lit (.bool false)], args := [d1, d2, d3] }
  | _ => none }
def TreePlaysWrongFalsely : Prop := treePlaysRow.holds Try.pinned (OpenSpec.ofChange treePlaysWrong)

/-- 'scumblelaw11.TreeOwn': WHATEVER THE INPUT: true; the input reads as it did. -/
def treeOwnSpec : ChangeSpec := { name := "treeOwn", fn := fun _ => fun
  | [d1, d2] => { results := [.lit (.bool true)], args := [d1, d2] }
  | _ => none }
def treeOwnRow : OpenClaim := { program := "ytnoebcjpbbccnaa", sum := "e09bb7bda861c1dfb8f487e8b3724bd3ba19073bc644c42c1bcff856dd162e7c", func := "scumble/scumblelaw11.TreeOwn", spec := "treeOwn", inPlace := ["slices.overlaps[scumble/tree.Layer]"], unfollowed := true, recurses := true, apart := false }
def TreeOwnSaid : Prop := treeOwnRow.holds Try.pinned (OpenSpec.ofChange treeOwnSpec)

/-- ITS FALSE NEIGHBOUR: 'it returns false'. Refute it at one input. -/
def treeOwnWrong : ChangeSpec := { name := "treeOwn", fn := fun _ => fun
  | [d1, d2] => { results := [.lit (.bool false)], args := [d1, d2] }
  | _ => none }
def TreeOwnWrongFalsely : Prop := treeOwnRow.holds Try.pinned (OpenSpec.ofChange treeOwnWrong)

/-- 'scumblelaw11.TreeDeep': WHATEVER THE INPUT: true; the input reads as it did. -/
def treeDeepSpec : ChangeSpec := { name := "treeDeep", fn := fun _ => fun
  | [d1, d2] => { results := [.lit (.bool true)], args := [d1, d2] }
  | _ => none }
def treeDeepRow : OpenClaim := { program := "ytnoebcjpbbccnaa", sum := "e09bb7bda861c1dfb8f487e8b3724bd3ba19073bc644c42c1bcff856dd162e7c", func := "scumble/scumblelaw11.TreeDeep", spec := "treeDeep", inPlace := ["slices.overlaps[scumble/tree.Layer]"], unfollowed := true, recurses := true, apart := false }
def TreeDeepSaid : Prop := treeDeepRow.holds Try.pinned (OpenSpec.ofChange treeDeepSpec)

/-- ITS FALSE NEIGHBOUR: 'it returns false'. Refute it at one input. -/
def treeDeepWrong : ChangeSpec := { name := "treeDeep", fn := fun _ => fun
  | [d1, d2] => { results := [.lit (.bool false)], args := [d1, d2] }
  | _ => none }
def TreeDeepWrongFalsely : Prop := treeDeepRow.holds Try.pinned (OpenSpec.ofChange treeDeepWrong)

/-- 'scumblelaw11.TreeFinds': WHATEVER THE INPUT: true; the input reads as it did. -/
def treeFindsSpec : ChangeSpec := { name := "treeFinds", fn := fun _ => fun
  | [d1, d2] => { results := [.lit (.bool true)], args := [d1, d2] }
  | _ => none }
def treeFindsRow : OpenClaim := { program := "ytnoebcjpbbccnaa", sum := "e09bb7bda861c1dfb8f487e8b3724bd3ba19073bc644c42c1bcff856dd162e7c", func := "scumble/scumblelaw11.TreeFinds", spec := "treeFinds", inPlace := ["slices.overlaps[scumble/tree.Layer]"], unfollowed := true, recurses := true, apart := false }
def TreeFindsSaid : Prop := treeFindsRow.holds Try.pinned (OpenSpec.ofChange treeFindsSpec)

/-- ITS FALSE NEIGHBOUR: 'it returns false'. Refute it at one input. -/
def treeFindsWrong : ChangeSpec := { name := "treeFinds", fn := fun _ => fun
  | [d1, d2] => { results := [.lit (.bool false)], args := [d1, d2] }
  | _ => none }
def TreeFindsWrongFalsely : Prop := treeFindsRow.holds Try.pinned (OpenSpec.ofChange treeFindsWrong)

/-- 'scumblelaw11.TreeSame': WHATEVER THE INPUT: true; the input reads as it did. -/
def treeSameSpec : ChangeSpec := { name := "treeSame", fn := fun _ => fun
  | [d1, d2] => { results := [.lit (.bool true)], args := [d1, d2] }
  | _ => none }
def treeSameRow : OpenClaim := { program := "ytnoebcjpbbccnaa", sum := "e09bb7bda861c1dfb8f487e8b3724bd3ba19073bc644c42c1bcff856dd162e7c", func := "scumble/scumblelaw11.TreeSame", spec := "treeSame", inPlace := ["slices.overlaps[scumble/tree.Layer]"], unfollowed := true, recurses := true, apart := false }
def TreeSameSaid : Prop := treeSameRow.holds Try.pinned (OpenSpec.ofChange treeSameSpec)

/-- ITS FALSE NEIGHBOUR: 'it returns false'. Refute it at one input. -/
def treeSameWrong : ChangeSpec := { name := "treeSame", fn := fun _ => fun
  | [d1, d2] => { results := [.lit (.bool false)], args := [d1, d2] }
  | _ => none }
def TreeSameWrongFalsely : Prop := treeSameRow.holds Try.pinned (OpenSpec.ofChange treeSameWrong)

/-- 'scumblelaw11.TreeRight': WHATEVER THE INPUT: true; the input reads as it did. -/
def treeRightSpec : ChangeSpec := { name := "treeRight", fn := fun _ => fun
  | [d] => { results := [.lit (.bool true)], args := [d] }
  | _ => none }
def treeRightRow : OpenClaim := { program := "ytnoebcjpbbccnaa", sum := "e09bb7bda861c1dfb8f487e8b3724bd3ba19073bc644c42c1bcff856dd162e7c", func := "scumble/scumblelaw11.TreeRight", spec := "treeRight", inPlace := ["slices.overlaps[scumble/tree.Layer]"], unfollowed := true, recurses := true, loops := true, apart := false }
def TreeRightSaid : Prop := treeRightRow.holds Try.pinned (OpenSpec.ofChange treeRightSpec)

/-- ITS FALSE NEIGHBOUR: 'it returns false'. Refute it at one input. -/
def treeRightWrong : ChangeSpec := { name := "treeRight", fn := fun _ => fun
  | [d] => { results := [.lit (.bool false)], args := [d] }
  | _ => none }
def TreeRightWrongFalsely : Prop := treeRightRow.holds Try.pinned (OpenSpec.ofChange treeRightWrong)

/-- 'scumblelaw11.TreeMade': WHATEVER THE INPUT: true; the input reads as it did. -/
def treeMadeSpec : ChangeSpec := { name := "treeMade", fn := fun _ => fun
  | [d1, d2, d3] => { results := [.lit (.bool true)], args := [d1, d2, d3] }
  | _ => none }
def treeMadeRow : OpenClaim := { program := "ytnoebcjpbbccnaa", sum := "e09bb7bda861c1dfb8f487e8b3724bd3ba19073bc644c42c1bcff856dd162e7c", func := "scumble/scumblelaw11.TreeMade", spec := "treeMade", inPlace := ["slices.overlaps[scumble/tree.Layer]"], unfollowed := true, recurses := true, apart := false }
def TreeMadeSaid : Prop := treeMadeRow.holds Try.pinned (OpenSpec.ofChange treeMadeSpec)

/-- ITS FALSE NEIGHBOUR: 'it returns false'. Refute it at one input. -/
def treeMadeWrong : ChangeSpec := { name := "treeMade", fn := fun _ => fun
  | [d1, d2, d3] => { results := [.lit (.bool false)], args := [d1, d2, d3] }
  | _ => none }
def TreeMadeWrongFalsely : Prop := treeMadeRow.holds Try.pinned (OpenSpec.ofChange treeMadeWrong)

/-- 'scumblelaw11.TreeBack': WHATEVER THE INPUT: true; the input reads as it did. -/
def treeBackSpec : ChangeSpec := { name := "treeBack", fn := fun _ => fun
  | [d1, d2, d3, d4, d5] => { results := [.lit (.bool true)], args := [d1, d2, d3, d4, d5] }
  | _ => none }
def treeBackRow : OpenClaim := { program := "ytnoebcjpbbccnaa", sum := "e09bb7bda861c1dfb8f487e8b3724bd3ba19073bc644c42c1bcff856dd162e7c", func := "scumble/scumblelaw11.TreeBack", spec := "treeBack", inPlace := ["slices.overlaps[scumble/tree.Layer]"], unfollowed := true, recurses := true, apart := false }
def TreeBackSaid : Prop := treeBackRow.holds Try.pinned (OpenSpec.ofChange treeBackSpec)

/-- ITS FALSE NEIGHBOUR: 'it returns false'. Refute it at one input. -/
def treeBackWrong : ChangeSpec := { name := "treeBack", fn := fun _ => fun
  | [d1, d2, d3, d4, d5] => { results := [.lit (.bool false)], args := [d1, d2, d3, d4, d5] }
  | _ => none }
def TreeBackWrongFalsely : Prop := treeBackRow.holds Try.pinned (OpenSpec.ofChange treeBackWrong)

/-- 'scumblelaw11.TreePaints': WHATEVER THE INPUT: true; the input reads as it did. -/
def treePaintsSpec : ChangeSpec := { name := "treePaints", fn := fun _ => fun
  | [d1, d2, d3, d4, d5, d6] => { results := [.lit (.bool true)], args := [d1, d2, d3, d4, d5, d6] }
  | _ => none }
def treePaintsRow : OpenClaim := { program := "ytnoebcjpbbccnaa", sum := "e09bb7bda861c1dfb8f487e8b3724bd3ba19073bc644c42c1bcff856dd162e7c", func := "scumble/scumblelaw11.TreePaints", spec := "treePaints", inPlace := ["slices.overlaps[scumble/tree.Layer]"], unfollowed := true, recurses := true, apart := false }
def TreePaintsSaid : Prop := treePaintsRow.holds Try.pinned (OpenSpec.ofChange treePaintsSpec)

/-- ITS FALSE NEIGHBOUR: 'it returns false'. Refute it at one input. -/
def treePaintsWrong : ChangeSpec := { name := "treePaints", fn := fun _ => fun
  | [d1, d2, d3, d4, d5, d6] => { results := [.lit (.bool false)], args := [d1, d2, d3, d4, d5, d6] }
  | _ => none }
def TreePaintsWrongFalsely : Prop := treePaintsRow.holds Try.pinned (OpenSpec.ofChange treePaintsWrong)

/- THE SECOND FORM. 'bulk': how many values and letters a reading holds, each counted each time it is reached (what is shared counts as often as it is met; a slice's spare places count too). A statement '..UptoSaid' is the law's where the arguments, and the package variables that the reading takes, are together of bulk at most 1048576: NARROWER than '..Said'. Prove '..Said' where nothing that the law and all that it calls make is longer than what came in: it says more and counts as full. Else prove '..UptoSaid'. A law counts once. -/
mutual
def uptoBulk {H : Type} : DataW H → Nat
  | .lit (.string bytes) => bytes.length + 1
  | .lit _ => 1
  | .nil => 1
  | .ptr d => uptoBulk d + 1
  | .slice elems spare => uptoBulkAll elems + uptoBulkAll spare + 1
  | .agg parts => uptoBulkAll parts + 1
  | .iface _ d => uptoBulk d + 1
  | .map entries => uptoBulkEntries entries + 1
  | .held _ => 1
def uptoBulkAll {H : Type} : List (DataW H) → Nat
  | [] => 0
  | d :: r => uptoBulk d + uptoBulkAll r
def uptoBulkEntries {H : Type} : List (Lit × DataW H) → Nat
  | [] => 0
  | x :: r => uptoBulkEntry x + uptoBulkEntries r
def uptoBulkEntry {H : Type} : Lit × DataW H → Nat
  | (.string bytes, d) => bytes.length + uptoBulk d + 1
  | (_, d) => uptoBulk d + 1
 end
def uptoSmall : (H : Type) → List (DataW H) → Bool := fun _ ds => decide (uptoBulkAll ds ≤ 1048576)
def OpenSpec.upto (s : _root_.Go.ChangeSpec) : _root_.Go.OpenSpec := { _root_.Go.OpenSpec.ofChange s with cond := some uptoSmall }

/-- 'scumblelaw11.TreePlays', WHERE WHAT IT READS IS OF BULK AT MOST 1048576: true; the input reads as it did. -/
def treePlaysUptoRow : OpenClaim := { program := "ytnoebcjpbbccnaa", sum := "e09bb7bda861c1dfb8f487e8b3724bd3ba19073bc644c42c1bcff856dd162e7c", func := "scumble/scumblelaw11.TreePlays", spec := "treePlays", inPlace := ["slices.overlaps[scumble/tree.Layer]"], unfollowed := true, recurses := true, apart := false, narrowed := true }
def TreePlaysUptoSaid : Prop := treePlaysUptoRow.holds Try.pinned (OpenSpec.upto treePlaysSpec)

/-- 'scumblelaw11.TreeOwn', WHERE WHAT IT READS IS OF BULK AT MOST 1048576: true; the input reads as it did. -/
def treeOwnUptoRow : OpenClaim := { program := "ytnoebcjpbbccnaa", sum := "e09bb7bda861c1dfb8f487e8b3724bd3ba19073bc644c42c1bcff856dd162e7c", func := "scumble/scumblelaw11.TreeOwn", spec := "treeOwn", inPlace := ["slices.overlaps[scumble/tree.Layer]"], unfollowed := true, recurses := true, apart := false, narrowed := true }
def TreeOwnUptoSaid : Prop := treeOwnUptoRow.holds Try.pinned (OpenSpec.upto treeOwnSpec)

/-- 'scumblelaw11.TreeDeep', WHERE WHAT IT READS IS OF BULK AT MOST 1048576: true; the input reads as it did. -/
def treeDeepUptoRow : OpenClaim := { program := "ytnoebcjpbbccnaa", sum := "e09bb7bda861c1dfb8f487e8b3724bd3ba19073bc644c42c1bcff856dd162e7c", func := "scumble/scumblelaw11.TreeDeep", spec := "treeDeep", inPlace := ["slices.overlaps[scumble/tree.Layer]"], unfollowed := true, recurses := true, apart := false, narrowed := true }
def TreeDeepUptoSaid : Prop := treeDeepUptoRow.holds Try.pinned (OpenSpec.upto treeDeepSpec)

/-- 'scumblelaw11.TreeFinds', WHERE WHAT IT READS IS OF BULK AT MOST 1048576: true; the input reads as it did. -/
def treeFindsUptoRow : OpenClaim := { program := "ytnoebcjpbbccnaa", sum := "e09bb7bda861c1dfb8f487e8b3724bd3ba19073bc644c42c1bcff856dd162e7c", func := "scumble/scumblelaw11.TreeFinds", spec := "treeFinds", inPlace := ["slices.overlaps[scumble/tree.Layer]"], unfollowed := true, recurses := true, apart := false, narrowed := true }
def TreeFindsUptoSaid : Prop := treeFindsUptoRow.holds Try.pinned (OpenSpec.upto treeFindsSpec)

/-- 'scumblelaw11.TreeSame', WHERE WHAT IT READS IS OF BULK AT MOST 1048576: true; the input reads as it did. -/
def treeSameUptoRow : OpenClaim := { program := "ytnoebcjpbbccnaa", sum := "e09bb7bda861c1dfb8f487e8b3724bd3ba19073bc644c42c1bcff856dd162e7c", func := "scumble/scumblelaw11.TreeSame", spec := "treeSame", inPlace := ["slices.overlaps[scumble/tree.Layer]"], unfollowed := true, recurses := true, apart := false, narrowed := true }
def TreeSameUptoSaid : Prop := treeSameUptoRow.holds Try.pinned (OpenSpec.upto treeSameSpec)

/-- 'scumblelaw11.TreeRight', WHERE WHAT IT READS IS OF BULK AT MOST 1048576: true; the input reads as it did. -/
def treeRightUptoRow : OpenClaim := { program := "ytnoebcjpbbccnaa", sum := "e09bb7bda861c1dfb8f487e8b3724bd3ba19073bc644c42c1bcff856dd162e7c", func := "scumble/scumblelaw11.TreeRight", spec := "treeRight", inPlace := ["slices.overlaps[scumble/tree.Layer]"], unfollowed := true, recurses := true, loops := true, apart := false, narrowed := true }
def TreeRightUptoSaid : Prop := treeRightUptoRow.holds Try.pinned (OpenSpec.upto treeRightSpec)

/-- 'scumblelaw11.TreeMade', WHERE WHAT IT READS IS OF BULK AT MOST 1048576: true; the input reads as it did. -/
def treeMadeUptoRow : OpenClaim := { program := "ytnoebcjpbbccnaa", sum := "e09bb7bda861c1dfb8f487e8b3724bd3ba19073bc644c42c1bcff856dd162e7c", func := "scumble/scumblelaw11.TreeMade", spec := "treeMade", inPlace := ["slices.overlaps[scumble/tree.Layer]"], unfollowed := true, recurses := true, apart := false, narrowed := true }
def TreeMadeUptoSaid : Prop := treeMadeUptoRow.holds Try.pinned (OpenSpec.upto treeMadeSpec)

/-- 'scumblelaw11.TreeBack', WHERE WHAT IT READS IS OF BULK AT MOST 1048576: true; the input reads as it did. -/
def treeBackUptoRow : OpenClaim := { program := "ytnoebcjpbbccnaa", sum := "e09bb7bda861c1dfb8f487e8b3724bd3ba19073bc644c42c1bcff856dd162e7c", func := "scumble/scumblelaw11.TreeBack", spec := "treeBack", inPlace := ["slices.overlaps[scumble/tree.Layer]"], unfollowed := true, recurses := true, apart := false, narrowed := true }
def TreeBackUptoSaid : Prop := treeBackUptoRow.holds Try.pinned (OpenSpec.upto treeBackSpec)

/-- 'scumblelaw11.TreePaints', WHERE WHAT IT READS IS OF BULK AT MOST 1048576: true; the input reads as it did. -/
def treePaintsUptoRow : OpenClaim := { program := "ytnoebcjpbbccnaa", sum := "e09bb7bda861c1dfb8f487e8b3724bd3ba19073bc644c42c1bcff856dd162e7c", func := "scumble/scumblelaw11.TreePaints", spec := "treePaints", inPlace := ["slices.overlaps[scumble/tree.Layer]"], unfollowed := true, recurses := true, apart := false, narrowed := true }
def TreePaintsUptoSaid : Prop := treePaintsUptoRow.holds Try.pinned (OpenSpec.upto treePaintsSpec)

end Rows
end Go.Proofs.Ytnoebcjpbbccnaa
