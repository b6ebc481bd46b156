/-
  No cell of these rows narrows 'for every input' (looked for: loops, veiled, ifaces, maps, wideKeys, modest, calm, conditions, laid).
  DERIVED. THE GIVEN ROWS OF THIS SEAT. 5 by the template 'for every input the law returns true; each argument reads behind the call as it read before'; 0 by the template 'total and deterministic' (their statements: YtcbnifopfdgniaaTotals.lean).
  GIVEN WITH THE SEED: the statements are not yours to turn. If you find one false, say at which input.
  Laid BY PROGRAM, IN A SANDBOX (cutbox-rows.mjs): the forced cells as the released guide's own fill.sh prints them over the translation 3a665e895dbe37b3… (all of the seat's roots in one cut). By AI agents, Wed Nov 11 2026. No macro, syntax, notation, axiom, sorry.
-/
import Derived.Test.YtcbnifopfdgniaaChecked
import GoSem.Claim
import GoSem.ClaimJoined
import GoSem.ClaimMapViews
import Derived.JoinedTies
import Derived.KernelRfl
namespace Go.Proofs.Ytcbnifopfdgniaa
/- THE CELL 'sum', in the pinned program and in every row, IS THE sha256 OF THE DUMP (.gsa) THAT YtcbnifopfdgniaaProg.lean LOADS. Nothing in Lean hashes anything: it is a label: what it is worth is what the hold of that sum in a sandbox is worth. -/
noncomputable def Try.pinned : Pinned := { name := "ytcbnifopfdgniaa", sum := "3a665e895dbe37b361a040cb7f503fa507cae30679098603342959b66f633380", checked := Try.checked }
namespace Rows
def none {H : Type} : Left H := { results := [], args := [] }

/-- 'scumblelaw07.TileApart': WHATEVER THE INPUT: true; the input reads as it did. -/
def tileApartSpec : ChangeSpec := { name := "tileApart", fn := fun _ => fun
  | [d1, d2] => { results := [.lit (.bool true)], args := [d1, d2] }
  | _ => none }
def tileApartRow : OpenClaim := { program := "ytcbnifopfdgniaa", sum := "3a665e895dbe37b361a040cb7f503fa507cae30679098603342959b66f633380", func := "scumble/scumblelaw07.TileApart", spec := "tileApart", unfollowed := true, recurses := true, plainKeys := false, apart := false }
def TileApartSaid : Prop := tileApartRow.holds Try.pinned (OpenSpec.ofChange tileApartSpec)

/-- ITS FALSE NEIGHBOUR: 'it returns false'. Refute it at one input. -/
def tileApartWrong : ChangeSpec := { name := "tileApart", fn := fun _ => fun
  | [d1, d2] => { results := [.lit (.bool false)], args := [d1, d2] }
  | _ => none }
def TileApartWrongFalsely : Prop := tileApartRow.holds Try.pinned (OpenSpec.ofChange tileApartWrong)

/-- 'scumblelaw07.TileFrees': WHATEVER THE INPUT: true; the input reads as it did. -/
def tileFreesSpec : ChangeSpec := { name := "tileFrees", fn := fun _ => fun
  | [d1, d2] => { results := [.lit (.bool true)], args := [d1, d2] }
  | _ => none }
def tileFreesRow : OpenClaim := { program := "ytcbnifopfdgniaa", sum := "3a665e895dbe37b361a040cb7f503fa507cae30679098603342959b66f633380", func := "scumble/scumblelaw07.TileFrees", spec := "tileFrees", plainKeys := false, apart := false }
def TileFreesSaid : Prop := tileFreesRow.holds Try.pinned (OpenSpec.ofChange tileFreesSpec)

/-- ITS FALSE NEIGHBOUR: 'it returns false'. Refute it at one input. -/
def tileFreesWrong : ChangeSpec := { name := "tileFrees", fn := fun _ => fun
  | [d1, d2] => { results := [.lit (.bool false)], args := [d1, d2] }
  | _ => none }
def TileFreesWrongFalsely : Prop := tileFreesRow.holds Try.pinned (OpenSpec.ofChange tileFreesWrong)

/-- 'scumblelaw07.TileFills': WHATEVER THE INPUT: true; the input reads as it did. -/
def tileFillsSpec : ChangeSpec := { name := "tileFills", fn := fun _ => fun
  | [d1, d2, d3] => { results := [.lit (.bool true)], args := [d1, d2, d3] }
  | _ => none }
def tileFillsRow : OpenClaim := { program := "ytcbnifopfdgniaa", sum := "3a665e895dbe37b361a040cb7f503fa507cae30679098603342959b66f633380", func := "scumble/scumblelaw07.TileFills", spec := "tileFills", plainKeys := false, apart := false }
def TileFillsSaid : Prop := tileFillsRow.holds Try.pinned (OpenSpec.ofChange tileFillsSpec)

/-- ITS FALSE NEIGHBOUR: 'it returns false'. Refute it at one input. -/
def tileFillsWrong : ChangeSpec := { name := "tileFills", fn := fun _ => fun
  | [d1, d2, d3] => { results := [.lit (.bool false)], args := [d1, d2, d3] }
  | _ => none }
def TileFillsWrongFalsely : Prop := tileFillsRow.holds Try.pinned (OpenSpec.ofChange tileFillsWrong)

/-- 'scumblelaw07.TileShares': WHATEVER THE INPUT: true; the input reads as it did. -/
def tileSharesSpec : ChangeSpec := { name := "tileShares", fn := fun _ => fun
  | [d1, d2, d3, d4] => { results := [.lit (.bool true)], args := [d1, d2, d3, d4] }
  | _ => none }
def tileSharesRow : OpenClaim := { program := "ytcbnifopfdgniaa", sum := "3a665e895dbe37b361a040cb7f503fa507cae30679098603342959b66f633380", func := "scumble/scumblelaw07.TileShares", spec := "tileShares", plainKeys := false, apart := false }
def TileSharesSaid : Prop := tileSharesRow.holds Try.pinned (OpenSpec.ofChange tileSharesSpec)

/-- ITS FALSE NEIGHBOUR: 'it returns false'. Refute it at one input. -/
def tileSharesWrong : ChangeSpec := { name := "tileShares", fn := fun _ => fun
  | [d1, d2, d3, d4] => { results := [.lit (.bool false)], args := [d1, d2, d3, d4] }
  | _ => none }
def TileSharesWrongFalsely : Prop := tileSharesRow.holds Try.pinned (OpenSpec.ofChange tileSharesWrong)

/-- 'scumblelaw07.TilePlays': WHATEVER THE INPUT: true; the input reads as it did. -/
def tilePlaysSpec : ChangeSpec := { name := "tilePlays", fn := fun _ => fun
  | [d1, d2, d3, d4] => { results := [.lit (.bool true)], args := [d1, d2, d3, d4] }
  | _ => none }
def tilePlaysRow : OpenClaim := { program := "ytcbnifopfdgniaa", sum := "3a665e895dbe37b361a040cb7f503fa507cae30679098603342959b66f633380", func := "scumble/scumblelaw07.TilePlays", spec := "tilePlays", plainKeys := false, apart := false }
def TilePlaysSaid : Prop := tilePlaysRow.holds Try.pinned (OpenSpec.ofChange tilePlaysSpec)

/-- ITS FALSE NEIGHBOUR: 'it returns false'. Refute it at one input. -/
def tilePlaysWrong : ChangeSpec := { name := "tilePlays", fn := fun _ => fun
  | [d1, d2, d3, d4] => { results := [.lit (.bool false)], args := [d1, d2, d3, d4] }
  | _ => none }
def TilePlaysWrongFalsely : Prop := tilePlaysRow.holds Try.pinned (OpenSpec.ofChange tilePlaysWrong)

/- THE SECOND FORM. 'bulk': how many values and letters a reading holds, each counted each time it is reached (what is shared counts as often as it is met; a slice's spare places count too). A statement '..UptoSaid' is the law's where the arguments, and the package variables that the reading takes, are together of bulk at most 1048576: NARROWER than '..Said'. Prove '..Said' where nothing that the law and all that it calls make is longer than what came in: it says more and counts as full. Else prove '..UptoSaid'. A law counts once. -/
mutual
def uptoBulk {H : Type} : DataW H → Nat
  | .lit (.string bytes) => bytes.length + 1
  | .lit _ => 1
  | .nil => 1
  | .ptr d => uptoBulk d + 1
  | .slice elems spare => uptoBulkAll elems + uptoBulkAll spare + 1
  | .agg parts => uptoBulkAll parts + 1
  | .iface _ d => uptoBulk d + 1
  | .map entries => uptoBulkEntries entries + 1
  | .held _ => 1
def uptoBulkAll {H : Type} : List (DataW H) → Nat
  | [] => 0
  | d :: r => uptoBulk d + uptoBulkAll r
def uptoBulkEntries {H : Type} : List (Lit × DataW H) → Nat
  | [] => 0
  | x :: r => uptoBulkEntry x + uptoBulkEntries r
def uptoBulkEntry {H : Type} : Lit × DataW H → Nat
  | (.string bytes, d) => bytes.length + uptoBulk d + 1
  | (_, d) => uptoBulk d + 1
 end
def uptoSmall : (H : Type) → List (DataW H) → Bool := fun _ ds => decide (uptoBulkAll ds ≤ 1048576)
def OpenSpec.upto (s : _root_.Go.ChangeSpec) : _root_.Go.OpenSpec := { _root_.Go.OpenSpec.ofChange s with cond := some uptoSmall }

/-- 'scumblelaw07.TileApart', WHERE WHAT IT READS IS OF BULK AT MOST 1048576: true; the input reads as it did. -/
def tileApartUptoRow : OpenClaim := { program := "ytcbnifopfdgniaa", sum := "3a665e895dbe37b361a040cb7f503fa507cae30679098603342959b66f633380", func := "scumble/scumblelaw07.TileApart", spec := "tileApart", unfollowed := true, recurses := true, plainKeys := false, apart := false, narrowed := true }
def TileApartUptoSaid : Prop := tileApartUptoRow.holds Try.pinned (OpenSpec.upto tileApartSpec)

/-- 'scumblelaw07.TileFrees', WHERE WHAT IT READS IS OF BULK AT MOST 1048576: true; the input reads as it did. -/
def tileFreesUptoRow : OpenClaim := { program := "ytcbnifopfdgniaa", sum := "3a665e895dbe37b361a040cb7f503fa507cae30679098603342959b66f633380", func := "scumble/scumblelaw07.TileFrees", spec := "tileFrees", plainKeys := false, apart := false, narrowed := true }
def TileFreesUptoSaid : Prop := tileFreesUptoRow.holds Try.pinned (OpenSpec.upto tileFreesSpec)

/-- 'scumblelaw07.TileFills', WHERE WHAT IT READS IS OF BULK AT MOST 1048576: true; the input reads as it did. -/
def tileFillsUptoRow : OpenClaim := { program := "ytcbnifopfdgniaa", sum := "3a665e895dbe37b361a040cb7f503fa507cae30679098603342959b66f633380", func := "scumble/scumblelaw07.TileFills", spec := "tileFills", plainKeys := false, apart := false, narrowed := true }
def TileFillsUptoSaid : Prop := tileFillsUptoRow.holds Try.pinned (OpenSpec.upto tileFillsSpec)

/-- 'scumblelaw07.TileShares', WHERE WHAT IT READS IS OF BULK AT MOST 1048576: true; the input reads as it did. -/
def tileSharesUptoRow : OpenClaim := { program := "ytcbnifopfdgniaa", sum := "3a665e895dbe37b361a040cb7f503fa507cae30679098603342959b66f633380", func := "scumble/scumblelaw07.TileShares", spec := "tileShares", plainKeys := false, apart := false, narrowed := true }
def TileSharesUptoSaid : Prop := tileSharesUptoRow.holds Try.pinned (OpenSpec.upto tileSharesSpec)

/-- 'scumblelaw07.TilePlays', WHERE WHAT IT READS IS OF BULK AT MOST 1048576: true; the input reads as it did. -/
def tilePlaysUptoRow : OpenClaim := { program := "ytcbnifopfdgniaa", sum := "3a665e895dbe37b361a040cb7f503fa507cae30679098603342959b66f633380", func := "scumble/scumblelaw07.TilePlays", spec := "tilePlays", plainKeys := false, apart := false, narrowed := true }
def TilePlaysUptoSaid : Prop := tilePlaysUptoRow.holds Try.pinned (OpenSpec.upto tilePlaysSpec)

end Rows
end Go.Proofs.Ytcbnifopfdgniaa
