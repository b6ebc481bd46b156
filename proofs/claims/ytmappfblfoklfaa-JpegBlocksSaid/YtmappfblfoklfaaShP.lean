/-
  OWN WORK. The shallow layer, part 14: words that the printed texts use.
-/
import Derived.Test.YtmappfblfoklfaaShC
namespace Go.Sh
/-- A test's two ways. -/
def br (t : Bool) (A B : Prop) : Prop := (t = true → A) ∧ (t = false → B)
/-- A new block. -/
def alc (H : Heap) (o : Obj) (K : Nat → Heap → Prop) : Prop := K H.size (H.push o)
/-- A block written whole. -/
def sto (H : Heap) (r : Nat) (o : Obj) (K : Heap → Prop) : Prop := K (H.setIfInBounds r o)
end Go.Sh
