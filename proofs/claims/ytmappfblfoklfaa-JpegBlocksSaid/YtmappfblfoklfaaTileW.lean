/-
  OWN WORK. From what a call leaves in the heap to what a statement asks of the world.
-/
import Derived.Test.YtmappfblfoklfaaShL
import Derived.ProofKit
set_option linter.unusedSimpArgs false
set_option linter.unusedVariables false
namespace Go.Sh
open Go.RowKit

theorem grown_of {W w' : World} (hos : w'.os = W.os) (ho : Out W w') (hx : Ext W.heap w'.heap) : Grown W w' := by
  refine ⟨⟨hos, ho.output, fun i hi => ?_⟩, ho.froz, hx.size⟩
  obtain ⟨o, h⟩ : ∃ o, W.heap[i]? = some o := ⟨_, Array.getElem?_eq_getElem hi⟩
  rw [hx i o h, h]
  cases o with
  | cells c t fr => exact ⟨rfl, rfl, rfl, fun _ _ => rfl⟩
  | map es k => exact .inr ⟨rfl, rfl⟩
  | _ => rfl

theorem calls_grown {P : Program} {g : FuncId} {args : Array Value} {W : World} {v : Value} (h : CallsH P g args W.heap fun u H' => u = v ∧ Ext W.heap H') :
    Calls P g args W fun e w' => e = .returned v ∧ Grown W w' := by
  refine (h.2 W rfl).mono fun e w' ⟨u, he, h1, h2, h3, h4⟩ => ?_
  exact ⟨by rw [he, h3], grown_of h1 h2 h4⟩

end Go.Sh
