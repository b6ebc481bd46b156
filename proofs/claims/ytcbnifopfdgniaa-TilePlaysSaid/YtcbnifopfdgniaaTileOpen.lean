/-
  OWN WORK. A slice of operations that comes in, opened.
-/
import Derived.Test.YtcbnifopfdgniaaRows
import Derived.Test.YtcbnifopfdgniaaTileStay
import Derived.Test.YtcbnifopfdgniaaTilePl
import Derived.Deep.Slices
set_option linter.unusedVariables false
set_option linter.unusedSimpArgs false
namespace Go.Proofs
open Go.Sh Go.RowKit Go.ChangeShapes Go.WideShapes Go.ChangeAt Go.Deep

theorem opsIn_of {H : Type} {enc : TypeId × Value → H} {W : World} {v : Value} {d : DataW H} {ps : List MemPlace} {base : Nat} (hv : Value.okWide Try.prog W .any base 22 v) (h : DataW.Trod enc Try.prog W 0 (fun _ => true) true 22 v d ps) :
    ∃ a l c, v = .slice a l c ∧ OpsIn W.heap a l := by
  obtain ⟨a0, len, cap, rfl⟩ := okWide_slice Try.underlying22 hv
  refine ⟨a0, len, cap, rfl, ?_⟩
  obtain ⟨fuel, hf⟩ := h
  have hC : Try.prog.cellsOf 31 = 7 := by kernel_rfl
  rcases open_slice Try.underlying22 hf with ⟨hcs, _⟩ | ⟨a, len', cap', m, n, D, Pl, hcs, _, hl, hm, hmm, _, hx⟩
  · simp only [Value.cells] at hcs
    simp at hcs
    obtain ⟨_, rfl, _⟩ := hcs
    intro i hi; omega
  · simp only [Value.cells] at hcs
    simp at hcs
    obtain ⟨rfl, rfl, rfl⟩ := hcs
    intro i hi
    have hmi : i < m := by rw [hmm]; simp; omega
    obtain ⟨cs', h1, h2⟩ := hx i hmi
    rw [hC] at h1
    obtain ⟨_, hlen, hcell⟩ := World.cells?_some h1
    have hop := open_op (u := 3) Try.underlying31 Try.underlying3 (fun i hi => by
      match i, hi with
      | 0, _ => exact ⟨_, rfl, rfl, rfl⟩
      | 1, _ => exact ⟨_, rfl, rfl, rfl⟩
      | 2, _ => exact ⟨_, rfl, rfl, rfl⟩
      | 3, _ => exact ⟨_, rfl, rfl, rfl⟩
      | 4, _ => exact ⟨_, rfl, rfl, rfl⟩
      | 5, _ => exact ⟨_, rfl, rfl, rfl⟩
      | 6, _ => exact ⟨_, rfl, rfl, rfl⟩) rfl (by kernel_rfl) h2
    obtain ⟨kd, nn, x, y, w, h, v, rfl, _, wn, wx, wy, ww, wh, _⟩ := seven_ints hlen hop.2
    refine ⟨a, rfl, ⟨kd, nn, x, y, w, h, v⟩, ⟨wf_range wn, wf_range wx, wf_range wy, wf_range ww, wf_range wh⟩, fun j u hu => ?_⟩
    have hj : j < 7 := by have := (Array.getElem?_eq_some_iff.1 hu).1; simpa [OpV.cells] using this
    have := hcell j hj
    rw [cell_eq] at this
    rw [this]
    simpa [OpV.cells] using hu

end Go.Proofs
