/-
  OWN WORK. A slice of numbers that comes in, opened.
-/
import Derived.Test.YtmimlpfnhmokeaaRows
import Derived.Test.YtmimlpfnhmokeaaTileStay
import Derived.Test.YtmimlpfnhmokeaaShS
import Derived.ChangeSlices
set_option linter.unusedVariables false
set_option linter.unusedSimpArgs false
namespace Go.Proofs
open Go.Sh Go.RowKit Go.ChangeShapes Go.WideShapes Go.ChangeAt

theorem intsIn_of {H : Type} {enc : TypeId × Value → H} {W : World} {v : Value} {d : DataW H} {ps : List MemPlace} {base : Nat} (hv : Value.okWide Try.prog W .any base 22 v) (h : DataW.Trod enc Try.prog W 0 (fun _ => true) true 22 v d ps) :
    ∃ a l c ls, v = .slice a l c ∧ l ≤ c ∧ IS W.heap a l (ints ls) ∧ ∀ n ∈ ls, -9223372036854775808 ≤ n ∧ n ≤ 9223372036854775807 := by
  obtain ⟨a0, len, cap, rfl⟩ := okWide_slice Try.underlying22 hv
  obtain ⟨fuel, hf⟩ := h
  rcases open_ints Try.underlying22 Try.underlying3 (by kernel_rfl) hf with ⟨hcs, _⟩ | ⟨a, len2, cap2, zs, hcs, _, hl, _, hz, _, hc, hw⟩
  · simp only [Value.cells] at hcs
    simp at hcs
    obtain ⟨rfl, rfl, rfl⟩ := hcs
    exact ⟨none, 0, 0, [], rfl, Nat.le_refl _, ⟨rfl, fun i v hv => by simp [ints] at hv⟩, fun n hn => by simp at hn⟩
  · simp only [Value.cells] at hcs
    simp at hcs
    obtain ⟨rfl, rfl, rfl⟩ := hcs
    have hzl : len ≤ zs.length := by rw [hz]; simp; omega
    refine ⟨some a, len, cap, zs.take len, rfl, hl, ⟨by rw [ints_len]; simp; omega, fun i v hv => ⟨a, rfl, ?_⟩⟩, fun n hn => wf_range (hw n (List.mem_of_mem_take hn))⟩
    have hi : i < len := by have := (List.getElem?_eq_some_iff.1 hv).1; rw [ints_len] at this; simp at this; omega
    have := hc i (by omega)
    rw [cell_eq] at this
    rw [this]
    have hg : (zs.take len)[i]? = some (zs.getD i 0) := by
      rw [List.getElem?_take_of_lt hi, List.getD_eq_getElem?_getD, List.getElem?_eq_getElem (by omega)]; rfl
    rw [ints_get hg] at hv
    exact hv

end Go.Proofs
