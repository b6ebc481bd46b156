/-
  OWN WORK. A slice of slices of bytes that comes in, opened.
-/
import Derived.Test.YtdigjlhobhpfpaaOpBytes
import Derived.Deep.Slices
set_option linter.unusedVariables false
set_option linter.unusedSimpArgs false
namespace Go.Proofs
open Go.Sh Go.RowKit Go.ChangeShapes Go.WideShapes Go.ChangeAt Go.Deep

/-- A slice of slices of bytes that came in. -/
structure SS (H : Heap) (p : Option Addr) (l : Nat) (ps : List (List Int)) : Prop where
  len : ps.length = l
  get : ∀ (i : Nat) x, ps[i]? = some x → ∃ a q n c, p = some a ∧ Go.Sh.cell H (a.add i) = some (.slice q n c) ∧ IS H q n (kints .u8 x) ∧ ∀ y ∈ x, 0 ≤ y ∧ y < 256

theorem partsIn_of {H : Type} {enc : TypeId × Value → H} {W : World} {v : Value} {d : DataW H} {ps : List MemPlace} {base : Nat} (hv : Value.okWide Try.prog W .any base 41 v) (h : DataW.Trod enc Try.prog W 0 (fun _ => true) true 41 v d ps) :
    ∃ a l c ls, v = .slice a l c ∧ l ≤ c ∧ SS W.heap a l ls := by
  obtain ⟨a0, len, cap, rfl⟩ := okWide_slice Try.underlying41 hv
  obtain ⟨fuel, hf⟩ := h
  rcases open_slice1 Try.underlying41 (by kernel_rfl) hf with ⟨hcs, _⟩ | ⟨a, len', cap', m, n, V, D, Pl, hcs, _, hl, hm, hmm, _, hx⟩
  · simp only [Value.cells] at hcs
    simp at hcs
    obtain ⟨rfl, rfl, rfl⟩ := hcs
    exact ⟨none, 0, 0, [], rfl, Nat.le_refl _, rfl, fun i x hx => by simp at hx⟩
  · simp only [Value.cells] at hcs
    simp at hcs
    obtain ⟨rfl, rfl, rfl⟩ := hcs
    have hml : len ≤ m := by rw [hmm]; simp; omega
    have each : ∀ i, i < len → ∃ x : List Int, ∃ q n c, Go.Sh.cell W.heap (a.add i) = some (.slice q n c) ∧ IS W.heap q n (kints .u8 x) ∧ ∀ y ∈ x, 0 ≤ y ∧ y < 256 := fun i hi => by
      obtain ⟨h1, h2⟩ := hx i (by omega)
      rw [cell_eq] at h1
      have hsl : ∃ q n c, V i = .slice q n c := by
        rcases DataW.trod_slice Try.underlying32 h2 with ⟨h0, _⟩ | ⟨a', len', cap', elems, rest, n', _, h0, _⟩
        · simp at h0; exact ⟨_, _, _, h0⟩
        · simp at h0; exact ⟨_, _, _, h0⟩
      obtain ⟨q, n', c, hV⟩ := hsl
      rw [hV] at h1 h2
      obtain ⟨ls, _, h3, h4⟩ := bytesAt h2
      exact ⟨ls, q, n', c, h1, h3, h4⟩
    obtain ⟨f, hf⟩ : ∃ f : Nat → List Int, ∀ i, i < len → ∃ q n c, Go.Sh.cell W.heap (a.add i) = some (.slice q n c) ∧ IS W.heap q n (kints .u8 (f i)) ∧ ∀ y ∈ f i, 0 ≤ y ∧ y < 256 := by
      have : ∀ i, ∃ x : List Int, i < len → ∃ q n c, Go.Sh.cell W.heap (a.add i) = some (.slice q n c) ∧ IS W.heap q n (kints .u8 x) ∧ ∀ y ∈ x, 0 ≤ y ∧ y < 256 := fun i => by
        by_cases hi : i < len
        · obtain ⟨x, hx⟩ := each i hi; exact ⟨x, fun _ => hx⟩
        · exact ⟨[], fun h => absurd h hi⟩
      exact Classical.axiomOfChoice this
    refine ⟨some a, len, cap, (List.range len).map f, rfl, hl, by simp, fun i x hx => ?_⟩
    have hi : i < len := by have := (List.getElem?_eq_some_iff.1 hx).1; simpa using this
    simp [hi] at hx
    subst hx
    obtain ⟨q, n, c, h1, h2, h3⟩ := hf i hi
    exact ⟨a, q, n, c, rfl, h1, h2, h3⟩

end Go.Proofs
