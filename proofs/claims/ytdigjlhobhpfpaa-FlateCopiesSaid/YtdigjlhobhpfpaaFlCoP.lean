/-
  OWN WORK. A copy with the fixed codes, plain.
-/
import Derived.Test.YtdigjlhobhpfpaaFlG
set_option linter.unusedVariables false
set_option linter.unusedSimpArgs false
namespace Go.Proofs
open Go.Sh

theorem fixL_ok : OkC fixL := ⟨⟨by decide +kernel, by decide +kernel⟩, by decide +kernel⟩
theorem fixD_ok : OkC fixD := ⟨⟨by decide +kernel, by decide +kernel⟩, by decide +kernel⟩
theorem fixL_pos {s : Nat} (h : s < 288) : 0 < fixL.getD s 0 := by
  have : ∀ s : Fin 288, 0 < fixL.getD s.val 0 := by decide +kernel
  exact this ⟨s, h⟩
theorem fixD_pos {s : Nat} (h : s < 32) : 0 < fixD.getD s 0 := by
  have : ∀ s : Fin 32, 0 < fixD.getD s.val 0 := by decide +kernel
  exact this ⟨s, h⟩

theorem syms_lits {B : List Int} {most : Int} {dl : List Int} : ∀ (l : List Nat) (f a : Nat) (out : List Int), (∀ s ∈ l, s < 256) → Has B a (l.flatMap (symBits fixL)) → (out.length : Int) + l.length ≤ most → l.length ≤ f →
    symsM B most fixL dl f a out = symsM B most fixL dl (f - l.length) (a + (l.flatMap (symBits fixL)).length) (out ++ l.map Int.ofNat)
  | [], f, a, out, _, _, _, _ => by simp
  | s :: l, f, a, out, hl, h, hm, hf => by
    obtain ⟨f, rfl⟩ : ∃ g, f = g + 1 := ⟨f - 1, by simp at hf; omega⟩
    rw [List.flatMap_cons] at h
    obtain ⟨h1, h2⟩ := h.app
    have hs := hl s (List.mem_cons_self ..)
    rw [symBits_len] at h2
    have := syms_lits (most := most) (dl := dl) l f (a + (fixL.getD s 0).toNat) (out ++ [(s : Int)]) (fun x hx => hl x (List.mem_cons_of_mem _ hx)) h2 (by rw [List.length_append, List.length_singleton]; rw [List.length_cons] at hm; omega) (by rw [List.length_cons] at hf; omega)
    rw [symsM, symM_has fixL_ok (fixL_pos (by omega)) h1]
    simp only
    rw [if_neg (by omega), if_neg (by omega), if_neg (by rw [List.length_cons] at hm; omega), this]
    simp only [List.length_cons, List.flatMap_cons, List.length_append, symBits_len, List.map_cons, List.append_assoc, List.singleton_append]
    rw [show f + 1 - (l.length + 1) = f - l.length from by omega, Nat.add_assoc]
    rfl

theorem lits_len : ∀ {l : List Nat}, (∀ s ∈ l, s < 256) → l.length ≤ (l.flatMap (symBits fixL)).length
  | [], _ => by simp
  | x :: l, hl => by
    have h1 := fixL_pos (s := x) (by have := hl x (List.mem_cons_self ..); omega)
    have h2 := lits_len fun y hy => hl y (List.mem_cons_of_mem _ hy)
    simp only [List.flatMap_cons, List.length_append, symBits_len, List.length_cons]; omega

/-- What is written. -/
def copW (l : List Nat) (s n t d : Nat) : List Int := bitsOf false 3 3 ++ l.flatMap (symBits fixL) ++ symBits fixL s ++ bitsOf false (n - (lenB s).1 : Int) (lenB s).2 ++ symBits fixD t ++ bitsOf false (d - (dstB t).1 : Int) (dstB t).2 ++ symBits fixL 256

theorem infl_copies {T : TabT} {B : List Int} {l : List Nat} {s n t d : Nat} (hw : WOk false (copW l s n t d) B) (hl : ∀ s ∈ l, s < 256) (hl2 : l.length ≤ 1000) (hs : 257 ≤ s ∧ s ≤ 285) (hn : (lenB s).1 ≤ n ∧ (n : Int) - (lenB s).1 < 2 ^ (lenB s).2) (hn2 : n ≤ 258) (ht : t ≤ 29) (hd : (dstB t).1 ≤ d ∧ (d : Int) - (dstB t).1 < 2 ^ (dstB t).2) :
    (l.length < d → inflM T B 2000 = .error 22) ∧ (d ≤ l.length → ∃ k, inflM T B 2000 = .ok (copyM d n (l.map Int.ofNat), k)) := by
  have hB := hw.len
  have h := Has.of hw
  unfold copW at h hB
  simp only [List.append_assoc] at h
  rw [show bitsOf false 3 3 = bitsOf false 1 1 ++ bitsOf false 1 2 from by decide +kernel, List.append_assoc] at h
  obtain ⟨h1, h⟩ := h.app
  obtain ⟨h2, h⟩ := h.app
  obtain ⟨h3, h⟩ := h.app
  obtain ⟨h4, h⟩ := h.app
  obtain ⟨h5, h⟩ := h.app
  obtain ⟨h6, h⟩ := h.app
  obtain ⟨h7, h8⟩ := h.app
  simp only [bitsOf_len, symBits_len, Nat.zero_add] at h1 h2 h3 h4 h5 h6 h7 h8
  simp only [List.length_append, bitsOf_len, symBits_len] at hB
  have hll := lits_len hl
  have hp1 := fixL_pos (s := s) (by omega)
  have hp2 := fixL_pos (s := 256) (by omega)
  have hp3 := fixD_pos (s := t) (by omega)
  have e1 : (2 : Int) ^ 1 = 2 := by decide
  have e2 : (2 : Int) ^ 2 = 4 := by decide
  have hsym : symbolsM B 2000 fixL fixD 3 [] = if l.length < d then .error 22 else .ok (3 + (l.flatMap (symBits fixL)).length + (fixL.getD s 0).toNat + (lenB s).2 + (fixD.getD t 0).toNat + (dstB t).2 + (fixL.getD 256 0).toNat, copyM d n (l.map Int.ofNat)) := by
    unfold symbolsM
    rw [syms_lits l _ 3 [] hl h3 (by simp; omega) (by omega)]
    obtain ⟨f, hf⟩ : ∃ f, 8 * B.length + 1 - l.length = f + 1 + 1 := ⟨8 * B.length + 1 - l.length - 2, by omega⟩
    rw [hf, symsM, symM_has fixL_ok hp1 h4]
    simp only [List.nil_append]
    rw [if_neg (by omega), if_pos (by omega)]
    unfold copiesM
    rw [if_neg (by omega), getM_has h5 (by omega) hn.2]
    simp only
    rw [symM_has fixD_ok hp3 h6]
    simp only
    rw [if_neg (by omega), getM_has h7 (by omega) hd.2]
    simp only [List.length_map]
    by_cases hdl : l.length < d
    · rw [if_pos hdl, if_pos (by omega)]
    · rw [if_neg hdl, if_neg (by omega), if_neg (by omega)]
      simp only
      rw [symsM, symM_has fixL_ok hp2 h8]
      simp only [if_true]
      rw [show (dstB t).1 + ((d : Int) - (dstB t).1).toNat = d from by omega, show (lenB s).1 + ((n : Int) - (lenB s).1).toNat = n from by omega]
  have hbl : blocksM T B (max 2000 0) (8 * B.length + 1) 0 [] = match symbolsM B 2000 fixL fixD 3 [] with
      | .error e => .error e
      | .ok (at3, out3) => .ok (at3, out3) := by
    rw [show max (2000 : Int) 0 = 2000 from rfl, blocksM, getM_has h1 (by omega) (by omega)]
    simp only
    rw [getM_has h2 (by omega) (by omega)]
    simp only
    rw [if_neg (by decide), if_pos (by decide), show 0 + 1 + 2 = 3 from rfl]
    cases symbolsM B 2000 fixL fixD 3 [] with
    | error e => rfl
    | ok x => simp
  unfold inflM
  rw [hbl, hsym]
  refine ⟨fun hlt => by rw [if_pos hlt], fun hle => ?_⟩
  rw [if_neg (by omega)]
  exact ⟨_, rfl⟩

end Go.Proofs
