/-
  OWN WORK. Blocks of kind 0 are their bytes, plain.
-/
import Derived.Test.YtdigjlhobhpfpaaFlG
import Derived.Test.YtdigjlhobhpfpaaFlC
set_option linter.unusedVariables false
set_option linter.unusedSimpArgs false
namespace Go.Proofs
open Go.Sh

def byteBits (p : List Int) : List Int := p.flatMap (bitsOf false · 8)
theorem byteBits_len (p : List Int) : (byteBits p).length = 8 * p.length := by
  induction p with
  | nil => rfl
  | cons x p ih => simp only [byteBits, List.flatMap_cons, List.length_append, bitsOf_len, List.length_cons] at *; omega
theorem byteBits_snoc (p : List Int) (x : Int) : byteBits (p ++ [x]) = byteBits p ++ bitsOf false x 8 := by simp [byteBits]
theorem bytesM_has {B : List Int} : ∀ {p : List Int} {a : Nat} {out : List Int}, Has B a (byteBits p) → (∀ x ∈ p, 0 ≤ x ∧ x < 256) → bytesM B p.length a out = .ok (a + 8 * p.length, out ++ p)
  | [], a, out, _, _ => by simp [bytesM]
  | x :: p, a, out, h, hr => by
    have hx := hr x (List.mem_cons_self ..)
    unfold byteBits at h
    rw [List.flatMap_cons] at h
    obtain ⟨h1, h2⟩ := h.app
    rw [bitsOf_len] at h2
    rw [List.length_cons, bytesM, getM_has h1 hx.1 (by have : (2 : Int) ^ 8 = 256 := by decide
                                                       omega)]
    simp only
    rw [bytesM_has (p := p) h2 fun y hy => hr y (List.mem_cons_of_mem _ hy)]
    simp only [List.append_assoc, List.singleton_append]
    congr 2; omega

/-- What a part is written as. -/
def partW (ws : List Int) (last v : Int) (p : List Int) : List Int := fillM (ws ++ bitsOf false last 1 ++ bitsOf false 0 2) v ++ bitsOf false p.length 16 ++ bitsOf false (65535 - p.length) 16 ++ byteBits p
def partsW : List (List Int) → Nat → List Int → List Int
  | [], _, ws => ws
  | p :: r, i, ws => partsW r (i + 1) (partW ws (if r = [] then 1 else 0) i p)
theorem partW_len (ws : List Int) (last v : Int) (p : List Int) : (partW ws last v p).length = (ws.length + 10) / 8 * 8 + 32 + 8 * p.length := by
  unfold partW fillM
  simp only [List.length_append, bitsOf_len, byteBits_len, List.length_replicate]
  omega
theorem partsW_pre : ∀ (l : List (List Int)) (i : Nat) (ws : List Int), ∃ t, partsW l i ws = ws ++ t
  | [], i, ws => ⟨[], by simp [partsW]⟩
  | p :: r, i, ws => by
    obtain ⟨t, h⟩ := partsW_pre r (i + 1) (partW ws (if r = [] then 1 else 0) i p)
    exact by
      refine ⟨?_, ?_⟩
      rotate_left
      · rw [partsW, h]; simp only [partW, fillM, List.append_assoc]; rfl

theorem stored_has {B ws p out : List Int} {last v : Int} {most : Nat} (h : Has B 0 (partW ws last v p)) (hp : ∀ x ∈ p, 0 ≤ x ∧ x < 256) (hl : p.length ≤ 65535) (hl01 : last = 0 ∨ last = 1) (hm : out.length + p.length ≤ most) :
    getM B 1 ws.length = .ok (last, ws.length + 1) ∧ getM B 2 (ws.length + 1) = .ok (0, ws.length + 3) ∧ storedM B most (ws.length + 3) out = .ok ((partW ws last v p).length, out ++ p) := by
  rw [partW_len]
  unfold partW fillM at h
  simp only [List.append_assoc] at h
  obtain ⟨_, h⟩ := h.app
  obtain ⟨h1, h⟩ := h.app
  obtain ⟨h2, h⟩ := h.app
  obtain ⟨_, h⟩ := h.app
  obtain ⟨h3, h⟩ := h.app
  obtain ⟨h4, h5⟩ := h.app
  simp only [bitsOf_len, List.length_append, List.length_replicate, Nat.zero_add] at h1 h2 h3 h4 h5
  have e1 : (2 : Int) ^ 1 = 2 := by decide
  have e2 : (2 : Int) ^ 2 = 4 := by decide
  have e16 : (2 : Int) ^ 16 = 65536 := by decide
  refine ⟨getM_has h1 (by omega) (by omega), getM_has h2 (by omega) (by omega), ?_⟩
  have ea : (ws.length + 3 + 7) / 8 * 8 = (ws.length + 10) / 8 * 8 := by omega
  have eb : ws.length + 1 + 2 + (8 - (ws.length + (1 + 2)) % 8) % 8 = (ws.length + 10) / 8 * 8 := by omega
  rw [eb] at h3 h4 h5
  unfold storedM
  rw [ea, getM_has h3 (by omega) (by omega)]
  simp only
  rw [getM_has h4 (by omega) (by omega)]
  simp only
  rw [if_neg (by simp), if_neg (by omega), Int.toNat_natCast, bytesM_has h5 hp]

theorem blocks_has {T : TabT} {B : List Int} {most : Nat} : ∀ (l : List (List Int)) (i : Nat) (ws out : List Int) (f : Nat), l ≠ [] → l.length ≤ f → Has B 0 (partsW l i ws) → (∀ p ∈ l, p.length ≤ 1000 ∧ ∀ x ∈ p, 0 ≤ x ∧ x < 256) → out.length + l.flatten.length ≤ most →
    blocksM T B most f ws.length out = .ok ((partsW l i ws).length, out ++ l.flatten)
  | [], _, _, _, _, h, _, _, _, _ => absurd rfl h
  | p :: r, i, ws, out, f, _, hf, h, hp, hm => by
    obtain ⟨f, rfl⟩ : ∃ g, f = g + 1 := ⟨f - 1, by simp at hf; omega⟩
    rw [partsW] at h ⊢
    obtain ⟨t, ht⟩ := partsW_pre r (i + 1) (partW ws (if r = [] then 1 else 0) i p)
    have h' : Has B 0 (partW ws (if r = [] then 1 else 0) i p) := by
      rw [ht] at h; exact h.app.1
    have hpp := hp p (List.mem_cons_self ..)
    rw [List.flatten_cons, List.length_append] at hm
    obtain ⟨h1, h2, h3⟩ := stored_has h' hpp.2 (by omega) (by split <;> omega) (out := out) (most := most) (by omega)
    unfold blocksM
    rw [h1]; simp only
    rw [h2]; simp only
    simp only [if_true]
    rw [h3]
    simp only
    by_cases hr : r = []
    · subst hr
      simp [partsW]
    · rw [if_neg hr] at *
      rw [if_neg (by decide)]
      have := blocks_has (T := T) (B := B) (most := most) r (i + 1) (partW ws 0 i p) (out ++ p) f hr (by simp at hf; omega) h (fun q hq => hp q (List.mem_cons_of_mem _ hq)) (by rw [List.length_append]; omega)
      rw [this, List.flatten_cons, List.append_assoc]

theorem infl_parts {T : TabT} {B : List Int} {l : List (List Int)} (hl : l ≠ []) (h : WOk false (partsW l 0 []) B) (hp : ∀ p ∈ l, p.length ≤ 1000 ∧ ∀ x ∈ p, 0 ≤ x ∧ x < 256) : inflM T B (l.flatten.length : Nat) = .ok (l.flatten, B.length) := by
  have hlen : ∀ (l : List (List Int)) (i : Nat) (ws : List Int), ws.length + l.length ≤ (partsW l i ws).length := by
    intro l
    induction l with
    | nil => intro i ws; simp [partsW]
    | cons p r ih =>
      intro i ws
      rw [partsW]
      have := ih (i + 1) (partW ws (if r = [] then 1 else 0) i p)
      rw [partW_len] at this
      simp only [List.length_cons]; omega
  have h0 := hlen l 0 []
  have hB := h.len
  simp only [List.length_nil] at h0
  unfold inflM
  rw [show max ((l.flatten.length : Nat) : Int) 0 = (l.flatten.length : Nat) from by omega]
  have := blocks_has (T := T) (B := B) (most := l.flatten.length) l 0 [] [] (8 * B.length + 1) hl (by omega) (Has.of h) hp (by simp)
  rw [List.length_nil] at this
  rw [this]
  simp only [List.nil_append]
  congr 2; omega

end Go.Proofs
