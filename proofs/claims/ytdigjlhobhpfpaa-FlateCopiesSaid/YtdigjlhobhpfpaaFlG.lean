/-
  OWN WORK. Bits that stand in bytes, plain: numbers and symbols that are read of them.
-/
import Derived.Test.YtdigjlhobhpfpaaFlD
set_option linter.unusedVariables false
set_option linter.unusedSimpArgs false
namespace Go.Proofs
open Go.Sh

/-- Bits that stand in bytes from a place on. -/
def Has (B : List Int) (a : Nat) (ws : List Int) : Prop := a + ws.length ≤ 8 * B.length ∧ ∀ i : Nat, i < ws.length → bitB false B (a + i) = ws.getD i 0
theorem Has.of {ws B : List Int} (h : WOk false ws B) : Has B 0 ws := ⟨by have := h.len; omega, fun i hi => by rw [Nat.zero_add]; exact h.bit i⟩
theorem Has.app {B x y : List Int} {a : Nat} (h : Has B a (x ++ y)) : Has B a x ∧ Has B (a + x.length) y := by
  obtain ⟨h1, h2⟩ := h
  rw [List.length_append] at h1
  refine ⟨⟨by omega, fun i hi => ?_⟩, ⟨by omega, fun i hi => ?_⟩⟩
  · rw [h2 i (by rw [List.length_append]; omega), gD_left _ _ _ _ hi]
  · rw [Nat.add_assoc, h2 (x.length + i) (by rw [List.length_append]; omega), gD_right _ _ _ _ (by omega), Nat.add_sub_cancel_left]

theorem bitsOf_get {hi : Bool} {v : Int} {n k : Nat} (hk : k < n) : (bitsOf hi v n).getD k 0 = v / 2 ^ (if hi then n - 1 - k else k) % 2 := by
  apply gD_get
  simp [bitsOf, hk]

theorem numB_of {B : List Int} {a m : Nat} : ∀ {n : Nat}, (∀ k, k < n → bitB false B (a + k) = (m : Int) / 2 ^ k % 2) → numB false B a n = ((m % 2 ^ n : Nat) : Int)
  | 0, _ => by simp [numB, Nat.mod_one]
  | n + 1, h => by
    rw [numB, numB_of (fun k hk => h k (by omega)), h n (by omega), Nat.pow_succ, Nat.mod_mul, if_neg (by decide), ← pow_cast]
    rw [← Int.natCast_ediv]
    have : ((m / 2 ^ n : Nat) : Int) % 2 = ((m / 2 ^ n % 2 : Nat) : Int) := by omega
    rw [this, ← Int.natCast_mul, Nat.mul_comm]
    omega
theorem getM_has {B : List Int} {a n : Nat} {v : Int} (h : Has B a (bitsOf false v n)) (h0 : 0 ≤ v) (h1 : v < 2 ^ n) : getM B n a = .ok (v, a + n) := by
  obtain ⟨m, rfl⟩ := Int.eq_ofNat_of_zero_le h0
  unfold getM
  have hl := h.1
  rw [bitsOf_len] at hl
  rw [if_pos hl, numB_of (m := m) fun k hk => by
    rw [h.2 k (by rw [bitsOf_len]; exact hk), bitsOf_get hk]; rfl]
  rw [← pow_cast] at h1
  rw [Nat.mod_eq_of_lt (by omega)]

/-- A symbol's bits. -/
def symBits (ls : List Int) (s : Nat) : List Int := bitsOf true (codeM ls s) (ls.getD s 0).toNat
theorem symBits_len (ls : List Int) (s : Nat) : (symBits ls s).length = (ls.getD s 0).toNat := bitsOf_len _ _ _

theorem getM_bit {B : List Int} {a : Nat} {ws : List Int} (h : Has B a ws) {j : Nat} (hj : j < ws.length) (hb : ws.getD j 0 = 0 ∨ ws.getD j 0 = 1) : getM B 1 (a + j) = .ok (ws.getD j 0, a + j + 1) := by
  unfold getM
  have := h.1
  rw [if_pos (by omega), numB, numB, if_neg (by decide), Nat.add_zero, h.2 j hj]
  simp
theorem symG_has {ls B : List Int} (ok : OkC ls) {a s m : Nat} (hs : ls[s]? = some (m : Int)) (h : Has B a (bitsOf true (codeM ls s) m)) : ∀ (d j f : Nat), j + d = m → 0 < d → d ≤ f → symG ls B f j (codeM ls s / 2 ^ (m - j)) (a + j) = .ok (s, a + m)
  | 0, j, f, hj, h0, hf => by omega
  | d + 1, j, f, hj, h0, hf => by
    obtain ⟨f, rfl⟩ : ∃ g, f = g + 1 := ⟨f - 1, by omega⟩
    have hg : (bitsOf true (codeM ls s) m).getD j 0 = codeM ls s / 2 ^ (m - 1 - j) % 2 := by rw [bitsOf_get (by omega), if_pos rfl]
    have hb : getM B 1 (a + j) = .ok (codeM ls s / 2 ^ (m - 1 - j) % 2, a + j + 1) := by
      rw [← hg]
      exact getM_bit h (by rw [bitsOf_len]; omega) (by rw [hg]; omega)
    have hv : 2 * (codeM ls s / 2 ^ (m - j)) + codeM ls s / 2 ^ (m - 1 - j) % 2 = codeM ls s / 2 ^ (m - 1 - j) := by
      have := div_bit (codeM ls s) (m - 1 - j)
      rwa [show m - 1 - j + 1 = m - j from by omega] at this
    unfold symG
    rw [hb]
    simp only
    rw [hv]
    by_cases hd : d = 0
    · subst hd
      have e : m - 1 - j = 0 := by omega
      have hm : j + 1 = m := by omega
      rw [e, Int.pow_zero, Int.ediv_one, hm, findM_eq ok (by omega) hs rfl]
      simp only
      congr 2
      omega
    · have hf' : findM ls (j + 1) (codeM ls s / 2 ^ (m - 1 - j)) = none := by
        cases hf2 : findM ls (j + 1) (codeM ls s / 2 ^ (m - 1 - j)) with
        | none => rfl
        | some t =>
          obtain ⟨h1, h2⟩ := findM_some hf2
          have hts : t ≠ s := fun he => by subst he; rw [hs] at h1; have := Option.some.inj h1; omega
          have := no_prefix ok hts h1 hs (by omega) (by omega)
          rw [show m - (j + 1) = m - 1 - j from by omega] at this
          exact absurd h2.symm this
      have hbg : begM ls (j + 1) (codeM ls s / 2 ^ (m - 1 - j)) = true := begM_mk hs (by omega) (by rw [show m - (j + 1) = m - 1 - j from by omega])
      rw [hf', hbg]
      simp only [if_true]
      have := symG_has ok hs h d (j + 1) f (by omega) (by omega) (by omega)
      rw [show m - (j + 1) = m - 1 - j from by omega] at this
      exact this
theorem symM_has {ls B : List Int} (ok : OkC ls) {a s : Nat} (hs : 0 < ls.getD s 0) (h : Has B a (symBits ls s)) : symM ls B a = .ok (s, a + (ls.getD s 0).toNat) := by
  have hl : s < ls.length := by
    rcases Nat.lt_or_ge s ls.length with h | h
    · exact h
    · rw [gD_none _ _ h] at hs; omega
  have hg := get_gD ls 0 hl
  have hr := ok.w.rng _ (List.mem_of_getElem? hg)
  have hs' : ls[s]? = some ((ls.getD s 0).toNat : Int) := by rw [hg]; congr 1; omega
  have hc := code_rng ok hs' (by omega)
  have := symG_has ok hs' h (ls.getD s 0).toNat 0 17 (by omega) (by omega) (by omega)
  rw [Nat.sub_zero, Int.ediv_eq_zero_of_lt hc.1 hc.2] at this
  exact this

end Go.Proofs
