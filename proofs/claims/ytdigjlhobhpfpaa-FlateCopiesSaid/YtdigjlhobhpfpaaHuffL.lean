/-
  OWN WORK. HuffWhole and HuffSteps over heaps.
-/
import Derived.Test.YtdigjlhobhpfpaaHuffK
set_option linter.unusedVariables false
set_option linter.unusedSimpArgs false
namespace Go.Proofs
open Go.Sh

theorem rank_ex {ls : List Int} {n r : Nat} : ∀ {S : Nat}, S ≤ ls.length → r < rank ls S n → ∃ s : Nat, s < S ∧ ls[s]? = some (n : Int) ∧ rank ls s n = r
  | 0, _, h => by simp [rank] at h
  | S + 1, hS, h => by
    have hv : ls[S]? = some ls[S] := List.getElem?_eq_getElem (by omega)
    rw [rank_snoc hv] at h
    by_cases hr : r < rank ls S n
    · obtain ⟨s, a, b⟩ := rank_ex (by omega) hr
      exact ⟨s, by omega, b⟩
    · split at h
      · rename_i he
        exact ⟨S, by omega, by rw [hv, he], by omega⟩
      · omega

theorem whole {ls : List Int} (ok : OkC ls) (hw : wtM ls = 65536) {x : Int} (h0 : 0 ≤ x) (h1 : x < 65536) : ∃ s n : Nat, ls[s]? = some (n : Int) ∧ 1 ≤ n ∧ n ≤ 16 ∧ codeM ls s = x / 2 ^ (16 - n) := by
  have hW : W ls 16 = 65536 := by rw [W_all ok.w.rng, hw]
  have find : ∀ m : Nat, m ≤ 16 → x < W ls m → ∃ n, n < m ∧ W ls n ≤ x ∧ x < W ls (n + 1) := by
    intro m
    induction m with
    | zero => intro _ h; simp [W] at h; omega
    | succ m ih =>
      intro hm h
      by_cases hx : x < W ls m
      · obtain ⟨n, a, b⟩ := ih (by omega) hx
        exact ⟨n, by omega, b⟩
      · exact ⟨m, by omega, by omega, h⟩
  obtain ⟨n, hn, w1, w2⟩ := find 16 (Nat.le_refl _) (by omega)
  have b1 := base_W ls n (by omega)
  have b2 := base_W ls (n + 1) (by omega)
  have hp : (0 : Int) < 2 ^ (16 - (n + 1)) := Int.pow_pos (by omega)
  have hb : base ls (n + 1) * 2 ^ (16 - (n + 1)) = W ls n := by
    rw [← b1]
    have e : 16 - n = 16 - (n + 1) + 1 := by omega
    rw [e, Int.pow_succ]
    show 2 * (base ls n + cnt ls n) * 2 ^ (16 - (n + 1)) = _
    generalize (2 : Int) ^ (16 - (n + 1)) = z
    rw [Int.mul_comm z 2, ← Int.mul_assoc, Int.mul_comm (base ls n + (cnt ls n : Int)) 2]
  have y1 : base ls (n + 1) ≤ x / 2 ^ (16 - (n + 1)) := (Int.le_ediv_iff_mul_le hp).2 (by omega)
  have y2 : x / 2 ^ (16 - (n + 1)) < base ls (n + 1) + cnt ls (n + 1) := Int.ediv_lt_of_lt_mul hp (by omega)
  have hc : cnt ls (n + 1) = rank ls ls.length (n + 1) := by unfold cnt; rw [if_neg (by omega)]
  obtain ⟨s, _, hs, hr⟩ := rank_ex (ls := ls) (n := n + 1) (r := (x / 2 ^ (16 - (n + 1)) - base ls (n + 1)).toNat) (S := ls.length) (Nat.le_refl _) (by omega)
  refine ⟨s, n + 1, hs, by omega, by omega, ?_⟩
  rw [codeM_pos hs (by omega), hr]
  omega

section
variable {ls : List Int} {P : List (Nat × Int)} {F : List Int}

theorem stepM_of {L : Nat} (hP : P.length = L) (t : Trie ls (· < ls.length) (· < ls.length) P F) {k : Nat} {y : Nat × Int} (hk : P[k]? = some y) (bit : Int) : ∃ x, F[k * 2 + (bit % 2).toNat]? = some x ∧ stepM F L (k : Int) bit = if x > 0 then (x, -1) else if x < 0 then (0, -1 - x) else (-1, -1) := by
  have hb : (bit % 2).toNat < 2 := by omega
  obtain ⟨x, hx⟩ := t.get hk hb
  have hkl := (List.getElem?_eq_some_iff.1 hk).1
  refine ⟨x, hx, ?_⟩
  unfold stepM
  rw [if_neg (by omega), Int.toNat_natCast, List.getD_eq_getElem?_getD, hx]
  rfl

theorem step_sym {L : Nat} (ok : OkC ls) (hP : P.length = L) (t : Trie ls (· < ls.length) (· < ls.length) P F) {k n s : Nat} {v bit : Int} (hk : P[k]? = some (n, v)) (hs : ls[s]? = some ((n + 1 : Nat) : Int)) (hc : codeM ls s = 2 * v + bit % 2) : stepM F L (k : Int) bit = (0, (s : Int)) := by
  obtain ⟨x, hx, e⟩ := stepM_of hP t hk bit
  have hb : (bit % 2).toNat < 2 := by omega
  have hsl := (List.getElem?_eq_some_iff.1 hs).1
  have := (t.step ok (fun s hs => hs) hk hb hx).1 s hsl hs (by omega)
  rw [e, if_neg (by omega), if_pos (by omega)]
  congr 1; omega

theorem step_on {L : Nat} (ok : OkC ls) (hP : P.length = L) (t : Trie ls (· < ls.length) (· < ls.length) P F) {k n s m : Nat} {v bit : Int} (hk : P[k]? = some (n, v)) (hs : ls[s]? = some (m : Int)) (hm : n + 1 < m) (hc : codeM ls s / 2 ^ (m - (n + 1)) = 2 * v + bit % 2) :
    ∃ j : Nat, 0 < j ∧ stepM F L (k : Int) bit = ((j : Int), -1) ∧ P[j]? = some (n + 1, 2 * v + bit % 2) := by
  obtain ⟨x, hx, e⟩ := stepM_of hP t hk bit
  have hb : (bit % 2).toNat < 2 := by omega
  have hsl := (List.getElem?_eq_some_iff.1 hs).1
  have hbb : 2 * v + ((bit % 2).toNat : Int) = 2 * v + bit % 2 := by omega
  obtain ⟨h0, hp⟩ := (t.step ok (fun s hs => hs) hk hb hx).2 s m hsl hs hm (by rw [hbb]; exact hc)
  rw [hbb] at hp
  refine ⟨x.toNat, by omega, ?_, hp⟩
  rw [e, if_pos h0]
  congr 1; omega

theorem step_off {L : Nat} (hP : P.length = L) (t : Trie ls (· < ls.length) (· < ls.length) P F) {k n : Nat} {v bit : Int} (hk : P[k]? = some (n, v)) (h1 : ∀ s : Nat, ls[s]? = some ((n + 1 : Nat) : Int) → codeM ls s ≠ 2 * v + bit % 2)
    (h2 : ∀ s m : Nat, ls[s]? = some (m : Int) → n + 1 < m → codeM ls s / 2 ^ (m - (n + 1)) ≠ 2 * v + bit % 2) : stepM F L (k : Int) bit = (-1, -1) := by
  obtain ⟨x, hx, e⟩ := stepM_of hP t hk bit
  have hb : (bit % 2).toNat < 2 := by omega
  have hbb : 2 * v + ((bit % 2).toNat : Int) = 2 * v + bit % 2 := by omega
  have n1 : ¬ x > 0 := fun h => by
    have hp := t.up _ _ _ _ _ hk hb hx h
    obtain ⟨s, m, _, a, b, c⟩ := t.beg _ _ _ hp (by omega)
    rw [hbb] at c
    exact h2 s m a b c
  have n2 : ¬ x < 0 := fun h => by
    obtain ⟨s, _, _, a, b⟩ := t.sy _ _ _ _ _ hk hb hx h
    rw [hbb] at b
    exact h1 s a b
  rw [e, if_neg n1, if_neg n2]

theorem Trie.rng2 {L : Nat} (hP : P.length = L) (hL : L ≤ 5000) (hl : ls.length ≤ 300) (t : Trie ls (· < ls.length) (· < ls.length) P F) : ∀ x ∈ F, -1000000 ≤ x ∧ x ≤ 1000000 := fun x hx => by
  have := t.rng x hx; omega

theorem Trie.val (ok : OkC ls) (t : Trie ls (· < ls.length) (· < ls.length) P F) {k n : Nat} {v : Int} (hk : P[k]? = some (n, v)) (hn : 0 < n) : n ≤ 16 ∧ 0 ≤ v ∧ v ≤ 65536 := by
  obtain ⟨s, m, _, a, b, c⟩ := t.beg _ _ _ hk hn
  have hm := ok.w.rng _ (List.mem_of_getElem? a)
  have hr := code_rng ok a (by omega)
  have h2 : (2 : Int) ^ m ≤ 65536 := by
    have h2 : 2 ^ m ≤ 2 ^ 16 := Nat.pow_le_pow_right (by omega) (by omega)
    have h3 : ((2 ^ m : Nat) : Int) = (2 : Int) ^ m := by simp
    have h4 : (2 : Nat) ^ 16 = 65536 := rfl
    omega
  have h5 : 0 ≤ codeM ls s / 2 ^ (m - n) := Int.ediv_nonneg hr.1 (Int.pow_nonneg (by omega))
  have h6 : codeM ls s / 2 ^ (m - n) ≤ codeM ls s := Int.ediv_le_self _ hr.1
  omega

end
theorem div_bit (x : Int) (k : Nat) : 2 * (x / 2 ^ (k + 1)) + x / 2 ^ k % 2 = x / 2 ^ k := by rw [div_two_pow]; omega

end Go.Proofs
