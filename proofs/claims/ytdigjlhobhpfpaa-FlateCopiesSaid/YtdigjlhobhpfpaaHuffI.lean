/-
  OWN WORK. Codes begin no other ones, plain.
-/
import Derived.Test.YtdigjlhobhpfpaaHuffH
set_option linter.unusedVariables false
set_option linter.unusedSimpArgs false
namespace Go.Proofs
open Go.Sh

/-! ### plain: no code begins another -/

def W (ls : List Int) : Nat → Int
  | 0 => 0
  | n + 1 => W ls n + (rank ls ls.length (n + 1) : Int) * 2 ^ (16 - (n + 1))

theorem rank_all_cons (n : Int) (r : List Int) (k : Nat) : (rank (n :: r) (n :: r).length k : Int) = rank r r.length k + if n = (k : Int) then 1 else 0 := by
  unfold rank
  rw [List.take_length, List.take_length, List.countP_cons]
  by_cases h : n = (k : Int) <;> simp [h]

theorem W_cons (n : Int) (r : List Int) (h0 : 0 ≤ n) : ∀ m : Nat, W (n :: r) m = W r m + if 1 ≤ n ∧ n ≤ (m : Int) then 2 ^ (16 - n.toNat) else 0
  | 0 => by
    simp only [W]
    rw [if_neg (by omega)]; rfl
  | m + 1 => by
    simp only [W]
    rw [W_cons n r h0 m, rank_all_cons, Int.add_mul]
    by_cases hn : n = ((m + 1 : Nat) : Int)
    · rw [if_neg (by omega), if_pos hn, if_pos (by omega)]
      have : n.toNat = m + 1 := by omega
      rw [this]; omega
    · rw [if_neg hn]
      by_cases h : 1 ≤ n ∧ n ≤ (m : Int)
      · rw [if_pos h, if_pos (by omega)]; omega
      · rw [if_neg h, if_neg (by omega)]; omega

theorem W_all {ls : List Int} (h : ∀ n ∈ ls, 0 ≤ n ∧ n ≤ 16) : W ls 16 = wtM ls := by
  induction ls with
  | nil => simp [W, wtM, rank]
  | cons n r ih =>
    have hn := h n List.mem_cons_self
    rw [W_cons n r hn.1, ih fun x hx => h x (List.mem_cons_of_mem _ hx)]
    unfold wtM
    simp only [List.map_cons, List.sum_cons]
    unfold wt
    by_cases hp : n > 0
    · rw [if_pos (by omega), if_pos hp]
      have : (16 - n).toNat = 16 - n.toNat := by omega
      rw [this]; omega
    · rw [if_neg (by omega), if_neg hp]; omega

theorem W_mono (ls : List Int) {m n : Nat} (h : m ≤ n) : W ls m ≤ W ls n := by
  induction n with
  | zero => have : m = 0 := by omega
            subst this; exact Int.le_refl _
  | succ n ih =>
    by_cases hm : m = n + 1
    · subst hm; exact Int.le_refl _
    · have := ih (by omega)
      have h2 : 0 ≤ (rank ls ls.length (n + 1) : Int) * 2 ^ (16 - (n + 1)) := Int.mul_nonneg (by omega) (Int.pow_nonneg (by omega))
      simp only [W]
      omega

theorem base_W (ls : List Int) : ∀ n : Nat, n ≤ 16 → (base ls n + cnt ls n) * 2 ^ (16 - n) = W ls n
  | 0, _ => by simp [base, cnt, W]
  | n + 1, h => by
    have ih := base_W ls n (by omega)
    have hc : cnt ls (n + 1) = rank ls ls.length (n + 1) := by unfold cnt; rw [if_neg (by omega)]
    have e : 16 - n = 16 - (n + 1) + 1 := by omega
    rw [e, Int.pow_succ] at ih
    simp only [W, base]
    rw [hc, Int.add_mul, ← ih]
    generalize (2 : Int) ^ (16 - (n + 1)) = z
    rw [Int.mul_comm z 2, ← Int.mul_assoc, Int.mul_comm (base ls n + (cnt ls n : Int)) 2]

theorem pow_split {n : Nat} (h : n ≤ 16) : (65536 : Int) = 2 ^ n * 2 ^ (16 - n) := by
  rw [← Int.pow_add]
  have : n + (16 - n) = 16 := by omega
  rw [this]; decide

theorem base_cnt_le {ls : List Int} (ok : OkC ls) {n : Nat} (hn : n ≤ 16) : base ls n + cnt ls n ≤ 2 ^ n := by
  have h1 := base_W ls n hn
  have h2 := W_mono ls hn
  rw [W_all ok.w.rng] at h2
  have h3 := ok.le
  have h4 := pow_split hn
  have hp : (0 : Int) < 2 ^ (16 - n) := Int.pow_pos (by omega)
  rw [← h1] at h2
  have : (base ls n + cnt ls n) * 2 ^ (16 - n) ≤ 2 ^ n * 2 ^ (16 - n) := by omega
  exact Int.le_of_mul_le_mul_right this hp

theorem rank_mono (ls : List Int) (n : Nat) {i j : Nat} (h : i ≤ j) : rank ls i n ≤ rank ls j n := by
  unfold rank
  have : (ls.take i) = (ls.take j).take i := by rw [List.take_take]; congr 1; omega
  rw [this]
  exact List.Sublist.countP_le (List.take_sublist _ _)

theorem rank_lt {ls : List Int} {i j n : Nat} (hi : ls[i]? = some (n : Int)) (h : i < j) : rank ls i n < rank ls j n := by
  have h1 := rank_snoc hi n
  rw [if_pos rfl] at h1
  have := rank_mono ls n (show i + 1 ≤ j by omega)
  omega

theorem rank_lt_cnt {ls : List Int} {i n : Nat} (hi : ls[i]? = some (n : Int)) (hn : 0 < n) : rank ls i n < cnt ls n := by
  unfold cnt
  rw [if_neg (by omega)]
  exact rank_lt hi (List.getElem?_eq_some_iff.1 hi).1

theorem codeM_pos {ls : List Int} {i n : Nat} (hi : ls[i]? = some (n : Int)) (hn : 0 < n) : codeM ls i = base ls n + rank ls i n := by
  unfold codeM
  rw [hi]
  simp only
  rw [if_pos (by omega), Int.toNat_natCast]

theorem code_rng {ls : List Int} (ok : OkC ls) {i n : Nat} (hi : ls[i]? = some (n : Int)) (hn : 0 < n) : 0 ≤ codeM ls i ∧ codeM ls i < 2 ^ n := by
  have hr := ok.w.rng _ (List.mem_of_getElem? hi)
  have h1 := base_cnt_le ok (n := n) (by omega)
  have h2 := rank_lt_cnt hi hn
  have h3 := (base_rng ls n).1
  rw [codeM_pos hi hn]
  omega

theorem base_later {ls : List Int} {n : Nat} (hn : 0 < n) : ∀ d : Nat, 0 < d → (base ls n + cnt ls n) * 2 ^ d ≤ base ls (n + d)
  | 0, h => by omega
  | 1, _ => by
    show _ ≤ 2 * (base ls n + cnt ls n)
    simp; omega
  | d + 2, _ => by
    have ih := base_later (ls := ls) hn (d + 1) (by omega)
    have e : n + (d + 2) = n + (d + 1) + 1 := by omega
    rw [e, Int.pow_succ, ← Int.mul_assoc]
    show _ ≤ 2 * (base ls (n + (d + 1)) + cnt ls (n + (d + 1)))
    omega

/-- No code begins another. -/
theorem no_prefix {ls : List Int} (ok : OkC ls) {i j n m : Nat} (hij : i ≠ j) (hi : ls[i]? = some (n : Int)) (hj : ls[j]? = some (m : Int)) (hn : 0 < n) (hnm : n ≤ m) : codeM ls j / 2 ^ (m - n) ≠ codeM ls i := by
  intro he
  have ci := codeM_pos hi hn
  have cj := codeM_pos hj (by omega)
  have ri := rank_lt_cnt hi hn
  by_cases h : m = n
  · subst h
    rw [Nat.sub_self, Int.pow_zero, Int.ediv_one, ci, cj] at he
    rcases Nat.lt_or_ge i j with h | h
    · have := rank_lt hi h; omega
    · have := rank_lt hj (show j < i by omega); omega
  · have hb := base_later (ls := ls) hn (m - n) (by omega)
    have e : n + (m - n) = m := by omega
    rw [e] at hb
    have hp : (0 : Int) < 2 ^ (m - n) := Int.pow_pos (by omega)
    have h1 : base ls n + cnt ls n ≤ codeM ls j / 2 ^ (m - n) := by
      refine (Int.le_ediv_iff_mul_le hp).2 ?_
      rw [cj]; omega
    rw [he, ci] at h1
    omega

theorem codesM_get {ls : List Int} {i : Nat} (hi : i < ls.length) : (codesM ls)[i]? = some (codeM ls i) := by simp [codesM, hi]
theorem codesM_len (ls : List Int) : (codesM ls).length = ls.length := by simp [codesM]

end Go.Proofs
