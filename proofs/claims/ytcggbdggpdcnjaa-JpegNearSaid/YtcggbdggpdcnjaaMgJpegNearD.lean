/-
  OWN WORK. Several texts in one: HuffI, HuffJ, HuffK, HuffL, FlD, JpK, JpL, FlG, FlB, FlC, FlH, JpM, ShV, JpN.
-/
import Derived.Test.YtcggbdggpdcnjaaMgJpegNearC

set_option linter.unusedVariables false
set_option linter.unusedSimpArgs false
namespace Go.Proofs
open Go.Sh
def W (ls : List Int) : Nat → Int
 | 0 => 0
 | n + 1 => W ls n + (rank ls ls.length (n + 1) : Int) * 2 ^ (16 - (n + 1))
theorem rank_all_cons (n : Int) (r : List Int) (k : Nat) : (rank (n :: r) (n :: r).length k : Int) = rank r r.length k + if n = (k : Int) then 1 else 0 := by
 unfold rank
 rw [List.take_length, List.take_length, List.countP_cons]
 by_cases h : n = (k : Int) <;> simp [h]
theorem W_cons (n : Int) (r : List Int) (h0 : 0 ≤ n) : ∀ m : Nat, W (n :: r) m = W r m + if 1 ≤ n ∧ n ≤ (m : Int) then 2 ^ (16 - n.toNat) else 0
 | 0 => by
  simp only [W]
  rw [if_neg (by omega)]; rfl
 | m + 1 => by
  simp only [W]
  rw [W_cons n r h0 m, rank_all_cons, Int.add_mul]
  by_cases hn : n = ((m + 1 : Nat) : Int)
  ·rw [if_neg (by omega), if_pos hn, if_pos (by omega)]
   have : n.toNat = m + 1 := by omega
   rw [this]; omega
  ·rw [if_neg hn]
   by_cases h : 1 ≤ n ∧ n ≤ (m : Int)
   ·rw [if_pos h, if_pos (by omega)]; omega
   ·rw [if_neg h, if_neg (by omega)]; omega
theorem W_all {ls : List Int} (h : ∀ n ∈ ls, 0 ≤ n ∧ n ≤ 16) : W ls 16 = wtM ls := by
 induction ls with
 | nil => simp [W, wtM, rank]
 | cons n r ih =>
  have hn := h n List.mem_cons_self
  rw [W_cons n r hn.1, ih fun x hx => h x (List.mem_cons_of_mem _ hx)]
  unfold wtM
  simp only [List.map_cons, List.sum_cons]
  unfold wt
  by_cases hp : n > 0
  ·rw [if_pos (by omega), if_pos hp]
   have : (16 - n).toNat = 16 - n.toNat := by omega
   rw [this]; omega
  ·rw [if_neg (by omega), if_neg hp]; omega
theorem W_mono (ls : List Int) {m n : Nat} (h : m ≤ n) : W ls m ≤ W ls n := by
  induction n with
  | zero => have : m = 0 := by omega
            subst this; exact Int.le_refl _
  | succ n ih =>
    by_cases hm : m = n + 1
    · subst hm; exact Int.le_refl _
    · have := ih (by omega)
      have h2 : 0 ≤ (rank ls ls.length (n + 1) : Int) * 2 ^ (16 - (n + 1)) := Int.mul_nonneg (by omega) (Int.pow_nonneg (by omega))
      simp only [W]
      omega
theorem base_W (ls : List Int) : ∀ n : Nat, n ≤ 16 → (base ls n + cnt ls n) * 2 ^ (16 - n) = W ls n
 | 0, _ => by simp [base, cnt, W]
 | n + 1, h => by
  have ih := base_W ls n (by omega)
  have hc : cnt ls (n + 1) = rank ls ls.length (n + 1) := by unfold cnt; rw [if_neg (by omega)]
  have e : 16 - n = 16 - (n + 1) + 1 := by omega
  rw [e, Int.pow_succ] at ih
  simp only [W, base]
  rw [hc, Int.add_mul, ← ih]
  generalize (2 : Int) ^ (16 - (n + 1)) = z
  rw [Int.mul_comm z 2, ← Int.mul_assoc, Int.mul_comm (base ls n + (cnt ls n : Int)) 2]
theorem pow_split {n : Nat} (h : n ≤ 16) : (65536 : Int) = 2 ^ n * 2 ^ (16 - n) := by
 rw [← Int.pow_add]
 have : n + (16 - n) = 16 := by omega
 rw [this]; decide
theorem base_cnt_le {ls : List Int} (ok : OkC ls) {n : Nat} (hn : n ≤ 16) : base ls n + cnt ls n ≤ 2 ^ n := by
 have h1 := base_W ls n hn
 have h2 := W_mono ls hn
 rw [W_all ok.w.rng] at h2
 have h3 := ok.le
 have h4 := pow_split hn
 have hp : (0 : Int) < 2 ^ (16 - n) := Int.pow_pos (by omega)
 rw [← h1] at h2
 have : (base ls n + cnt ls n) * 2 ^ (16 - n) ≤ 2 ^ n * 2 ^ (16 - n) := by omega
 exact Int.le_of_mul_le_mul_right this hp
theorem rank_mono (ls : List Int) (n : Nat) {i j : Nat} (h : i ≤ j) : rank ls i n ≤ rank ls j n := by
 unfold rank
 have : (ls.take i) = (ls.take j).take i := by rw [List.take_take]; congr 1; omega
 rw [this]
 exact List.Sublist.countP_le (List.take_sublist _ _)
theorem rank_lt {ls : List Int} {i j n : Nat} (hi : ls[i]? = some (n : Int)) (h : i < j) : rank ls i n < rank ls j n := by
 have h1 := rank_snoc hi n
 rw [if_pos rfl] at h1
 have := rank_mono ls n (show i + 1 ≤ j by omega)
 omega
theorem rank_lt_cnt {ls : List Int} {i n : Nat} (hi : ls[i]? = some (n : Int)) (hn : 0 < n) : rank ls i n < cnt ls n := by
 unfold cnt
 rw [if_neg (by omega)]
 exact rank_lt hi (List.getElem?_eq_some_iff.1 hi).1
theorem codeM_pos {ls : List Int} {i n : Nat} (hi : ls[i]? = some (n : Int)) (hn : 0 < n) : codeM ls i = base ls n + rank ls i n := by
 unfold codeM
 rw [hi]
 simp only
 rw [if_pos (by omega), Int.toNat_natCast]
theorem code_rng {ls : List Int} (ok : OkC ls) {i n : Nat} (hi : ls[i]? = some (n : Int)) (hn : 0 < n) : 0 ≤ codeM ls i ∧ codeM ls i < 2 ^ n := by
 have hr := ok.w.rng _ (List.mem_of_getElem? hi)
 have h1 := base_cnt_le ok (n := n) (by omega)
 have h2 := rank_lt_cnt hi hn
 have h3 := (base_rng ls n).1
 rw [codeM_pos hi hn]
 omega
theorem base_later {ls : List Int} {n : Nat} (hn : 0 < n) : ∀ d : Nat, 0 < d → (base ls n + cnt ls n) * 2 ^ d ≤ base ls (n + d)
 | 0, h => by omega
 | 1, _ => by
  show _ ≤ 2 * (base ls n + cnt ls n)
  simp; omega
 | d + 2, _ => by
  have ih := base_later (ls := ls) hn (d + 1) (by omega)
  have e : n + (d + 2) = n + (d + 1) + 1 := by omega
  rw [e, Int.pow_succ, ← Int.mul_assoc]
  show _ ≤ 2 * (base ls (n + (d + 1)) + cnt ls (n + (d + 1)))
  omega
theorem no_prefix {ls : List Int} (ok : OkC ls) {i j n m : Nat} (hij : i ≠ j) (hi : ls[i]? = some (n : Int)) (hj : ls[j]? = some (m : Int)) (hn : 0 < n) (hnm : n ≤ m) : codeM ls j / 2 ^ (m - n) ≠ codeM ls i := by
 intro he
 have ci := codeM_pos hi hn
 have cj := codeM_pos hj (by omega)
 have ri := rank_lt_cnt hi hn
 by_cases h : m = n
 ·subst h
  rw [Nat.sub_self, Int.pow_zero, Int.ediv_one, ci, cj] at he
  rcases Nat.lt_or_ge i j with h | h
  ·have := rank_lt hi h; omega
  ·have := rank_lt hj (show j < i by omega); omega
 ·have hb := base_later (ls := ls) hn (m - n) (by omega)
  have e : n + (m - n) = m := by omega
  rw [e] at hb
  have hp : (0 : Int) < 2 ^ (m - n) := Int.pow_pos (by omega)
  have h1 : base ls n + cnt ls n ≤ codeM ls j / 2 ^ (m - n) := by
   refine (Int.le_ediv_iff_mul_le hp).2 ?_
   rw [cj]; omega
  rw [he, ci] at h1
  omega
theorem codesM_get {ls : List Int} {i : Nat} (hi : i < ls.length) : (codesM ls)[i]? = some (codeM ls i) := by simp [codesM, hi]
end Go.Proofs
namespace Go.Proofs
open Go.Sh
theorem andI_one (a : Int) : andI .i64 a (1 : Int) = a % 2 := by
 unfold andI
 have hb : IntKind.bits .i64 = 64 := rfl
 rw [hb, BitVec.toNat_and, BitVec.toNat_ofInt, BitVec.toNat_ofInt]
 have h1 : ((1 : Int) % ((2 ^ 64 : Nat) : Int)).toNat = 1 := by decide
 rw [h1, Nat.and_one_is_mod]
 have h2 : (((a % ((2 ^ 64 : Nat) : Int)).toNat % 2 : Nat) : Int) = a % 2 := by
  have e : ((2 ^ 64 : Nat) : Int) = 18446744073709551616 := by decide
  rw [e]; omega
 rw [h2]
 exact wrap_id (by omega) (by omega)
structure Trie (ls : List Int) (Ins Beg : Nat → Prop) (P : List (Nat × Int)) (F : List Int) : Prop where
 len : F.length = P.length * 2
 root : P[0]? = some (0, 0)
 inj : ∀ (i j : Nat) (x : Nat × Int), P[i]? = some x → P[j]? = some x → i = j
 up : ∀ (k n : Nat) (v : Int) (b : Nat) (x : Int), P[k]? = some (n, v) → b < 2 → F[k * 2 + b]? = some x → 0 < x → P[x.toNat]? = some (n + 1, 2 * v + b)
 sy : ∀ (k n : Nat) (v : Int) (b : Nat) (x : Int), P[k]? = some (n, v) → b < 2 → F[k * 2 + b]? = some x → x < 0 → ∃ s : Nat, Ins s ∧ x = -1 - (s : Int) ∧ ls[s]? = some ((n + 1 : Nat) : Int) ∧ codeM ls s = 2 * v + b
 no : ∀ (k n : Nat) (v : Int) (b : Nat), P[k]? = some (n, v) → b < 2 → F[k * 2 + b]? = some 0 → (∀ j : Nat, P[j]? ≠ some (n + 1, 2 * v + b)) ∧ ∀ s : Nat, Ins s → ls[s]? = some ((n + 1 : Nat) : Int) → codeM ls s ≠ 2 * v + b
 par : ∀ (k n : Nat) (v : Int), P[k]? = some (n + 1, v) → ∃ j : Nat, P[j]? = some (n, v / 2)
 ins : ∀ (s n : Nat), Ins s → ls[s]? = some (n : Int) → 0 < n → ∀ j, j < n → ∃ k : Nat, P[k]? = some (j, codeM ls s / 2 ^ (n - j))
 beg : ∀ (k n : Nat) (v : Int), P[k]? = some (n, v) → 0 < n → ∃ s m : Nat, Beg s ∧ ls[s]? = some (m : Int) ∧ n < m ∧ codeM ls s / 2 ^ (m - n) = v
section
variable {ls : List Int} {Ins Beg : Nat → Prop} {P : List (Nat × Int)} {F : List Int}
theorem Trie.get (t : Trie ls Ins Beg P F) {k : Nat} {y : Nat × Int} (h : P[k]? = some y) {b : Nat} (hb : b < 2) : ∃ x, F[k * 2 + b]? = some x := by
 have := (List.getElem?_eq_some_iff.1 h).1
 have := t.len
 exact ⟨_, List.getElem?_eq_getElem (by omega)⟩
theorem half_bit (v : Int) (b : Nat) (hb : b < 2) : (2 * v + b) / 2 = v ∧ (2 * v + b) % 2 = b := by omega
theorem div_two_pow (c : Int) (d : Nat) : c / 2 ^ (d + 1) = c / 2 ^ d / 2 := by
 rw [Int.pow_succ, Int.ediv_ediv_of_nonneg (Int.pow_nonneg (by omega))]
theorem Trie.step (t : Trie ls Ins Beg P F) (ok : OkC ls) (hb : ∀ s, Beg s → s < ls.length) {k n : Nat} {v x : Int} {b : Nat} (hk : P[k]? = some (n, v)) (hb2 : b < 2) (hx : F[k * 2 + b]? = some x) :
    (∀ s : Nat, Ins s → ls[s]? = some ((n + 1 : Nat) : Int) → codeM ls s = 2 * v + b → x = -1 - (s : Int)) ∧
    (∀ s m : Nat, Ins s → ls[s]? = some (m : Int) → n + 1 < m → codeM ls s / 2 ^ (m - (n + 1)) = 2 * v + b → 0 < x ∧ P[x.toNat]? = some (n + 1, 2 * v + b)) := by
  have noBeg : ∀ (s m s' : Nat), ls[s]? = some (m : Int) → 0 < m → s ≠ s' → ∀ m' : Nat, ls[s']? = some (m' : Int) → m ≤ m' → codeM ls s' / 2 ^ (m' - m) ≠ codeM ls s := fun s m s' h1 h2 h3 m' h4 h5 => no_prefix ok h3 h1 h4 h2 h5
  refine ⟨fun s hs hl hc => ?_, fun s m hs hl hm hc => ?_⟩
  · rcases Int.lt_trichotomy x 0 with h | h | h
    · obtain ⟨s', i', e, l', c'⟩ := t.sy k n v b x hk hb2 hx h
      by_cases hss : s = s'
      · rw [hss]; exact e
      · have := noBeg s (n + 1) s' hl (by omega) hss (n + 1) l' (Nat.le_refl _)
        rw [Nat.sub_self, Int.pow_zero, Int.ediv_one, hc, c'] at this
        exact absurd rfl this
    · subst h
      exact absurd hc ((t.no k n v b hk hb2 hx).2 s hs hl)
    · have hp := t.up k n v b x hk hb2 hx h
      obtain ⟨s', m', _, l', hm', c'⟩ := t.beg _ _ _ hp (by omega)
      have hss : s ≠ s' := fun hh => by subst hh; rw [hl] at l'; have := Option.some.inj l'; omega
      have := noBeg s (n + 1) s' hl (by omega) hss m' l' (by omega)
      rw [c', hc] at this
      exact absurd rfl this
  · obtain ⟨k', hk'⟩ := t.ins s m hs hl (by omega) (n + 1) hm
    rw [hc] at hk'
    rcases Int.lt_trichotomy x 0 with h | h | h
    · obtain ⟨s', i', e, l', c'⟩ := t.sy k n v b x hk hb2 hx h
      have hss : s' ≠ s := fun hh => by subst hh; rw [hl] at l'; have := Option.some.inj l'; omega
      have := noBeg s' (n + 1) s l' (by omega) hss m hl (by omega)
      rw [hc, c'] at this
      exact absurd rfl this
    · subst h
      exact absurd hk' ((t.no k n v b hk hb2 hx).1 k')
    · exact ⟨h, t.up k n v b x hk hb2 hx h⟩
theorem Trie.leaf (t : Trie ls Ins Beg P F) (ok : OkC ls) {s n : Nat} (hl : ls[s]? = some ((n + 1 : Nat) : Int)) (hs : Beg s) (hns : ¬ Ins s) {k : Nat} (hk : P[k]? = some (n, codeM ls s / 2)) (hib : ∀ i, Ins i → Beg i)
    (path : ∀ j, j ≤ n → ∃ k : Nat, P[k]? = some (j, codeM ls s / 2 ^ (n + 1 - j))) :
    Trie ls (fun i => Ins i ∨ i = s) Beg P (F.set (k * 2 + (codeM ls s % 2).toNat) (-1 - (s : Int))) := by
  have hb2 : (codeM ls s % 2).toNat < 2 := by omega
  have hcode : 2 * (codeM ls s / 2) + ((codeM ls s % 2).toNat : Int) = codeM ls s := by omega
  obtain ⟨x, hx⟩ := t.get hk hb2
  have hx0 : x = 0 := by
    rcases Int.lt_trichotomy x 0 with h | h | h
    · obtain ⟨s', i', e, l', c'⟩ := t.sy _ _ _ _ _ hk hb2 hx h
      rw [hcode] at c'
      have hss : s ≠ s' := fun hh => by subst hh; exact hns i'
      have := no_prefix ok hss hl l' (by omega) (Nat.le_refl _)
      rw [Nat.sub_self, Int.pow_zero, Int.ediv_one, c'] at this
      exact absurd rfl this
    · exact h
    · have hp := t.up _ _ _ _ _ hk hb2 hx h
      rw [hcode] at hp
      obtain ⟨s', m', _, l', hm', c'⟩ := t.beg _ _ _ hp (by omega)
      have hss : s ≠ s' := fun hh => by subst hh; rw [hl] at l'; have := Option.some.inj l'; omega
      exact absurd c' (no_prefix ok hss hl l' (by omega) (by omega))
  subst hx0
  have hkl := (List.getElem?_eq_some_iff.1 hx).1
  have get : ∀ (k' b : Nat) (y : Int), b < 2 → (F.set (k * 2 + (codeM ls s % 2).toNat) (-1 - (s : Int)))[k' * 2 + b]? = some y → (k' = k ∧ b = (codeM ls s % 2).toNat ∧ y = -1 - (s : Int)) ∨ (¬ (k' = k ∧ b = (codeM ls s % 2).toNat) ∧ F[k' * 2 + b]? = some y) := fun k' b y hb hy => by
    rw [List.getElem?_set] at hy
    split at hy
    · rename_i he
      left
      first
        | (cases hy; exact ⟨by omega, by omega, rfl⟩)
        | (split at hy
           · cases hy; exact ⟨by omega, by omega, rfl⟩
           · cases hy)
    · rename_i he
      exact .inr ⟨fun hh => he (by rw [hh.1, hh.2]), hy⟩
  refine ⟨by rw [List.length_set]; exact t.len, t.root, t.inj, fun k' n' v b y h1 h2 h3 h4 => ?_, fun k' n' v b y h1 h2 h3 h4 => ?_, fun k' n' v b h1 h2 h3 => ?_, t.par, fun i m h1 h2 h3 j hj => ?_, t.beg⟩
  · rcases get k' b y h2 h3 with ⟨_, _, rfl⟩ | ⟨_, h⟩
    · omega
    · exact t.up k' n' v b y h1 h2 h h4
  · rcases get k' b y h2 h3 with ⟨rfl, rfl, rfl⟩ | ⟨_, h⟩
    · rw [hk] at h1; cases h1
      exact ⟨s, .inr rfl, rfl, hl, hcode.symm⟩
    · obtain ⟨s', a, b', c⟩ := t.sy k' n' v b y h1 h2 h h4
      exact ⟨s', .inl a, b', c⟩
  · rcases get k' b 0 h2 h3 with ⟨rfl, rfl, h⟩ | ⟨hne, h⟩
    · omega
    · obtain ⟨a, c⟩ := t.no k' n' v b h1 h2 h
      refine ⟨a, fun i hi hli hci => ?_⟩
      rcases hi with hi | rfl
      · exact c i hi hli hci
      · rw [hl] at hli
        have hnn : n = n' := by have := Option.some.inj hli; omega
        subst hnn
        have hv : codeM ls i / 2 = v := by rw [hci]; exact (half_bit v b h2).1
        rw [hv] at hk
        have := t.inj _ _ _ hk h1
        subst this
        refine hne ⟨rfl, ?_⟩
        rw [hci, (half_bit v b h2).2]; omega
  · rcases h1 with h1 | rfl
    · exact t.ins i m h1 h2 h3 j hj
    · rw [hl] at h2
      have hm : n + 1 = m := by have := Option.some.inj h2; omega
      subst hm
      exact path j (by omega)
theorem Trie.node (t : Trie ls Ins Beg P F) (ok : OkC ls) {s m n : Nat} {v : Int} {b : Nat} (hl : ls[s]? = some (m : Int)) (hs : Beg s) (hk0 : n + 1 < m) {k : Nat} (hk : P[k]? = some (n, v)) (hb2 : b < 2) (hcode : codeM ls s / 2 ^ (m - (n + 1)) = 2 * v + b)
    (hx : F[k * 2 + b]? = some 0) : Trie ls Ins Beg (P ++ [(n + 1, 2 * v + b)]) ((F ++ [0, 0]).set (k * 2 + b) P.length) := by
  have hF := t.len
  have hkl := (List.getElem?_eq_some_iff.1 hk).1
  obtain ⟨hno1, hno2⟩ := t.no k n v b hk hb2 hx
  have pg : ∀ (i : Nat) y, (P ++ [(n + 1, 2 * v + b)])[i]? = some y → (P[i]? = some y) ∨ (i = P.length ∧ y = (n + 1, 2 * v + b)) := fun i y hy => by
    by_cases hi : i < P.length
    · rw [List.getElem?_append_left hi] at hy; exact .inl hy
    · rw [List.getElem?_append_right (by omega)] at hy
      have hlt := (List.getElem?_eq_some_iff.1 hy).1
      have : i - P.length = 0 := by simpa using hlt
      rw [this] at hy
      simp at hy
      exact .inr ⟨by omega, hy.symm⟩
  have pk : ∀ {i : Nat} {y : Nat × Int}, P[i]? = some y → (P ++ [(n + 1, 2 * v + b)])[i]? = some y := fun {i y} hy => by
    rw [List.getElem?_append_left (List.getElem?_eq_some_iff.1 hy).1]; exact hy
  have pnew : (P ++ [(n + 1, 2 * v + b)])[P.length]? = some (n + 1, 2 * v + b) := by simp
  have get : ∀ (k' b' : Nat) (y : Int), b' < 2 → ((F ++ [0, 0]).set (k * 2 + b) (P.length : Int))[k' * 2 + b']? = some y → (k' = k ∧ b' = b ∧ y = P.length) ∨ (k' = P.length ∧ y = 0) ∨ (¬ (k' = k ∧ b' = b) ∧ F[k' * 2 + b']? = some y) := fun k' b' y hb hy => by
    rw [List.getElem?_set] at hy
    split at hy
    · rename_i he
      left
      first
        | (cases hy; exact ⟨by omega, by omega, rfl⟩)
        | (split at hy
           · cases hy; exact ⟨by omega, by omega, rfl⟩
           · cases hy)
    · rename_i he
      by_cases hlt : k' * 2 + b' < F.length
      · rw [List.getElem?_append_left hlt] at hy
        exact .inr (.inr ⟨fun hh => he (by rw [hh.1, hh.2]), hy⟩)
      · rw [List.getElem?_append_right (by omega)] at hy
        have hlt2 := (List.getElem?_eq_some_iff.1 hy).1
        simp at hlt2
        refine .inr (.inl ⟨by omega, ?_⟩)
        have : k' * 2 + b' - F.length = 0 ∨ k' * 2 + b' - F.length = 1 := by omega
        rcases this with h | h <;> (rw [h] at hy; simp at hy; exact hy.symm)
  -- nothing is below the new node yet
  have below : ∀ (w : Int) (b' : Nat), b' < 2 → w = 2 * v + b → ∀ j : Nat, P[j]? ≠ some (n + 1 + 1, 2 * w + b') := fun w b' hb' hw j hj => by
    obtain ⟨j', hj'⟩ := t.par j (n + 1) _ hj
    rw [(half_bit w b' hb').1, hw] at hj'
    exact hno1 j' hj'
  refine ⟨by simp; omega, pk t.root, fun i j y h1 h2 => ?_, fun k' n' v' b' y h1 h2 h3 h4 => ?_, fun k' n' v' b' y h1 h2 h3 h4 => ?_, fun k' n' v' b' h1 h2 h3 => ?_, fun k' n' v' h1 => ?_, fun i m' h1 h2 h3 j hj => ?_, fun k' n' v' h1 h2 => ?_⟩
  · rcases pg i y h1 with h1 | ⟨e1, y1⟩
    · rcases pg j y h2 with h2 | ⟨e2, y2⟩
      · exact t.inj i j y h1 h2
      · rw [y2] at h1; exact absurd h1 (hno1 i)
    · rcases pg j y h2 with h2 | ⟨e2, y2⟩
      · rw [y1] at h2; exact absurd h2 (hno1 j)
      · omega
  · rcases get k' b' y h2 h3 with ⟨rfl, rfl, rfl⟩ | ⟨rfl, rfl⟩ | ⟨_, h⟩
    · rw [pk hk] at h1; cases h1
      rw [Int.toNat_natCast]; exact pnew
    · omega
    · rcases pg k' _ h1 with h1 | ⟨e, _⟩
      · exact pk (t.up k' n' v' b' y h1 h2 h h4)
      · have := (List.getElem?_eq_some_iff.1 h).1; omega
  · rcases get k' b' y h2 h3 with ⟨rfl, rfl, rfl⟩ | ⟨rfl, rfl⟩ | ⟨_, h⟩
    · omega
    · omega
    · rcases pg k' _ h1 with h1 | ⟨e, _⟩
      · exact t.sy k' n' v' b' y h1 h2 h h4
      · have := (List.getElem?_eq_some_iff.1 h).1; omega
  · rcases get k' b' 0 h2 h3 with ⟨rfl, rfl, h⟩ | ⟨rfl, _⟩ | ⟨hne, h⟩
    · omega
    · rw [pnew] at h1; cases h1
      refine ⟨fun j hj => ?_, fun i hi hli hci => ?_⟩
      · rcases pg j _ hj with hj | ⟨_, he⟩
        · exact below _ b' h2 rfl j hj
        · cases he
      · obtain ⟨k2, hk2⟩ := t.ins i (n + 1 + 1) hi hli (by omega) (n + 1) (by omega)
        have e : n + 1 + 1 - (n + 1) = 1 := by omega
        rw [e, Int.pow_one, hci, (half_bit _ b' h2).1] at hk2
        exact hno1 k2 hk2
    · rcases pg k' _ h1 with h1 | ⟨e, _⟩
      · obtain ⟨a, c⟩ := t.no k' n' v' b' h1 h2 h
        refine ⟨fun j hj => ?_, c⟩
        rcases pg j _ hj with hj | ⟨_, he⟩
        · exact a j hj
        · rw [Prod.mk.injEq] at he
          have hv : v' = v ∧ b' = b := by omega
          have hn : n' = n := by omega
          rw [hn, hv.1] at h1
          exact hne ⟨t.inj _ _ _ h1 hk, hv.2⟩
      · have := (List.getElem?_eq_some_iff.1 h).1; omega
  · rcases pg k' _ h1 with h1 | ⟨_, he⟩
    · obtain ⟨j, hj⟩ := t.par k' n' v' h1; exact ⟨j, pk hj⟩
    · rw [Prod.mk.injEq] at he
      refine ⟨k, ?_⟩
      rw [he.2, (half_bit v b hb2).1]
      have : n' = n := by omega
      rw [this]; exact pk hk
  · obtain ⟨k', hk'⟩ := t.ins i m' h1 h2 h3 j hj
    exact ⟨k', pk hk'⟩
  · rcases pg k' _ h1 with h1 | ⟨_, he⟩
    · exact t.beg k' n' v' h1 h2
    · rw [Prod.mk.injEq] at he
      exact ⟨s, m, hs, hl, by omega, by rw [he.1, he.2]; exact hcode⟩
theorem Trie.first (ls : List Int) (Beg : Nat → Prop) : Trie ls (fun _ => False) Beg [(0, 0)] [0, 0] := by
 have one : ∀ {k : Nat} {y : Nat × Int}, [((0 : Nat), (0 : Int))][k]? = some y → k = 0 ∧ y = (0, 0) := fun {k y} h => by
  cases k with
  | zero => simp at h; exact ⟨rfl, h.symm⟩
  | succ k => simp at h
 have zz : ∀ {k b : Nat} {y : Int}, k = 0 → b < 2 → ([0, 0] : List Int)[k * 2 + b]? = some y → y = 0 := fun {k b y} hk hb h => by
  subst hk
  have : b = 0 ∨ b = 1 := by omega
  rcases this with rfl | rfl <;> (simp at h; exact h.symm)
 refine ⟨rfl, rfl, fun i j x h1 h2 => by rw [(one h1).1, (one h2).1], fun k n v b x h1 h2 h3 h4 => ?_, fun k n v b x h1 h2 h3 h4 => ?_, fun k n v b h1 h2 h3 => ⟨fun j hj => ?_, fun s hs => hs.elim⟩, fun k n v h1 => ?_, fun s n hs => hs.elim, fun k n v h1 h2 => ?_⟩
 ·have := zz (one h1).1 h2 h3; omega
 ·have := zz (one h1).1 h2 h3; omega
 ·have := (one hj).2; simp at this
 ·have := (one h1).2; simp at this
 ·have := (one h1).2; rw [Prod.mk.injEq] at this; omega
theorem Trie.mono {Ins' Beg' : Nat → Prop} (t : Trie ls Ins Beg P F) (h1 : ∀ s, Ins s ↔ Ins' s) (h2 : ∀ s, Beg s → Beg' s) : Trie ls Ins' Beg' P F := by
 refine ⟨t.len, t.root, t.inj, t.up, fun k n v b x a1 a2 a3 a4 => ?_, fun k n v b a1 a2 a3 => ?_, t.par, fun s n a1 => t.ins s n ((h1 s).2 a1), fun k n v a1 a2 => ?_⟩
 ·obtain ⟨s, a, b'⟩ := t.sy k n v b x a1 a2 a3 a4; exact ⟨s, (h1 s).1 a, b'⟩
 ·obtain ⟨a, b'⟩ := t.no k n v b a1 a2 a3; exact ⟨a, fun s hs => b' s ((h1 s).2 hs)⟩
 ·obtain ⟨s, m, a, b'⟩ := t.beg k n v a1 a2; exact ⟨s, m, h2 s a, b'⟩
end
end Go.Proofs
namespace Go.Proofs
open Go.Sh
theorem Trie.mono2 {ls : List Int} {Ins Beg Ins' Beg' : Nat → Prop} {P : List (Nat × Int)} {F : List Int} (t : Trie ls Ins Beg P F) (h1 : ∀ s, Ins s → Ins' s) (h1' : ∀ s n : Nat, Ins' s → ls[s]? = some (n : Int) → 0 < n → Ins s) (h2 : ∀ s, Beg s → Beg' s) : Trie ls Ins' Beg' P F := by
 refine ⟨t.len, t.root, t.inj, t.up, fun k n v b x a1 a2 a3 a4 => ?_, fun k n v b a1 a2 a3 => ?_, t.par, fun s n a1 a2 a3 => t.ins s n (h1' s n a1 a2 a3) a2 a3, fun k n v a1 a2 => ?_⟩
 ·obtain ⟨s, a, b'⟩ := t.sy k n v b x a1 a2 a3 a4; exact ⟨s, h1 s a, b'⟩
 ·obtain ⟨a, b'⟩ := t.no k n v b a1 a2 a3; exact ⟨a, fun s hs hl => b' s (h1' s _ hs hl (by omega)) hl⟩
 ·obtain ⟨s, m, a, b'⟩ := t.beg k n v a1 a2; exact ⟨s, m, h2 s a, b'⟩
theorem Trie.rng {ls : List Int} {Beg : Nat → Prop} {P : List (Nat × Int)} {F : List Int} {S : Nat} (t : Trie ls (· < S) Beg P F) : ∀ x ∈ F, -(S : Int) ≤ x ∧ x < P.length := fun x hx => by
 obtain ⟨i, hi⟩ := List.getElem?_of_mem hx
 have hil := (List.getElem?_eq_some_iff.1 hi).1
 have hl := t.len
 obtain ⟨y, hy⟩ : ∃ y, P[i / 2]? = some y := ⟨_, List.getElem?_eq_getElem (by omega)⟩
 obtain ⟨n, v⟩ := y
 have e : i / 2 * 2 + i % 2 = i := by omega
 have hi' : F[i / 2 * 2 + i % 2]? = some x := by rw [e]; exact hi
 have hp : 0 < P.length := by have := (List.getElem?_eq_some_iff.1 t.root).1; omega
 rcases Int.lt_trichotomy x 0 with h | h | h
 ·obtain ⟨s, a, b, _⟩ := t.sy _ _ _ _ _ hy (by omega) hi' h
  have a : s < S := a
  omega
 ·omega
 ·have := (List.getElem?_eq_some_iff.1 (t.up _ _ _ _ _ hy (by omega) hi' h)).1
  omega
set_option maxHeartbeats 4000000 in
theorem newDec {H : Heap} {p : Option Addr} {l c : Nat} {ls : List Int} (h : IS H p l (ints ls)) {R : Value → Heap → Prop} (hbad : ¬ OkC ls → R (.tuple #[.pointer none, .bool false]) H)
    (hgood : OkC ls → ∀ H' b q L k P F, H.size ≤ b → H'[b]? = some (.cells #[.slice q L k] 149) → FS H.size H' q L k 150 2 (ints F) → P.length = L → L ≤ 5000 → Trie ls (· < ls.length) (· < ls.length) P F → Ext H H' → R (.tuple #[.pointer (some ⟨b, 0, none⟩), .bool true]) H') :
    CallsH Try.prog 68 #[.slice p l c] H R := by
  have hl : ls.length = l := by have := h.len; rw [ints_len] at this; omega
  refine Try.s68 ?_
  unfold Try.S68 alc
  refine c40 h (fun hn => ⟨_, _, _, _, rfl, br_t rfl (hbad hn)⟩) fun ok H1 cb fc e1 => ⟨_, _, _, _, rfl, br_f rfl ⟨by omega, by omega, by omega, by omega, ?_⟩⟩
  have l300 := ok.w.len
  have hz : (List.toArray (reps (Int.toNat (1 : Int)) (Array.toList #[Value.int .i64 0, Value.int .i64 0]))) = #[Value.int .i64 0, Value.int .i64 0] := rfl
  have h1 : Int.toNat (1 : Int) = 1 := rfl
  rw [hz, h1]
  dsimp only
  have hb2 := get_push_self H1 (.cells #[Value.int .i64 0, Value.int .i64 0] 150)
  have e2 : Ext H1 (H1.push (.cells #[Value.int .i64 0, Value.int .i64 0] 150)) := Ext.push _ _
  have hs2 : (H1.push (.cells #[Value.int .i64 0, Value.int .i64 0] 150)).size = H1.size + 1 := by simp
  generalize H1.push (.cells #[Value.int .i64 0, Value.int .i64 0] 150) = H2 at hb2 e2 hs2
  have hb3 := get_push_self H2 (.cells #[Value.slice (some ⟨H1.size, 0, none⟩) 1 1] 149)
  have e3 : Ext H2 (H2.push (.cells #[Value.slice (some ⟨H1.size, 0, none⟩) 1 1] 149)) := Ext.push _ _
  have hs3 : (H2.push (.cells #[Value.slice (some ⟨H1.size, 0, none⟩) 1 1] 149)).size = H2.size + 1 := by simp
  generalize H2.push (.cells #[Value.slice (some ⟨H1.size, 0, none⟩) 1 1] 149) = H3 at hb3 e3 hs3
  have hsz1 := e1.size
  have fs3 : FS H.size H3 (some ⟨H1.size, 0, none⟩) 1 1 150 2 (ints [0, 0]) := ⟨rfl, Nat.le_refl _, ints_one _, .inr ⟨H1.size, _, rfl, hsz1, e3 _ _ hb2, rfl, fun i v hv => by simpa [ints] using hv⟩⟩
  have cget : ∀ {Hx : Heap}, RS Hx (some ⟨cb, 0, none⟩) l 3 1 (ints (codesM ls)) → ∀ i, i < l → cell Hx ⟨cb, i, none⟩ = some (.int .i64 (codeM ls i)) := fun hx i hi => by
    obtain ⟨blk, q1, v1⟩ := hx.cell (ints_get (codesM_get (ls := ls) (i := i) (by omega)))
    cases q1; exact v1
  have lget : ∀ i, i < l → ∃ n : Nat, ls[i]? = some (n : Int) ∧ n ≤ 16 := fun i hi => by
    have hv : ls[i]? = some ls[i] := List.getElem?_eq_getElem (by omega)
    have hr := ok.w.rng _ (List.mem_of_getElem? hv)
    refine ⟨ls[i].toNat, ?_, by omega⟩
    rw [hv]; congr 1; omega
  generalize hB : H2.size = B at hb3 ⊢
  have dget : ∀ {Hx : Heap} {q : Option Addr} {L k : Nat}, Hx[B]? = some (.cells #[.slice q L k] 149) → cell Hx ⟨B, 0, none⟩ = some (.slice q L k) := fun h => cell_get h rfl
  have hBs : H.size ≤ B := by omega
  intro X hX
  have outer : ∀ (m s : Nat) (H4 : Heap) (q : Option Addr) (L k : Nat) (P : List (Nat × Int)) (F : List Int), l - s = m → s ≤ l → Ext H H4 → RS H4 (some ⟨cb, 0, none⟩) l 3 1 (ints (codesM ls)) → H4[B]? = some (.cells #[.slice q L k] 149) → FS H.size H4 q L k 150 2 (ints F) →
      P.length = L → L ≤ 1 + 16 * s → Trie ls (· < s) (· < s) P F → X [.int .i64 s] H4 := by
    intro m
    induction m with
    | zero =>
      intro s H4 q L k P F hm hs e4 rc hd fs hP hL t
      have : s = ls.length := by omega
      subst this
      exact hX _ H4 (br_n (by omega) (hgood ok H4 B q L k P F hBs hd fs hP (by omega) t e4))
    | succ m ih =>
      intro s H4 q L k P F hm hs e4 rc hd fs hP hL t
      have ws : IntKind.wrap .i64 ((s : Int) + 1) = ((s + 1 : Nat) : Int) := by rw [wrap_id (by omega) (by omega)]; omega
      have wns : IntKind.wrap .i64 ((-1 : Int) - (s : Int)) = -1 - (s : Int) := wrap_id (by omega) (by omega)
      obtain ⟨n, hn, hn16⟩ := lget s (by omega)
      obtain ⟨a, hp, cv⟩ := (h.ext e4).cell (ints_get hn)
      refine hX _ H4 (br_y (by omega) ⟨_, hp, by omega, by omega, n, by simpa using cv, ?_⟩)
      rw [ws, wns]
      have nxt : ∀ (H5 : Heap) (q : Option Addr) (L k : Nat) (P : List (Nat × Int)) (F : List Int), Ext H H5 → RS H5 (some ⟨cb, 0, none⟩) l 3 1 (ints (codesM ls)) → H5[B]? = some (.cells #[.slice q L k] 149) → FS H.size H5 q L k 150 2 (ints F) →
          P.length = L → L ≤ 1 + 16 * (s + 1) → Trie ls (· < s + 1) (· < s + 1) P F → X [.int .i64 ((s + 1 : Nat) : Int)] H5 := fun H5 q L k P F e5 rc hd fs hP hL t => ih (s + 1) H5 q L k P F (by omega) (by omega) e5 rc hd fs hP hL t
      intro Y hY
      by_cases hn0 : n = 0
      · have w0 : IntKind.wrap .i64 ((n : Int) - 1) = -1 := by subst hn0; decide
        rw [w0]
        refine hY _ _ H4 (br_n (by omega) (nxt H4 q L k P F e4 rc hd fs hP (by omega) (t.mono2 (fun i hi => by omega) (fun i n' hi hl' hn' => ?_) (fun i hi => by omega))))
        by_cases his : i = s
        · subst his
          rw [hn] at hl'
          have := Option.some.inj hl'; omega
        · have hi : i < s + 1 := hi
          show i < s
          omega
      · have w0 : IntKind.wrap .i64 ((n : Int) - 1) = ((n - 1 : Nat) : Int) := by rw [wrap_id (by omega) (by omega)]; omega
        rw [w0]
        have crng := code_rng ok hn (by omega)
        have inner : ∀ (k0 : Nat) (st : Nat) (H5 : Heap) (q : Option Addr) (L k : Nat) (P : List (Nat × Int)) (F : List Int), k0 + 1 ≤ n → Ext H H5 → RS H5 (some ⟨cb, 0, none⟩) l 3 1 (ints (codesM ls)) → H5[B]? = some (.cells #[.slice q L k] 149) → FS H.size H5 q L k 150 2 (ints F) →
            P.length = L → L ≤ 1 + 16 * s + (n - 1 - k0) → Trie ls (· < s) (· < s + 1) P F → P[st]? = some (n - 1 - k0, codeM ls s / 2 ^ (k0 + 1)) → (∀ j, j ≤ n - 1 - k0 → ∃ i : Nat, P[i]? = some (j, codeM ls s / 2 ^ (n - j))) → Y [.int .i64 st, .int .i64 k0] H5 := by
          intro k0
          induction k0 with
          | zero =>
            intro st H5 q L k P F hk0 e5 rc hd fs hP hL t hst path
            have hstl := (List.getElem?_eq_some_iff.1 hst).1
            have hFl := t.len
            rw [Nat.zero_add, Int.pow_one] at hst
            refine hY _ _ H5 (br_y (by omega) ⟨_, rfl, by omega, by omega, codeM ls s, by simpa using cget rc s (by omega), by omega, ?_⟩)
            have hbit : andI .i64 (shrI .i64 (codeM ls s) ((0 : Nat) : Int)) (1 : Int) = codeM ls s % 2 := by
              rw [andI_one, shr64 (by omega) (by omega)]; simp
            rw [hbit]
            refine br_t rfl ⟨_, rfl, q, L, k, by simpa using dget hd, ?_⟩
            have hbt : (codeM ls s % 2).toNat < 2 := by omega
            rcases fs.at_ with ⟨hq0, hk00⟩ | ⟨blk, cs, hq, hq2, hq3, hq4, hq5⟩
            · have := fs.le; omega
            · refine ⟨_, hq, by omega, by omega, by omega, by omega, ?_⟩
              subst hq
              simp only [add_none, Nat.zero_add, Nat.mul_one, Int.toNat_natCast]
              refine fs.set (by rw [ints_len]; omega) rfl fun H6 f6 hk6 hs6 => ?_
              rw [ints_set] at f6
              have hBne : B ≠ blk := fun hh => by rw [← hh, hd] at hq3; cases hq3
              refine nxt H6 _ L k P _ (fun b o hb => hk6 b o (e5 b o hb) (by have := lt_of_get hb; omega)) (rc.keep fun b cs' hb hg => hk6 b _ hg fun hh => by rw [hh, hq3] at hg; cases hg) (hk6 _ _ hd hBne) f6 hP (by omega) ?_
              have hn1 : n = n - 1 + 1 := by omega
              rw [hn1] at hn
              refine (t.leaf ok hn (by show s < s + 1; omega) (by show ¬ s < s; omega) (k := st) hst (fun i hi => by show i < s + 1; have : i < s := hi; omega) (fun j hj => ?_)).mono2 (fun i hi => ?_) (fun i n' hi _ _ => ?_) (fun i hi => hi)
              · obtain ⟨i, hi⟩ := path j (by omega)
                refine ⟨i, ?_⟩
                have : n - 1 + 1 - j = n - j := by omega
                rw [this]; exact hi
              · rcases hi with hi | rfl
                · have : i < s := hi
                  show i < s + 1; omega
                · show i < i + 1; omega
              · have hi : i < s + 1 := hi
                by_cases h : i < s
                · exact .inl h
                · exact .inr (by omega)
          | succ k0 ihk =>
            intro st H5 q L k P F hk0 e5 rc hd fs hP hL t hst path
            have hstl := (List.getElem?_eq_some_iff.1 hst).1
            have hFl := t.len
            have wk : IntKind.wrap .i64 (((k0 + 1 : Nat) : Int) - 1) = (k0 : Int) := by rw [wrap_id (by omega) (by omega)]; omega
            have hbit : andI .i64 (shrI .i64 (codeM ls s) ((k0 + 1 : Nat) : Int)) (1 : Int) = codeM ls s / 2 ^ (k0 + 1) % 2 := by
              rw [andI_one, shr64 (by omega) (by omega), Int.toNat_natCast]
            have hhalf : codeM ls s / 2 ^ (k0 + 1 + 1) = codeM ls s / 2 ^ (k0 + 1) / 2 := div_two_pow _ _
            generalize hv : codeM ls s / 2 ^ (k0 + 1) = v at hbit hhalf
            rw [hhalf] at hst
            have hbt : (v % 2).toNat < 2 := by omega
            have hvv : 2 * (v / 2) + ((v % 2).toNat : Int) = v := by omega
            refine hY _ _ H5 (br_y (by omega) ⟨_, rfl, by omega, by omega, codeM ls s, by simpa using cget rc s (by omega), by omega, ?_⟩)
            rw [hbit, wk]
            refine br_f (by simp; omega) ?_
            intro J hJ
            obtain ⟨x, hx⟩ := t.get hst hbt
            -- behind the look at the child
            have go : ∀ (H6 : Heap) (q : Option Addr) (L k : Nat) (P : List (Nat × Int)) (F : List Int) (x : Int), Ext H H6 → RS H6 (some ⟨cb, 0, none⟩) l 3 1 (ints (codesM ls)) → H6[B]? = some (.cells #[.slice q L k] 149) → FS H.size H6 q L k 150 2 (ints F) →
                P.length = L → L ≤ 1 + 16 * s + (n - 1 - k0) → Trie ls (· < s) (· < s + 1) P F → st < P.length → F[st * 2 + (v % 2).toNat]? = some x → 0 < x → P[x.toNat]? = some (n - 1 - k0, codeM ls s / 2 ^ (k0 + 1)) → (∀ j, j ≤ n - 1 - k0 → ∃ i : Nat, P[i]? = some (j, codeM ls s / 2 ^ (n - j))) → J [] H6 := by
              intro H6 q L k P F x e6 rc hd fs hP hL t hstl hx hx0 hPx path
              have hFl := t.len
              rcases fs.at_ with ⟨hq0, hk00⟩ | ⟨blk, cs, hq, hq2, hq3, hq4, hq5⟩
              · have := fs.le; omega
              · obtain ⟨blk', hq', cx⟩ := fs.rs.cell (ints_get hx)
                rw [hq] at hq'; cases hq'
                have hxl := (List.getElem?_eq_some_iff.1 hPx).1
                refine hJ H6 ⟨_, rfl, q, L, k, by simpa using dget hd, _, hq, by omega, by omega, by omega, by omega, x, ?_, ?_⟩
                · simp only [add_none, Nat.zero_add, Nat.mul_one, Int.toNat_natCast]; exact cx
                · have hxn : x = ((x.toNat : Nat) : Int) := by omega
                  rw [hxn]
                  exact ihk x.toNat H6 q L k P F (by omega) e6 rc hd fs hP hL t hPx path
            rcases fs.at_ with ⟨hq0, hk00⟩ | ⟨blk, cs, hq, hq2, hq3, hq4, hq5⟩
            · have := fs.le; omega
            obtain ⟨blk', hq', cx⟩ := fs.rs.cell (ints_get hx)
            rw [hq] at hq'; cases hq'
            refine ⟨_, rfl, q, L, k, by simpa using dget hd, _, hq, by omega, by omega, by omega, by omega, x, ?_, br_eq (fun hx0 => ?_) (fun hxne => ?_)⟩
            · simp only [add_none, Nat.zero_add, Nat.mul_one, Int.toNat_natCast]; exact cx
            · -- a new node
              subst hx0
              refine ⟨_, rfl, q, L, k, by simpa using dget hd, rfl, by omega, ?_⟩
              have hz : (List.toArray (setL [Value.int .i64 0, Value.int .i64 0] 0 (Array.toList #[Value.int .i64 0, Value.int .i64 0]))) = #[Value.int .i64 0, Value.int .i64 0] := rfl
              rw [hz]
              have hb6 := get_push_self H5 (.cells #[Value.int .i64 0, Value.int .i64 0] 150)
              have e6 : Ext H5 (H5.push (.cells #[Value.int .i64 0, Value.int .i64 0] 150)) := Ext.push _ _
              generalize H5.push (.cells #[Value.int .i64 0, Value.int .i64 0] 150) = H6 at hb6 e6
              have src : RS H6 (some ⟨H5.size, 0, none⟩) 1 150 2 (ints [0, 0]) := ⟨rfl, ints_one _, .inr ⟨H5.size, _, rfl, hb6, fun i v hv => by simpa [ints] using hv⟩⟩
              have f6 := fs.ext e6
              have hd6 := e6 _ _ hd
              have rc6 := rc.ext e6
              refine f6.app src (by decide) (by have := (e5.trans e6).size; omega) rfl (by omega) (by omega) fun q7 k7 H7 f7 hk7 hs7 => ⟨_, rfl, ?_⟩
              rw [← ints_append] at f7
              have hBne : q ≠ some ⟨B, 0, none⟩ := fun hh => by rw [hq] at hh; cases hh; rw [hd] at hq3; cases hq3
              have hd7 := hk7 _ _ hd6 hBne
              have rc7 : RS H7 (some ⟨cb, 0, none⟩) l 3 1 (ints (codesM ls)) := rc6.keep fun b cs' hb hg => hk7 b _ hg fun hh => by
                rw [hq] at hh; cases hh; rw [e6 _ _ hq3] at hg; cases hg
              have e7 : Ext H H7 := fun b o hb => hk7 b o ((e5.trans e6) b o hb) fun hh => by
                rw [hq] at hh; cases hh; have := lt_of_get hb; omega
              simp only [add_none, Nat.zero_add]
              refine stAt_one hd7 (by show 0 < 1; omega) rfl ?_
              have hset : (#[Value.slice q L k] : Array Value).setIfInBounds 0 (Value.slice q7 (L + 1) k7) = #[Value.slice q7 (L + 1) k7] := rfl
              rw [hset]
              have hd8 := get_set_self (o := Obj.cells #[Value.slice q7 (L + 1) k7] 149 (0, 0)) hd7
              have hk8 : ∀ (b : Nat) (o : Obj), H7[b]? = some o → b ≠ B → (H7.setIfInBounds B (.cells #[Value.slice q7 (L + 1) k7] 149 (0, 0)))[b]? = some o := fun b o hb hn => get_set_ne (Ne.symm hn) hb
              generalize H7.setIfInBounds B (.cells #[Value.slice q7 (L + 1) k7] 149 (0, 0)) = H8 at hd8 hk8
              have f8 : FS H.size H8 q7 (L + 1) k7 150 2 (ints (F ++ [0, 0])) := f7.keep fun b cs' hb hg => hk8 b _ hg fun hh => by rw [hh, hd7] at hg; cases hg
              have rc8 : RS H8 (some ⟨cb, 0, none⟩) l 3 1 (ints (codesM ls)) := rc7.keep fun b cs' hb hg => hk8 b _ hg fun hh => by rw [hh, hd7] at hg; cases hg
              have e8 : Ext H H8 := fun b o hb => hk8 b o (e7 b o hb) (by have := lt_of_get hb; omega)
              have wl : IntKind.wrap .i64 (((L + 1 : Nat) : Int) - 1) = (L : Int) := by rw [wrap_id (by omega) (by omega)]; omega
              rcases f8.at_ with ⟨hq0, hk00⟩ | ⟨blk8, cs8, hq8, hq82, hq83, hq84, hq85⟩
              · have := f8.le; omega
              · refine ⟨_, rfl, q7, L + 1, k7, by simpa using dget hd8, _, rfl, q7, L + 1, k7, by simpa using dget hd8, _, hq8, by omega, by omega, by omega, by omega, ?_⟩
                subst hq8
                rw [wl]
                simp only [add_none, Nat.zero_add, Nat.mul_one, Int.toNat_natCast]
                refine f8.set (by rw [ints_len]; simp; omega) rfl fun H9 f9 hk9 hs9 => ?_
                rw [ints_set] at f9
                have hB9 : B ≠ blk8 := fun hh => by rw [← hh, hd8] at hq83; cases hq83
                have ndc : codeM ls s / 2 ^ (n - (n - 1 - (k0 + 1) + 1)) = 2 * (v / 2) + ((v % 2).toNat : Int) := by
                  have : n - (n - 1 - (k0 + 1) + 1) = k0 + 1 := by omega
                  rw [this, hv, hvv]
                have t9 := t.node ok (s := s) (m := n) (b := (v % 2).toNat) hn (by show s < s + 1; omega) (by omega) hst hbt ndc hx
                rw [hvv] at t9
                have hdep : n - 1 - (k0 + 1) + 1 = n - 1 - k0 := by omega
                rw [hdep] at t9
                have e9 : Ext H H9 := fun b o hb => hk9 b o (e8 b o hb) (by have := lt_of_get hb; omega)
                rw [hP] at t9
                refine go H9 _ (L + 1) k7 (P ++ [(n - 1 - k0, v)]) _ (L : Int) e9 (rc8.keep fun b cs' hb hg => hk9 b _ hg fun hh => by rw [hh, hq83] at hg; cases hg) (hk9 _ _ hd8 hB9) f9 (by simp; omega) (by omega) t9 (by simp; omega) ?_ (by omega) ?_ (fun j hj => ?_)
                · rw [List.getElem?_set_self (by simp; omega)]
                · rw [Int.toNat_natCast, ← hP, hv]; simp
                · by_cases hj1 : j ≤ n - 1 - (k0 + 1)
                  · obtain ⟨i, hi⟩ := path j hj1
                    exact ⟨i, by rw [List.getElem?_append_left (List.getElem?_eq_some_iff.1 hi).1]; exact hi⟩
                  · have hje : j = n - 1 - k0 := by omega
                    refine ⟨P.length, ?_⟩
                    have : n - j = k0 + 1 := by omega
                    rw [this, hv, hje]; simp
            · -- the child is there
              have hxpos : 0 < x := by
                rcases Int.lt_trichotomy x 0 with h | h | h
                · obtain ⟨s', i', _, l', c'⟩ := t.sy _ _ _ _ _ hst hbt hx h
                  have i' : s' < s := i'
                  rw [hvv] at c'
                  have := no_prefix ok (i := s') (j := s) (by omega) l' hn (by omega) (by omega)
                  have e : n - (n - 1 - (k0 + 1) + 1) = k0 + 1 := by omega
                  rw [e, hv] at this
                  exact absurd c'.symm this
                · exact absurd h hxne
                · exact h
              have hPx := t.up _ _ _ _ _ hst hbt hx hxpos
              rw [hvv] at hPx
              have hdep : n - 1 - (k0 + 1) + 1 = n - 1 - k0 := by omega
              rw [hdep] at hPx
              refine go H5 q L k P F x e5 rc hd fs hP (by omega) t hstl hx hxpos (by rw [hv]; exact hPx) (fun j hj => ?_)
              by_cases hj1 : j ≤ n - 1 - (k0 + 1)
              · exact path j hj1
              · have hje : j = n - 1 - k0 := by omega
                refine ⟨x.toNat, ?_⟩
                have : n - j = k0 + 1 := by omega
                rw [this, hv, hje]; exact hPx
        have hcode0 : codeM ls s / 2 ^ n = 0 := Int.ediv_eq_zero_of_lt crng.1 crng.2
        refine inner (n - 1) 0 H4 q L k P F (by omega) e4 rc hd fs hP (by omega) (t.mono2 (fun i hi => hi) (fun i n' hi _ _ => hi) (fun i hi => by have : i < s := hi; show i < s + 1; omega)) ?_ (fun j hj => ⟨0, ?_⟩)
        · have e1 : n - 1 - (n - 1) = 0 := by omega
          have e2 : n - 1 + 1 = n := by omega
          rw [e1, e2, hcode0]; exact t.root
        · have e1 : j = 0 := by omega
          subst e1
          rw [Nat.sub_zero, hcode0]; exact t.root
  refine outer l 0 H3 (some ⟨H1.size, 0, none⟩) 1 1 [(0, 0)] [0, 0] (by omega) (by omega) (e1.trans (e2.trans e3)) (fc.rs.ext (e2.trans e3)) hb3 fs3 rfl (by omega) ((Trie.first ls (· < 0)).mono2 (fun i hi => hi.elim) (fun i n hi => absurd hi (by omega)) (fun i hi => hi))
def stepM (F : List Int) (L : Nat) (st bit : Int) : Int × Int :=
 if st < 0 ∨ st ≥ L then (-1, -1)
 else if F.getD (st.toNat * 2 + (bit % 2).toNat) 0 > 0 then (F.getD (st.toNat * 2 + (bit % 2).toNat) 0, -1)
 else if F.getD (st.toNat * 2 + (bit % 2).toNat) 0 < 0 then (0, -1 - F.getD (st.toNat * 2 + (bit % 2).toNat) 0) else (-1, -1)
theorem c70 {H : Heap} {b : Nat} {q : Option Addr} {L k : Nat} {F : List Int} (hd : H[b]? = some (.cells #[.slice q L k] 149)) (hf : RS H q L 150 2 (ints F)) (hr : ∀ x ∈ F, -1000000 ≤ x ∧ x ≤ 1000000) (hL : L ≤ 1000000) (st bit : Int) {R : Value → Heap → Prop}
    (h : R (.tuple #[.int .i64 (stepM F L st bit).1, .int .i64 (stepM F L st bit).2]) H) : CallsH Try.prog 70 #[.pointer (some ⟨b, 0, none⟩), .int .i64 st, .int .i64 bit] H R := by
  have hFl : F.length = L * 2 := by have := hf.len; rw [ints_len] at this; exact this
  have dget : cell H ⟨b, 0, none⟩ = some (.slice q L k) := cell_get hd rfl
  refine Try.s70 ?_
  unfold Try.S70
  rw [andI_one]
  intro J hJ
  unfold stepM at h
  refine br_dec (fun hn => ?_) (fun h0 => ⟨_, rfl, q, L, k, by simpa using dget, br_dec (fun hge => ?_) (fun hlt => hJ H ?_)⟩)
  · rw [if_pos (.inl hn)] at h; exact h
  · rw [if_pos (.inr hge)] at h; exact h
  · rw [if_neg (by omega)] at h
    have hb2 : (bit % 2).toNat < 2 := by omega
    have hx : F[st.toNat * 2 + (bit % 2).toNat]? = some (F.getD (st.toNat * 2 + (bit % 2).toNat) 0) := by
      rw [List.getD_eq_getElem?_getD, List.getElem?_eq_getElem (by omega)]; rfl
    have hxr := hr _ (List.mem_of_getElem? hx)
    obtain ⟨blk, hq, cx⟩ := hf.cell (ints_get hx)
    generalize F.getD (st.toNat * 2 + (bit % 2).toNat) 0 = x at h hx cx hxr
    refine ⟨_, rfl, q, L, k, by simpa using dget, _, hq, by omega, by omega, by omega, by omega, x, ?_, br_dec (fun hp => ?_) (fun hp => br_dec (fun hn => ?_) (fun hn => ?_))⟩
    · simp only [add_none, Nat.zero_add, Nat.mul_one]; exact cx
    · rw [if_pos hp] at h; exact h
    · rw [if_neg hp, if_pos hn] at h
      rw [wrap_id (by omega) (by omega)]; exact h
    · rw [if_neg hp, if_neg hn] at h; exact h
end Go.Proofs
namespace Go.Proofs
open Go.Sh
theorem rank_ex {ls : List Int} {n r : Nat} : ∀ {S : Nat}, S ≤ ls.length → r < rank ls S n → ∃ s : Nat, s < S ∧ ls[s]? = some (n : Int) ∧ rank ls s n = r
 | 0, _, h => by simp [rank] at h
 | S + 1, hS, h => by
  have hv : ls[S]? = some ls[S] := List.getElem?_eq_getElem (by omega)
  rw [rank_snoc hv] at h
  by_cases hr : r < rank ls S n
  ·obtain ⟨s, a, b⟩ := rank_ex (by omega) hr
   exact ⟨s, by omega, b⟩
  ·split at h
   ·rename_i he
    exact ⟨S, by omega, by rw [hv, he], by omega⟩
   ·omega
theorem whole {ls : List Int} (ok : OkC ls) (hw : wtM ls = 65536) {x : Int} (h0 : 0 ≤ x) (h1 : x < 65536) : ∃ s n : Nat, ls[s]? = some (n : Int) ∧ 1 ≤ n ∧ n ≤ 16 ∧ codeM ls s = x / 2 ^ (16 - n) := by
 have hW : W ls 16 = 65536 := by rw [W_all ok.w.rng, hw]
 have find : ∀ m : Nat, m ≤ 16 → x < W ls m → ∃ n, n < m ∧ W ls n ≤ x ∧ x < W ls (n + 1) := by
  intro m
  induction m with
  | zero => intro _ h; simp [W] at h; omega
  | succ m ih =>
   intro hm h
   by_cases hx : x < W ls m
   ·obtain ⟨n, a, b⟩ := ih (by omega) hx
    exact ⟨n, by omega, b⟩
   ·exact ⟨m, by omega, by omega, h⟩
 obtain ⟨n, hn, w1, w2⟩ := find 16 (Nat.le_refl _) (by omega)
 have b1 := base_W ls n (by omega)
 have b2 := base_W ls (n + 1) (by omega)
 have hp : (0 : Int) < 2 ^ (16 - (n + 1)) := Int.pow_pos (by omega)
 have hb : base ls (n + 1) * 2 ^ (16 - (n + 1)) = W ls n := by
  rw [← b1]
  have e : 16 - n = 16 - (n + 1) + 1 := by omega
  rw [e, Int.pow_succ]
  show 2 * (base ls n + cnt ls n) * 2 ^ (16 - (n + 1)) = _
  generalize (2 : Int) ^ (16 - (n + 1)) = z
  rw [Int.mul_comm z 2, ← Int.mul_assoc, Int.mul_comm (base ls n + (cnt ls n : Int)) 2]
 have y1 : base ls (n + 1) ≤ x / 2 ^ (16 - (n + 1)) := (Int.le_ediv_iff_mul_le hp).2 (by omega)
 have y2 : x / 2 ^ (16 - (n + 1)) < base ls (n + 1) + cnt ls (n + 1) := Int.ediv_lt_of_lt_mul hp (by omega)
 have hc : cnt ls (n + 1) = rank ls ls.length (n + 1) := by unfold cnt; rw [if_neg (by omega)]
 obtain ⟨s, _, hs, hr⟩ := rank_ex (ls := ls) (n := n + 1) (r := (x / 2 ^ (16 - (n + 1)) - base ls (n + 1)).toNat) (S := ls.length) (Nat.le_refl _) (by omega)
 refine ⟨s, n + 1, hs, by omega, by omega, ?_⟩
 rw [codeM_pos hs (by omega), hr]
 omega
section
variable {ls : List Int} {P : List (Nat × Int)} {F : List Int}
theorem stepM_of {L : Nat} (hP : P.length = L) (t : Trie ls (· < ls.length) (· < ls.length) P F) {k : Nat} {y : Nat × Int} (hk : P[k]? = some y) (bit : Int) : ∃ x, F[k * 2 + (bit % 2).toNat]? = some x ∧ stepM F L (k : Int) bit = if x > 0 then (x, -1) else if x < 0 then (0, -1 - x) else (-1, -1) := by
 have hb : (bit % 2).toNat < 2 := by omega
 obtain ⟨x, hx⟩ := t.get hk hb
 have hkl := (List.getElem?_eq_some_iff.1 hk).1
 refine ⟨x, hx, ?_⟩
 unfold stepM
 rw [if_neg (by omega), Int.toNat_natCast, List.getD_eq_getElem?_getD, hx]
 rfl
theorem step_sym {L : Nat} (ok : OkC ls) (hP : P.length = L) (t : Trie ls (· < ls.length) (· < ls.length) P F) {k n s : Nat} {v bit : Int} (hk : P[k]? = some (n, v)) (hs : ls[s]? = some ((n + 1 : Nat) : Int)) (hc : codeM ls s = 2 * v + bit % 2) : stepM F L (k : Int) bit = (0, (s : Int)) := by
 obtain ⟨x, hx, e⟩ := stepM_of hP t hk bit
 have hb : (bit % 2).toNat < 2 := by omega
 have hsl := (List.getElem?_eq_some_iff.1 hs).1
 have := (t.step ok (fun s hs => hs) hk hb hx).1 s hsl hs (by omega)
 rw [e, if_neg (by omega), if_pos (by omega)]
 congr 1; omega
theorem step_on {L : Nat} (ok : OkC ls) (hP : P.length = L) (t : Trie ls (· < ls.length) (· < ls.length) P F) {k n s m : Nat} {v bit : Int} (hk : P[k]? = some (n, v)) (hs : ls[s]? = some (m : Int)) (hm : n + 1 < m) (hc : codeM ls s / 2 ^ (m - (n + 1)) = 2 * v + bit % 2) :
    ∃ j : Nat, 0 < j ∧ stepM F L (k : Int) bit = ((j : Int), -1) ∧ P[j]? = some (n + 1, 2 * v + bit % 2) := by
  obtain ⟨x, hx, e⟩ := stepM_of hP t hk bit
  have hb : (bit % 2).toNat < 2 := by omega
  have hsl := (List.getElem?_eq_some_iff.1 hs).1
  have hbb : 2 * v + ((bit % 2).toNat : Int) = 2 * v + bit % 2 := by omega
  obtain ⟨h0, hp⟩ := (t.step ok (fun s hs => hs) hk hb hx).2 s m hsl hs hm (by rw [hbb]; exact hc)
  rw [hbb] at hp
  refine ⟨x.toNat, by omega, ?_, hp⟩
  rw [e, if_pos h0]
  congr 1; omega
theorem step_off {L : Nat} (hP : P.length = L) (t : Trie ls (· < ls.length) (· < ls.length) P F) {k n : Nat} {v bit : Int} (hk : P[k]? = some (n, v)) (h1 : ∀ s : Nat, ls[s]? = some ((n + 1 : Nat) : Int) → codeM ls s ≠ 2 * v + bit % 2)
    (h2 : ∀ s m : Nat, ls[s]? = some (m : Int) → n + 1 < m → codeM ls s / 2 ^ (m - (n + 1)) ≠ 2 * v + bit % 2) : stepM F L (k : Int) bit = (-1, -1) := by
  obtain ⟨x, hx, e⟩ := stepM_of hP t hk bit
  have hb : (bit % 2).toNat < 2 := by omega
  have hbb : 2 * v + ((bit % 2).toNat : Int) = 2 * v + bit % 2 := by omega
  have n1 : ¬ x > 0 := fun h => by
    have hp := t.up _ _ _ _ _ hk hb hx h
    obtain ⟨s, m, _, a, b, c⟩ := t.beg _ _ _ hp (by omega)
    rw [hbb] at c
    exact h2 s m a b c
  have n2 : ¬ x < 0 := fun h => by
    obtain ⟨s, _, _, a, b⟩ := t.sy _ _ _ _ _ hk hb hx h
    rw [hbb] at b
    exact h1 s a b
  rw [e, if_neg n1, if_neg n2]
theorem Trie.rng2 {L : Nat} (hP : P.length = L) (hL : L ≤ 5000) (hl : ls.length ≤ 300) (t : Trie ls (· < ls.length) (· < ls.length) P F) : ∀ x ∈ F, -1000000 ≤ x ∧ x ≤ 1000000 := fun x hx => by
 have := t.rng x hx; omega
theorem Trie.val (ok : OkC ls) (t : Trie ls (· < ls.length) (· < ls.length) P F) {k n : Nat} {v : Int} (hk : P[k]? = some (n, v)) (hn : 0 < n) : n ≤ 16 ∧ 0 ≤ v ∧ v ≤ 65536 := by
 obtain ⟨s, m, _, a, b, c⟩ := t.beg _ _ _ hk hn
 have hm := ok.w.rng _ (List.mem_of_getElem? a)
 have hr := code_rng ok a (by omega)
 have h2 : (2 : Int) ^ m ≤ 65536 := by
  have h2 : 2 ^ m ≤ 2 ^ 16 := Nat.pow_le_pow_right (by omega) (by omega)
  have h3 : ((2 ^ m : Nat) : Int) = (2 : Int) ^ m := by simp
  have h4 : (2 : Nat) ^ 16 = 65536 := rfl
  omega
 have h5 : 0 ≤ codeM ls s / 2 ^ (m - n) := Int.ediv_nonneg hr.1 (Int.pow_nonneg (by omega))
 have h6 : codeM ls s / 2 ^ (m - n) ≤ codeM ls s := Int.ediv_le_self _ hr.1
 omega
end
theorem div_bit (x : Int) (k : Nat) : 2 * (x / 2 ^ (k + 1)) + x / 2 ^ k % 2 = x / 2 ^ k := by rw [div_two_pow]; omega
end Go.Proofs
namespace Go.Proofs
open Go.Sh
def findM (ls : List Int) (n : Nat) (v : Int) : Option Nat := (List.range ls.length).find? fun s => ls.getD s 0 == (n : Int) && codeM ls s == v
def begM (ls : List Int) (n : Nat) (v : Int) : Bool := (List.range ls.length).any fun s => decide ((n : Int) < ls.getD s 0) && codeM ls s / 2 ^ ((ls.getD s 0).toNat - n) == v
theorem findM_some {ls : List Int} {n s : Nat} {v : Int} (h : findM ls n v = some s) : ls[s]? = some (n : Int) ∧ codeM ls s = v := by
 unfold findM at h
 have h1 := List.find?_some h
 have h2 := List.mem_range.1 (List.mem_of_find?_eq_some h)
 simp only [Bool.and_eq_true, beq_iff_eq] at h1
 exact ⟨by rw [get_gD ls 0 h2, h1.1], h1.2⟩
theorem findM_none {ls : List Int} {n : Nat} {v : Int} (h : findM ls n v = none) {s : Nat} (hs : ls[s]? = some (n : Int)) : codeM ls s ≠ v := fun hc => by
 unfold findM at h
 rw [List.find?_eq_none] at h
 have := h s (List.mem_range.2 (List.getElem?_eq_some_iff.1 hs).1)
 rw [gD_get hs, hc] at this
 simp at this
theorem findM_eq {ls : List Int} (ok : OkC ls) {n s : Nat} {v : Int} (hn : 0 < n) (hs : ls[s]? = some (n : Int)) (hc : codeM ls s = v) : findM ls n v = some s := by
 cases h : findM ls n v with
 | none => exact absurd hc (findM_none h hs)
 | some t =>
  obtain ⟨h1, h2⟩ := findM_some h
  by_cases he : t = s
  ·rw [he]
  ·have := no_prefix ok he h1 hs hn (Nat.le_refl n)
   rw [Nat.sub_self, Int.pow_zero, Int.ediv_one] at this
   exact absurd (hc.trans h2.symm) this
theorem begM_true {ls : List Int} (hr : ∀ x ∈ ls, 0 ≤ x ∧ x ≤ 16) {n : Nat} {v : Int} (h : begM ls n v = true) : ∃ s m : Nat, ls[s]? = some (m : Int) ∧ n < m ∧ codeM ls s / 2 ^ (m - n) = v := by
 unfold begM at h
 rw [List.any_eq_true] at h
 obtain ⟨s, h1, h2⟩ := h
 have h1 := List.mem_range.1 h1
 simp only [Bool.and_eq_true, decide_eq_true_eq, beq_iff_eq] at h2
 have hs := get_gD ls 0 h1
 have := hr _ (List.mem_of_getElem? hs)
 refine ⟨s, (ls.getD s 0).toNat, by rw [hs]; congr 1; omega, by omega, h2.2⟩
theorem begM_false {ls : List Int} {n : Nat} {v : Int} (h : begM ls n v = false) {s m : Nat} (hs : ls[s]? = some (m : Int)) (hm : n < m) : codeM ls s / 2 ^ (m - n) ≠ v := fun hc => by
 unfold begM at h
 rw [List.any_eq_false] at h
 have := h s (List.mem_range.2 (List.getElem?_eq_some_iff.1 hs).1)
 rw [gD_get hs] at this
 simp only [Int.toNat_natCast, hc, beq_self_eq_true, Bool.and_true, decide_eq_true_eq] at this
 omega
theorem begM_mk {ls : List Int} {n s m : Nat} {v : Int} (hs : ls[s]? = some (m : Int)) (hm : n < m) (hc : codeM ls s / 2 ^ (m - n) = v) : begM ls n v = true := by
 cases h : begM ls n v with
 | true => rfl
 | false => exact absurd hc (begM_false h hs hm)
def copyM (d : Nat) : Nat → List Int → List Int
 | 0, out => out
 | n + 1, out => copyM d n (out ++ [out.getD (out.length - d) 0])
theorem copyM_len (d : Nat) : ∀ (n : Nat) (out : List Int), (copyM d n out).length = out.length + n
 | 0, out => rfl
 | n + 1, out => by rw [copyM, copyM_len d n, List.length_append, List.length_singleton]; omega
end Go.Proofs
namespace Go.Proofs
open Go.Sh
def zigL : List Nat := [0, 1, 8, 16, 9, 2, 3, 10, 17, 24, 32, 25, 18, 11, 4, 5, 12, 19, 26, 33, 40, 48, 41, 34, 27, 20, 13, 6, 7, 14, 21, 28, 35, 42, 49, 56, 57, 50, 43, 36, 29, 22, 15, 23, 30, 37, 44, 51, 58, 59, 52, 45, 38, 31, 39, 46, 53, 60, 61, 54, 47, 55, 62, 63]
def zagL : List Nat := (List.range 64).map fun a => zigL.findIdx (· == a)
def zig (i : Nat) : Nat := zigL.getD i 0
def zag (i : Nat) : Nat := zagL.getD i 0
theorem zigL_len : zigL.length = 64 := rfl
theorem zig_fin : ∀ i : Fin 64, zig i.val < 64 ∧ zag (zig i.val) = i.val ∧ zag i.val < 64 ∧ zig (zag i.val) = i.val := by decide +kernel
theorem zig_lt {i : Nat} (h : i < 64) : zig i < 64 := (zig_fin ⟨i, h⟩).1
theorem zag_zig {i : Nat} (h : i < 64) : zag (zig i) = i := (zig_fin ⟨i, h⟩).2.1
theorem zag_lt {i : Nat} (h : i < 64) : zag i < 64 := (zig_fin ⟨i, h⟩).2.2.1
theorem zig_zag {i : Nat} (h : i < 64) : zig (zag i) = i := (zig_fin ⟨i, h⟩).2.2.2
theorem zig_get {i : Nat} (h : i < 64) : zigL[i]? = some (zig i) := get_gD _ _ (by rw [zigL_len]; exact h)
def zigI : List Int := zigL.map Int.ofNat
theorem zigI_len : zigI.length = 64 := rfl
theorem zigI_get {i : Nat} (h : i < 64) : zigI[i]? = some ((zig i : Nat) : Int) := by unfold zigI; rw [List.getElem?_map, zig_get h]; rfl
def spread (s l : List Int) : Nat → List Int
 | 0 => s
 | i + 1 => (spread s l i).set (zig i) (l.getD i 0)
theorem spread_len (s l : List Int) : ∀ i, (spread s l i).length = s.length
 | 0 => rfl
 | i + 1 => by rw [spread, List.length_set, spread_len]
theorem getD_set_ite {α : Type} (l : List α) (i j : Nat) (v d : α) (h : i < l.length) : (l.set i v).getD j d = if i = j then v else l.getD j d := by
 by_cases e : i = j
 ·subst e; rw [if_pos rfl, List.getD_eq_getElem?_getD, List.getElem?_set_self h]; rfl
 ·rw [if_neg e, List.getD_eq_getElem?_getD, List.getElem?_set_ne e, List.getD_eq_getElem?_getD]
theorem spread_get (s l : List Int) (h : s.length = 64) : ∀ i, i ≤ 64 → ∀ j, j < 64 → (spread s l i).getD j 0 = if zag j < i then l.getD (zag j) 0 else s.getD j 0
 | 0, _, j, _ => by simp [spread]
 | i + 1, hi, j, hj => by
  rw [spread, getD_set_ite _ _ _ _ _ (by rw [spread_len, h]; exact zig_lt (by omega)), spread_get s l h i (by omega) j hj]
  by_cases e : zig i = j
  ·subst e
   rw [if_pos rfl, zag_zig (by omega), if_pos (by omega)]
  ·have : zag j ≠ i := fun he => e (by rw [← he, zig_zag hj])
   rw [if_neg e]
   by_cases h1 : zag j < i
   ·rw [if_pos h1, if_pos (by omega)]
   ·rw [if_neg h1, if_neg (by omega)]
theorem list_ext_getD {a b : List Int} {n : Nat} (ha : a.length = n) (hb : b.length = n) (h : ∀ j, j < n → a.getD j 0 = b.getD j 0) : a = b := by
 refine List.ext_getElem? fun j => ?_
 rcases Nat.lt_or_ge j n with hj | hj
 ·rw [get_gD a 0 (by omega), get_gD b 0 (by omega), h j hj]
 ·rw [List.getElem?_eq_none (by omega), List.getElem?_eq_none (by omega)]
def zeros64 : List Int := List.replicate 64 0
theorem zeros64_len : zeros64.length = 64 := by unfold zeros64; simp
theorem spread_zig {t : List Int} (h : t.length = 64) (s l : List Int) (hs : s.length = 64) (hl : ∀ i, i < 64 → l.getD i 0 = t.getD (zig i) 0) : spread s l 64 = t := by
 refine list_ext_getD (n := 64) (by rw [spread_len, hs]) h fun j hj => ?_
 rw [spread_get s l hs 64 (by omega) j hj, if_pos (zag_lt hj), hl _ (zag_lt hj), zig_zag hj]
def segM (b : List Int) : Option (List Int × List Int) :=
 if b.length < 2 then none else if b.getD 0 0 * 256 + b.getD 1 0 < 2 ∨ (b.length : Int) < b.getD 0 0 * 256 + b.getD 1 0 then none
 else some ((b.take (b.getD 0 0 * 256 + b.getD 1 0).toNat).drop 2, b.drop (b.getD 0 0 * 256 + b.getD 1 0).toNat)
def okT (d : List Int) : Prop := 65 ≤ d.length ∧ d.getD 0 0 ≤ 3 ∧ ∀ i, i < 64 → d.getD (1 + i) 0 ≠ 0
instance (d : List Int) : Decidable (okT d) := by unfold okT; infer_instance
abbrev StepsT := List (Option (List Int))
def stepsD (d : List Int) (S : StepsT) : Option StepsT :=
 if d = [] then some S
 else if h : okT d then stepsD (d.drop 65) (S.set (d.getD 0 0).toNat (some (spread zeros64 (d.drop 1) 64))) else none
termination_by d.length
decreasing_by have := h.1; rw [List.length_drop]; omega
def lensN (d : List Int) (k : Nat) : List Int := (List.range k).flatMap fun n => List.replicate (d.getD (n + 1) 0).toNat ((n + 1 : Nat) : Int)
def lensM (d : List Int) : List Int := lensN d 16
open Classical in
noncomputable def codesD (d : List Int) (C : List (Option (List Int × List Int))) : Option (List (Option (List Int × List Int))) :=
 if d = [] then some C
 else if h : 17 ≤ d.length ∧ d.getD 0 0 % 16 ≤ 3 ∧ d.getD 0 0 / 16 ≤ 1 ∧ (lensM d).length ≤ 256 ∧ 17 + (lensM d).length ≤ d.length ∧ OkC (lensM d) then
  codesD (d.drop (17 + (lensM d).length)) (C.set (d.getD 0 0 % 16 + 4 * (d.getD 0 0 / 16)).toNat (some (lensM d, (d.drop 17).take (lensM d).length)))
 else none
termination_by d.length
decreasing_by have := h.1; rw [List.length_drop]; omega
structure Jst where
 W : Int
 Ht : Int
 seen : Bool
 half : Bool
 wh : List Nat
 st : StepsT
 cd : List (Option (List Int × List Int))
def jst0 : Jst := ⟨0, 0, false, false, [0, 0, 0], List.replicate 4 none, List.replicate 8 none⟩
def partOk (d : List Int) (k : Nat) : Prop := d.getD (6 + 3 * k) 0 = (k : Int) + 1 ∧ (d.getD (7 + 3 * k) 0 = 17 ∨ k = 0 ∧ d.getD (7 + 3 * k) 0 = 34) ∧ d.getD (8 + 3 * k) 0 ≤ 3
open Classical in
noncomputable def sizesM (d : List Int) (s : Jst) : Option Jst :=
 if s.seen = false ∧ d.length = 15 ∧ d.getD 0 0 = 8 ∧ d.getD 5 0 = 3 ∧ (∀ k, k < 3 → partOk d k) ∧ SizedM (d.getD 3 0 * 256 + d.getD 4 0) (d.getD 1 0 * 256 + d.getD 2 0) then
  some { s with W := d.getD 3 0 * 256 + d.getD 4 0, Ht := d.getD 1 0 * 256 + d.getD 2 0, seen := true, half := decide (d.getD 7 0 = 34), wh := (List.range 3).map fun k => (d.getD (8 + 3 * k) 0).toNat }
 else none
def scanOk (d : List Int) (s : Jst) (k : Nat) : Prop :=
 d.getD (1 + 2 * k) 0 = (k : Int) + 1 ∧ d.getD (2 + 2 * k) 0 / 16 ≤ 3 ∧ d.getD (2 + 2 * k) 0 % 16 ≤ 3 ∧ (s.st.getD (s.wh.getD k 0) none).isSome ∧
  (s.cd.getD (d.getD (2 + 2 * k) 0 / 16).toNat none).isSome ∧ (s.cd.getD (4 + d.getD (2 + 2 * k) 0 % 16).toNat none).isSome
open Classical in
noncomputable def scanM (d : List Int) (s : Jst) : Option (List (Nat × Nat)) :=
 if s.seen = true ∧ d.length = 10 ∧ d.getD 0 0 = 3 ∧ d.getD 7 0 = 0 ∧ d.getD 8 0 = 63 ∧ d.getD 9 0 = 0 ∧ ∀ k, k < 3 → scanOk d s k then
  some ((List.range 3).map fun k => ((d.getD (2 + 2 * k) 0 / 16).toNat, (4 + d.getD (2 + 2 * k) 0 % 16).toNat))
 else none
theorem segM_len {b d r : List Int} (h : segM b = some (d, r)) : r.length + 2 ≤ b.length := by
 unfold segM at h
 split at h
 ·cases h
 ·split at h
  ·cases h
  ·rename_i h1 h2
   cases h
   rw [List.length_drop]; omega
noncomputable def headM (b : List Int) (s : Jst) : Option (Jst × List (Nat × Nat) × List Int) :=
 if b.length < 2 ∨ b.getD 0 0 ≠ 255 then none
 else match hs : segM (b.drop 2) with
  | none => none
  | some (d, r) =>
   if 224 ≤ b.getD 1 0 ∧ b.getD 1 0 ≤ 239 ∨ b.getD 1 0 = 254 then headM r s
   else if b.getD 1 0 = 219 then (match stepsD d s.st with
    | none => none
    | some S => headM r { s with st := S })
   else if b.getD 1 0 = 192 then (match sizesM d s with
    | none => none
    | some s' => headM r s')
   else if b.getD 1 0 = 196 then (match codesD d s.cd with
    | none => none
    | some C => headM r { s with cd := C })
   else if b.getD 1 0 = 218 then (match scanM d s with
    | none => none
    | some t => some (s, t, r))
   else none
termination_by b.length
decreasing_by all_goals (have := segM_len hs; rw [List.length_drop] at this; omega)
def bodyM : List Int → Option (List Int)
 | c :: d :: r => if c ≠ 255 then (bodyM (d :: r)).map (c :: ·) else if d ≠ 0 then (if d = 217 ∧ r = [] then some [] else none) else (bodyM r).map (255 :: ·)
 | _ => none
def byteBits (c : Int) : List Int := (List.range 8).map fun k => c / 2 ^ (7 - k) % 2
def bitsH (B : List Int) : List Int := B.flatMap byteBits
theorem byteBits_len (c : Int) : (byteBits c).length = 8 := by simp [byteBits]
theorem bitsH_len : ∀ B : List Int, (bitsH B).length = 8 * B.length
 | [] => rfl
 | c :: B => by rw [bitsH, List.flatMap_cons, List.length_append, byteBits_len, ← bitsH, bitsH_len B, List.length_cons]; omega
theorem bitsH_get : ∀ {B : List Int} {i : Nat}, i < 8 * B.length → (bitsH B)[i]? = some (bitB true B i)
 | [], i, h => by simp at h
 | c :: B, i, h => by
  rw [bitsH, List.flatMap_cons, ← bitsH]
  rcases Nat.lt_or_ge i 8 with h8 | h8
  ·rw [List.getElem?_append_left (by rw [byteBits_len]; exact h8)]
   unfold byteBits bitB bpos
   rw [List.getElem?_map, List.getElem?_range h8, if_pos rfl, show i / 8 = 0 by omega, show i % 8 = i by omega]
   rfl
  ·rw [List.getElem?_append_right (by rw [byteBits_len]; exact h8), byteBits_len, bitsH_get (by rw [List.length_cons] at h; omega)]
   unfold bitB bpos
   rw [if_pos rfl, if_pos rfl, show i / 8 = (i - 8) / 8 + 1 by omega, show i % 8 = (i - 8) % 8 by omega]
   rfl
theorem bitsH_drop {B : List Int} {i : Nat} (h : i < 8 * B.length) : (bitsH B).drop i = bitB true B i :: (bitsH B).drop (i + 1) := by
 rw [List.drop_eq_getElem_cons (by rw [bitsH_len]; exact h)]
 have := bitsH_get h
 rw [List.getElem?_eq_getElem (by rw [bitsH_len]; exact h)] at this
 rw [Option.some.inj this]
theorem bitsH_end {B : List Int} {i : Nat} (h : 8 * B.length ≤ i) : (bitsH B).drop i = [] := List.drop_eq_nil_of_le (by rw [bitsH_len]; exact h)
def symB (ls : List Int) : Nat → Nat → Int → List Int → Option (Nat × List Int)
 | g + 1, n, v, b :: L => match findM ls (n + 1) (2 * v + b) with
  | some s => some (s, L)
  | none => if begM ls (n + 1) (2 * v + b) then symB ls g (n + 1) (2 * v + b) L else none
 | _, _, _, _ => none
def symJ (ls : List Int) (L : List Int) : Option (Nat × List Int) := symB ls 17 0 0 L
def valB (L : List Int) : Int := L.foldl (fun v b => 2 * v + b) 0
def signM (n : Nat) (v : Int) : Int := if 0 < n ∧ v < 2 ^ (n - 1) then v - 2 ^ n + 1 else v
def numJ (n : Nat) (L : List Int) : Option (Int × List Int) := if L.length < n then none else some (signM n (valB (L.take n)), L.drop n)
def cut16M (v : Int) : Int := min 32767 (max (-32768) v)
abbrev TabJ := List Int × List Int
def acJ (t : TabJ) (k : Nat) (out L : List Int) : Option (List Int × List Int) :=
 if k < 64 then match symJ t.1 L with
  | none => none
  | some (s, L1) =>
   if t.2.getD s 0 = 0 then some (out, L1)
   else if 10 < t.2.getD s 0 % 16 ∨ t.2.getD s 0 % 16 = 0 ∧ t.2.getD s 0 / 16 ≠ 15 ∨ 63 < k + (t.2.getD s 0 / 16).toNat then none
   else if t.2.getD s 0 % 16 = 0 then acJ t (k + (t.2.getD s 0 / 16).toNat + 1) out L1
   else match numJ (t.2.getD s 0 % 16).toNat L1 with
    | none => none
    | some (v, L2) => acJ t (k + (t.2.getD s 0 / 16).toNat + 1) (out.set (zig (k + (t.2.getD s 0 / 16).toNat)) v) L2
 else some (out, L)
termination_by 64 - k
def blockJ (t : TabJ × TabJ) (last : Int) (L : List Int) : Option (List Int × List Int) :=
 match symJ t.1.1 L with
 | none => none
 | some (s, L1) =>
  if 11 < t.1.2.getD s 0 then none
  else match numJ (t.1.2.getD s 0).toNat L1 with
   | none => none
   | some (v, L2) => acJ t.2 1 (zeros64.set 0 (cut16M (last + v))) L2
def blocksJ (T : Nat → TabJ × TabJ) : List (Nat × Nat × Nat) → List Int → List Int → Option (List (List Int) × List Int)
 | [], _, L => some ([], L)
 | p :: ps, la, L => match blockJ (T p.1) (la.getD p.1 0) L with
  | none => none
  | some (x, L1) => match blocksJ T ps (la.set p.1 (x.getD 0 0)) L1 with
   | none => none
   | some (xs, L2) => some (x :: xs, L2)
structure Jim where
 W : Int
 Ht : Int
 half : Bool
 bl : List (List Int)
 st : List (List Int)
def tabsJ (s : Jst) (t : List (Nat × Nat)) (k : Nat) : TabJ × TabJ := ((s.cd.getD (t.getD k (0, 0)).1 none).getD ([], []), (s.cd.getD (t.getD k (0, 0)).2 none).getD ([], []))
def stepsJ (s : Jst) : List (List Int) := (List.range 3).map fun k => (s.st.getD (s.wh.getD k 0) none).getD []
def bodyJ (s : Jst) (t : List (Nat × Nat)) (p : List Int) : Option Jim :=
 if 8 * p.length < (orderM s.W.toNat s.Ht.toNat s.half).length then none
 else match blocksJ (tabsJ s t) (orderM s.W.toNat s.Ht.toNat s.half) [0, 0, 0] (bitsH p) with
  | none => none
  | some (bl, L) => if 8 ≤ L.length then none else some ⟨s.W, s.Ht, s.half, bl, stepsJ s⟩
noncomputable def decJ (b : List Int) : Option Jim :=
 if b.length < 2 ∨ b.getD 0 0 ≠ 255 ∨ b.getD 1 0 ≠ 216 then none
 else match headM (b.drop 2) jst0 with
  | none => none
  | some (s, t, r) => match bodyM r with
   | none => none
   | some p => bodyJ s t p
end Go.Proofs
namespace Go.Proofs
open Go.Sh
variable {H0 H : Heap} {σ : List Rs} {R : Value → Heap → Prop}
def halfB (f : List Int) (v x : Nat) : Int := sumN 8 fun u => f.getD (v * 8 + u) 0 * cM u x
def bakV (f : List Int) (y x : Nat) : Int := sumN 8 fun v => halfB f v x * cM v y
def bakM (f : List Int) : List Int := (List.range 64).map fun i => nearM (bakV f (i / 8) (i % 8))
def Mid (f : List Int) : Prop := f.length = 64 ∧ ∀ i, -8400000 ≤ f.getD i 0 ∧ f.getD i 0 ≤ 8400000
theorem bakM_len (s : List Int) : (bakM s).length = 64 := tab_len _ _
theorem bterm_bd {s : List Int} (h : Mid s) (j u x : Nat) : -34406400000 ≤ s.getD j 0 * cM u x ∧ s.getD j 0 * cM u x ≤ 34406400000 := by
 have := mul_bd (h.2 j) (cM_rng u x); omega
theorem bhalf_part {s : List Int} (h : Mid s) (v x : Nat) {n : Nat} (hn : n ≤ 8) : -275251200000 ≤ sumN n (fun u => s.getD (v * 8 + u) 0 * cM u x) ∧ sumN n (fun u => s.getD (v * 8 + u) 0 * cM u x) ≤ 275251200000 := by
 have := sumN_bd (f := fun u => s.getD (v * 8 + u) 0 * cM u x) (B := 34406400000) n fun x _ => bterm_bd h _ _ _
 omega
theorem bhalf_bd {s : List Int} (h : Mid s) (v x : Nat) : -275251200000 ≤ halfB s v x ∧ halfB s v x ≤ 275251200000 := bhalf_part h v x (Nat.le_refl 8)
theorem gterm_bd {s : List Int} (h : Mid s) (v x y : Nat) : -1127428915200000 ≤ halfB s v x * cM v y ∧ halfB s v x * cM v y ≤ 1127428915200000 := by
 have := mul_bd (bhalf_bd h v x) (cM_rng v y); omega
theorem bak_part {s : List Int} (h : Mid s) (y x : Nat) {n : Nat} (hn : n ≤ 8) : -9019431321600000 ≤ sumN n (fun v => halfB s v x * cM v y) ∧ sumN n (fun v => halfB s v x * cM v y) ≤ 9019431321600000 := by
 have := sumN_bd (f := fun v => halfB s v x * cM v y) (B := 1127428915200000) n fun y _ => gterm_bd h _ _ _
 omega
theorem bak_bd {s : List Int} (h : Mid s) (y x : Nat) : -9019431321600000 ≤ bakV s y x ∧ bakV s y x ≤ 9019431321600000 := bak_part h y x (Nat.le_refl 8)
theorem bakM_rng {s : List Int} (h : Mid s) {i : Nat} (hi : i < 64) : -200000000 ≤ (bakM s).getD i 0 ∧ (bakM s).getD i 0 ≤ 200000000 := by
 have := bak_bd h (i / 8) (i % 8)
 rw [show (bakM s).getD i 0 = nearM (bakV s (i / 8) (i % 8)) from tab_getD hi]
 unfold nearM; omega
theorem near2 {n : Int} (h : -10000000000000000 ≤ n ∧ n ≤ 10000000000000000) (hR : R (.int .i64 (nearM n)) H) : CallsH Try.prog 46 #[.int .i64 n] H R := by
 refine Try.s46 ⟨by decide, ?_⟩
 rw [wrap_id (by omega) (by omega), shr26]
 exact hR
set_option maxHeartbeats 1000000 in
theorem c55 {s : List Int} (h : Mid s) (hR : ∀ H', Ext H H' → R (.agg (ints (bakM s)).toArray) H') : CallsH Try.prog 55 #[.agg (ints s).toArray] H R := by
 have hsl := h.1
 have hcl := cT_len
 refine Try.s55 ?_
 unfold Try.S55
 refine (St.nil H).alc fun b2 H1 hs1 => hs1.alc fun b4 H2 hs2 => c45 fun H3 e3 => ⟨_, rfl, ?_⟩
 refine (hs2.step e3).alc fun b9 H4 hs4 => ⟨by rw [intsA_size]; exact hcl, hs4.putAllA 0 rfl (by rw [hcl]; simp) fun H5 hs5 => hs5.alc fun b12 H6 hs6 => hs6.alc fun b14 H7 hs7 => ?_⟩
 simp only [zeroA, List.set_cons_zero] at hs7
 clear hs1 hs2 hs4 hs5 hs6
 intro X hX
 have hl1 := tab_len 64 fun i => halfB s (i / 8) (i % 8)
 generalize hL1 : (List.range 64).map (fun i => halfB s (i / 8) (i % 8)) = L1 at hl1
 have hg1 : ∀ i, i < 64 → L1.getD i 0 = halfB s (i / 8) (i % 8) := fun i hi => by rw [← hL1]; exact tab_getD hi
 have hlf := bakM_len s
 have two : ∀ H8, St H H8 [.cell b14 (ints (List.replicate 64 0)).toArray 40, .cell b12 (ints L1).toArray 40, .cell b9 (ints cT).toArray 106, .cell b4 (ints (List.replicate 64 0)).toArray 40, .cell b2 (ints s).toArray 40] → X [.int .i64 ((64 : Nat) : Int)] H8 := fun H8 hs8 => by
  refine hX _ H8 (br_n (by omega) ?_)
  intro Y hY
  have go : ∀ i, i ≤ 64 → ∀ H9, St H H9 [.cell b14 (ints (fillA (bakM s) i)).toArray 40, .cell b12 (ints L1).toArray 40, .cell b9 (ints cT).toArray 106, .cell b4 (ints (List.replicate 64 0)).toArray 40, .cell b2 (ints s).toArray 40] → Y [.int .i64 (i : Nat)] H9 := upto fun i hi ih H9 hs9 => by
   refine hY _ H9 (br_dec (fun hlt => ?_) (fun hge => ?_))
   ·have hlt : i < 64 := by omega
    rw [w1 (by omega)]
    intro Z hZ
    have inner : ∀ y, y ≤ 8 → Z [.int .i64 (sumN y fun y => halfB s y (i % 8) * cM y (i / 8)), .int .i64 (y : Nat)] H9 := upto fun y hy ihy => by
     refine hZ _ _ H9 (br_dec (fun hlty => ?_) (fun hgey => ?_))
     ·have hlty : y < 8 := by omega
      rw [ix2 hlt hlty, ix4 (by omega), w1 (by omega)]
      have v1 : L1[y * 8 + i % 8]? = some (halfB s y (i % 8)) := by
       rw [getD_some L1 0 (by omega), hg1 _ (by omega), show (y * 8 + i % 8) / 8 = y from by omega, show (y * 8 + i % 8) % 8 = i % 8 from by omega]
      have v2 : cT[y * 8 + i / 8]? = some (cM y (i / 8)) := cT_get hlty (by omega)
      refine ⟨by decide, by omega, by omega, halfB s y (i % 8), ?_, by decide, by omega, by omega, by omega, by omega, cM y (i / 8), ?_, ?_⟩
      ·rw [add_none, Nat.zero_add, Int.toNat_natCast, Nat.mul_one]; exact hs9.rdA 1 rfl v1
      ·rw [add_none, add_none, Nat.zero_add, Int.toNat_natCast, Int.toNat_natCast, Nat.mul_one]; exact hs9.rdA 2 rfl v2
      ·have t1 := gterm_bd h y (i % 8) (i / 8)
       have t2 := bak_part h (i / 8) (i % 8) (n := y) (by omega)
       rw [wrap_id (n := halfB s y (i % 8) * cM y (i / 8)) (by omega) (by omega), wrap_id (by omega) (by omega)]
       exact ihy hlty
     ·have : y = 8 := by omega
      subst this
      have t2 := bak_bd h (i / 8) (i % 8)
      unfold bakV at t2
      refine near2 (by omega) ⟨_, rfl, by omega, by omega, ?_⟩
      rw [add_none, Nat.zero_add, Int.toNat_natCast, Nat.mul_one]
      refine hs9.putA 0 rfl (by rw [fillA_len (by omega)]; omega) fun H10 hs10 => ih hlt H10 ?_
      have e : nearM (sumN 8 fun y => halfB s y (i % 8) * cM y (i / 8)) = (bakM s).getD i 0 := (tab_getD (f := fun i => nearM (bakV s (i / 8) (i % 8))) hlt).symm
      rw [e, fillA_set (by omega)] at hs10
      exact hs10
    exact inner 0 (by omega)
   ·have : i = 64 := by omega
    subst this
    have e := fillA_all (bakM s)
    rw [hlf] at e
    rw [e] at hs9
    refine ⟨_, by rw [intsA_size]; exact hlf, rowIn_whole (hs9.block 0 rfl), by rw [intsA_size]; exact hlf, ?_⟩
    refine hs9.putAllA 3 rfl (by rw [intsA_size, hlf]; simp) fun H10 hs10 => ?_
    exact ⟨_, by rw [intsA_size]; exact hlf, rowIn_whole (hs10.block 3 rfl), hR H10 hs10.ext⟩
  exact go 0 (by omega) H8 (by rw [fillA_zero, hlf]; exact hs8)
 have go : ∀ i, i ≤ 64 → ∀ H9, St H H9 [.cell b14 (ints (List.replicate 64 0)).toArray 40, .cell b12 (ints (fillA L1 i)).toArray 40, .cell b9 (ints cT).toArray 106, .cell b4 (ints (List.replicate 64 0)).toArray 40, .cell b2 (ints s).toArray 40] → X [.int .i64 (i : Nat)] H9 := upto fun i hi ih H9 hs9 => by
  by_cases hlt : i < 64
  ·refine hX _ H9 (br_y (by omega) ?_)
   rw [w1 (by omega)]
   intro Z hZ
   have inner : ∀ x, x ≤ 8 → ∀ H10, St H H10 [.cell b14 (ints (List.replicate 64 0)).toArray 40, .cell b12 (ints ((fillA L1 i).set i (sumN x fun x => s.getD (i / 8 * 8 + x) 0 * cM x (i % 8)))).toArray 40, .cell b9 (ints cT).toArray 106, .cell b4 (ints (List.replicate 64 0)).toArray 40, .cell b2 (ints s).toArray 40] → Z [.int .i64 (x : Nat)] H10 := upto fun x hx ihx H10 hs10 => by
    refine hZ _ H10 (br_dec (fun hltx => ?_) (fun hgex => ?_))
    ·have hltx : x < 8 := by omega
     rw [ix1 hlt hltx, ix3, w1 (by omega)]
     have v1 := getD_some s 0 (i := i / 8 * 8 + x) (by omega)
     have v2 : cT[x * 8 + i % 8]? = some (cM x (i % 8)) := cT_get hltx (by omega)
     have v0 : ((fillA L1 i).set i (sumN x fun x => s.getD (i / 8 * 8 + x) 0 * cM x (i % 8)))[i]? = some (sumN x fun x => s.getD (i / 8 * 8 + x) 0 * cM x (i % 8)) := List.getElem?_set_self (by rw [fillA_len (by omega)]; omega)
     refine ⟨by omega, by omega, (sumN x fun x => s.getD (i / 8 * 8 + x) 0 * cM x (i % 8)), ?_, by decide, by omega, by omega, s.getD (i / 8 * 8 + x) 0, ?_, by decide, by omega, by omega, by omega, by omega, cM x (i % 8), ?_, by omega, by omega, ?_⟩
     ·rw [add_none, Nat.zero_add, Int.toNat_natCast, Nat.mul_one]; exact hs10.rdA 1 rfl v0
     ·rw [add_none, Nat.zero_add, Int.toNat_natCast, Nat.mul_one]; exact hs10.rdA 4 rfl v1
     ·rw [add_none, add_none, Nat.zero_add, Int.toNat_natCast, Int.toNat_natCast, Nat.mul_one]; exact hs10.rdA 2 rfl v2
     ·have t1 := bterm_bd h (i / 8 * 8 + x) x (i % 8)
      have t2 := bhalf_part h (i / 8) (i % 8) (n := x) (by omega)
      rw [wrap_id (n := s.getD (i / 8 * 8 + x) 0 * cM x (i % 8)) (by omega) (by omega), wrap_id (by omega) (by omega), add_none, Nat.zero_add, Int.toNat_natCast, Nat.mul_one]
      refine hs10.putA 1 rfl (by rw [List.length_set, fillA_len (by omega)]; omega) fun H11 hs11 => ihx hltx H11 ?_
      simp only [List.set_set, List.set_cons_succ, List.set_cons_zero] at hs11
      exact hs11
    ·have : x = 8 := by omega
     subst this
     refine ih hlt H10 ?_
     have e : (sumN 8 fun x => s.getD (i / 8 * 8 + x) 0 * cM x (i % 8)) = L1.getD i 0 := by rw [hg1 i hlt]; rfl
     rw [e, fillA_set (by omega)] at hs10
     exact hs10
   refine inner 0 (by omega) H9 ?_
   rw [sumN, fillA_set0 (by omega)]; exact hs9
  ·have : i = 64 := by omega
   subst this
   have e := fillA_all L1
   rw [hl1] at e
   rw [e] at hs9
   exact two H9 hs9
 exact go 0 (by omega) H7 (by rw [fillA_zero, hl1]; exact hs7)
def colourM (y b r : Int) (k : Nat) : Int := match k with
 | 0 => cutM (y + (91881 * (r - 128) + 32768) / 65536)
 | 1 => cutM (y - (22554 * (b - 128) + 46802 * (r - 128) + 32768) / 65536)
 | _ => cutM (y + (116130 * (b - 128) + 32768) / 65536)
def colourL (y b r : Int) : List Int := [colourM y b r 0, colourM y b r 1, colourM y b r 2]
theorem c56 {y b r : Int} (hy : 0 ≤ y ∧ y < 256) (hb : 0 ≤ b ∧ b < 256) (hr : 0 ≤ r ∧ r < 256) (hR : ∀ H', Ext H H' → R (.agg (ints (colourL y b r)).toArray) H') :
    CallsH Try.prog 56 #[.agg #[.int .i64 y, .int .i64 b, .int .i64 r]] H R := by
  refine Try.s56 ?_
  unfold Try.S56
  refine (St.nil H).alc fun b2 H1 hs1 => hs1.alc fun b4 H2 hs2 => ?_
  refine ⟨by decide, by decide, y, hs2.get 1 rfl rfl, by decide, by decide, b, hs2.get 1 (j := 1) rfl rfl, by decide, by decide, r, hs2.get 1 (j := 2) rfl rfl, by decide, ?_⟩
  rw [wrap_id (n := r - 128) (by omega) (by omega), wrap_id (n := b - 128) (by omega) (by omega), wrap_id (n := 91881 * (r - 128)) (by omega) (by omega), wrap_id (n := 91881 * (r - 128) + 32768) (by omega) (by omega), shr16, wrap_id (n := y + (91881 * (r - 128) + 32768) / 65536) (by omega) (by omega)]
  refine c66 ⟨_, rfl, by decide, ?_⟩
  rw [wrap_id (n := 22554 * (b - 128)) (by omega) (by omega), wrap_id (n := 46802 * (r - 128)) (by omega) (by omega), wrap_id (n := 22554 * (b - 128) + 46802 * (r - 128)) (by omega) (by omega), wrap_id (n := 22554 * (b - 128) + 46802 * (r - 128) + 32768) (by omega) (by omega), shr16, wrap_id (n := y - (22554 * (b - 128) + 46802 * (r - 128) + 32768) / 65536) (by omega) (by omega)]
  refine c66 ⟨_, rfl, by decide, ?_⟩
  rw [wrap_id (n := 116130 * (b - 128)) (by omega) (by omega), wrap_id (n := 116130 * (b - 128) + 32768) (by omega) (by omega), shr16, wrap_id (n := y + (116130 * (b - 128) + 32768) / 65536) (by omega) (by omega)]
  refine c66 ⟨_, rfl, rfl, ?_⟩
  refine hs2.putAllA 0 (l := colourL y b r) rfl rfl fun H3 hs3 => ?_
  exact ⟨_, rfl, rowIn_whole (hs3.block 0 rfl), hR H3 hs3.ext⟩
end Go.Proofs
namespace Go.Proofs
open Go.Sh
def Has (B : List Int) (a : Nat) (ws : List Int) : Prop := a + ws.length ≤ 8 * B.length ∧ ∀ i : Nat, i < ws.length → bitB false B (a + i) = ws.getD i 0
theorem Has.of {ws B : List Int} (h : WOk false ws B) : Has B 0 ws := ⟨by have := h.len; omega, fun i hi => by rw [Nat.zero_add]; exact h.bit i⟩
theorem Has.app {B x y : List Int} {a : Nat} (h : Has B a (x ++ y)) : Has B a x ∧ Has B (a + x.length) y := by
 obtain ⟨h1, h2⟩ := h
 rw [List.length_append] at h1
 refine ⟨⟨by omega, fun i hi => ?_⟩, ⟨by omega, fun i hi => ?_⟩⟩
 ·rw [h2 i (by rw [List.length_append]; omega), gD_left _ _ _ _ hi]
 ·rw [Nat.add_assoc, h2 (x.length + i) (by rw [List.length_append]; omega), gD_right _ _ _ _ (by omega), Nat.add_sub_cancel_left]
theorem bitsOf_get {hi : Bool} {v : Int} {n k : Nat} (hk : k < n) : (bitsOf hi v n).getD k 0 = v / 2 ^ (if hi then n - 1 - k else k) % 2 := by
 apply gD_get
 simp [bitsOf, hk]
end Go.Proofs
namespace Go.Proofs
open Go.Sh
theorem wdiv8 (n : Nat) (h : n ≤ 1000000000000) : IntKind.wrap .i64 (Int.tdiv (n : Int) (8 : Int)) = ((n / 8 : Nat) : Int) := by
 rw [Int.tdiv_eq_ediv_of_nonneg (by omega), wrap_id (by omega) (by omega)]; omega
theorem tmod8 (n : Nat) : Int.tmod (n : Int) (8 : Int) = ((n % 8 : Nat) : Int) := by rw [Int.tmod_eq_emod_of_nonneg (by omega)]; omega
theorem c65 {H : Heap} {n : Nat} {hi : Bool} {R : Value → Heap → Prop} (hR : R (.int .i64 (bpos hi n)) H) : CallsH Try.prog 65 #[.int .i64 n, .bool hi] H R := by
 refine Try.s65 ?_
 unfold Try.S65
 rw [tmod8]
 unfold bpos at hR
 refine br_i (fun h => ⟨by decide, ?_⟩) (fun h => ⟨by decide, ?_⟩)
 ·subst h
  rw [if_pos rfl] at hR
  rw [wrap_id (by omega) (by omega), show ((7 : Int) - ((n % 8 : Nat) : Int)) = ((7 - n % 8 : Nat) : Int) from by omega]
  exact hR
 ·subst h
  rw [if_neg (by decide)] at hR
  exact hR
def wrR (b : Nat) (hi : Bool) (ws : List Int) : Rs :=
 .ex fun (x : Option Addr × Nat × Nat × List Int) => .pu (WOk hi ws x.2.2.2 ∧ ws.length ≤ 1000000000) (.star (.cell b #[.slice x.1 x.2.1 x.2.2.1, .int .i64 ws.length, .bool hi] 101) (.sl x.1 x.2.1 x.2.2.1 5 1 (kints .u8 x.2.2.2)))
variable {H0 H : Heap} {σ : List Rs} {R : Value → Heap → Prop}
theorem wrR_mk {b : Nat} {hi : Bool} {ws : List Int} {p : Option Addr} {l c : Nat} {B : List Int} (ok : WOk hi ws B) (hl : ws.length ≤ 1000000000) (hs : St H0 H (.cell b #[.slice p l c, .int .i64 ws.length, .bool hi] 101 :: .sl p l c 5 1 (kints .u8 B) :: σ)) : St H0 H (wrR b hi ws :: σ) :=
 St.inex (f := fun (x : Option Addr × Nat × Nat × List Int) => .pu (WOk hi ws x.2.2.2 ∧ ws.length ≤ 1000000000) (.star (.cell b #[.slice x.1 x.2.1 x.2.2.1, .int .i64 ws.length, .bool hi] 101) (.sl x.1 x.2.1 x.2.2.1 5 1 (kints .u8 x.2.2.2)))) (p, l, c, B) (St.with ⟨ok, hl⟩ hs.cat)
theorem wrR_op {b : Nat} {hi : Bool} {ws : List Int} (hs : St H0 H (wrR b hi ws :: σ)) : ∃ p l c B, WOk hi ws B ∧ ws.length ≤ 1000000000 ∧ l = B.length ∧ St H0 H (.cell b #[.slice p l c, .int .i64 ws.length, .bool hi] 101 :: .sl p l c 5 1 (kints .u8 B) :: σ) := by
 obtain ⟨⟨p, l, c, B⟩, hs⟩ := hs.unex
 obtain ⟨⟨ok, hl⟩, hs⟩ := hs.fact
 have := (hs.cut.is 1 rfl).length
 exact ⟨p, l, c, B, ok, hl, this.symm, hs.cut⟩
theorem c18 (hs : St H0 H σ) {hi : Bool} (hR : ∀ b H', St H0 H' (wrR b hi [] :: σ) → R (.pointer (some ⟨b, 0, none⟩)) H') : CallsH Try.prog 18 #[.bool hi] H R := by
 refine Try.s18 ?_
 unfold Try.S18
 exact hs.alc fun b H' hs => hR b H' (wrR_mk (WOk.nil hi) (by simp) ((hs.nilSl 5 1).swap))
theorem c41 (hs : St H0 H σ) {i b : Nat} {hi : Bool} {ws : List Int} (hi' : σ[i]? = some (wrR b hi ws)) (hl : ws.length < 1000000000) {v : Int}
    (hR : ∀ H', St H0 H' (σ.set i (wrR b hi (ws ++ [v % 2]))) → R (.tuple #[]) H') : CallsH Try.prog 41 #[.pointer (some ⟨b, 0, none⟩), .int .i64 v] H R := by
  obtain ⟨p, l, c, B, ok, _, hlB, hs⟩ := wrR_op (hs.front i hi')
  refine Try.s41 ?_
  unfold Try.S41
  intro J hJ
  have hB := ok.len
  have fin : ∀ H' p l c C, C = (if ws.length % 8 = 0 then B ++ [0] else B) → St H0 H' (.cell b #[.slice p l c, .int .i64 ws.length, .bool hi] 101 :: .sl p l c 5 1 (kints .u8 C) :: σ.eraseIdx i) → J [] H' := by
    intro H' p l c C hC hs
    obtain ⟨x, hx, x0, x1, ok'⟩ := ok.put (b := v % 2) (by omega) hC
    have hCl := (List.getElem?_eq_some_iff.1 hx).1
    have hlC := (hs.is 1 rfl).length
    obtain ⟨blk, hp⟩ := hs.slSome 1 rfl (j := ws.length / 8) (by rw [kints_len]; exact hCl)
    subst hp
    refine hJ H' ⟨_, rfl, _, l, c, hs.get 0 rfl rfl, _, rfl, ws.length, hs.get 0 (j := 1) rfl rfl, by decide, ?_⟩
    rw [wdiv8 _ (by omega), Int.toNat_natCast]
    have hg := (hs.is 1 rfl).rd (i := ((ws.length / 8 : Nat) : Int)) (by omega) (by omega) (by rw [Int.toNat_natCast]; exact hx) (K := fun y => y = x) rfl
    rw [Int.toNat_natCast] at hg
    obtain ⟨a, ha, g0, g1, y, g2, rfl⟩ := hg
    cases ha
    refine ⟨_, rfl, by omega, by omega, y, g2, _, rfl, ws.length, hs.get 0 (j := 1) rfl rfl, _, rfl, hi, hs.get 0 (j := 2) rfl rfl, c65 ⟨_, rfl, .inl (Ext.refl _), by omega, _, rfl, by omega, by omega, ?_⟩⟩
    rw [andI_1, add_none, Nat.zero_add, Nat.mul_one]
    refine hs.slPut 1 rfl (by rw [kints_len]; exact hCl) rfl fun H2 hs => ⟨_, rfl, ws.length, hs.get 0 (j := 1) rfl rfl, _, rfl, ?_⟩
    rw [add_none, Nat.zero_add, wrap_id (by omega) (by omega)]
    refine hs.put 0 rfl (by simp) rfl fun H3 hs => hR H3 (St.back hi' (wrR_mk (p := some ⟨blk, 0, none⟩) (l := l) (c := c) ok' (by simp; omega) ?_))
    rw [wrap_u8 (by omega) (by omega), List.set_cons_succ, List.set_cons_zero, kints_set] at hs
    have e : (#[Value.slice (some ⟨blk, 0, none⟩) l c, .int .i64 (ws.length : Int), .bool hi] : Array Value).setIfInBounds 1 (.int .i64 ((ws.length : Int) + 1)) = #[Value.slice (some ⟨blk, 0, none⟩) l c, .int .i64 (((ws ++ [v % 2]).length : Nat) : Int), .bool hi] := by simp
    rw [List.set_cons_zero, e] at hs
    exact hs
  refine ⟨_, rfl, ws.length, hs.get 0 (j := 1) rfl rfl, by decide, ?_⟩
  rw [tmod8]
  refine br_eq (fun h8 => ?_) (fun h8 => fin H p l c B (by rw [if_neg (by omega)]) hs)
  refine ⟨_, rfl, p, l, c, hs.get 0 rfl rfl, hs.alc fun b2 H2 hs => ?_⟩
  refine hs.appC 2 0 (el := 5) (k := 1) rfl rfl rfl (one1 rfl) (by decide) rfl (by omega) (by omega) fun p' c' H3 hs => ⟨_, rfl, ?_⟩
  refine hs.put 1 rfl (by simp) rfl fun H4 hs => ?_
  exact fin H4 p' (l + 1) c' (B ++ [0]) (by rw [if_pos (by omega)]) (by rw [kints_append]; exact hs.tail)
theorem setset (σ : List Rs) (i : Nat) (r s : Rs) : (σ.set i r).set i s = σ.set i s := List.set_set _
theorem setget {σ : List Rs} {i : Nat} {r : Rs} (h : σ[i]? = some r) (s : Rs) : (σ.set i s)[i]? = some s := List.getElem?_set_self (List.getElem?_eq_some_iff.1 h).1
theorem wrR_len (hs : St H0 H σ) {i b : Nat} {hi : Bool} {ws : List Int} (hi' : σ[i]? = some (wrR b hi ws)) : ws.length ≤ 1000000000 := by
 obtain ⟨_, _, _, _, _, h, _⟩ := wrR_op (hs.front i hi'); exact h
theorem c19 (hs : St H0 H σ) {i b : Nat} {hi : Bool} {ws : List Int} (hi' : σ[i]? = some (wrR b hi ws)) {v n : Int} (hl : ws.length + n.toNat ≤ 1000000000)
    (hbad : ¬ (0 ≤ n ∧ n ≤ 24 ∧ 0 ≤ v ∧ v < 2 ^ n.toNat) → R (.bool false) H)
    (hR : (0 ≤ n ∧ n ≤ 24 ∧ 0 ≤ v ∧ v < 2 ^ n.toNat) → ∀ H', St H0 H' (σ.set i (wrR b hi (ws ++ bitsOf hi v n.toNat))) → R (.bool true) H') : CallsH Try.prog 19 #[.pointer (some ⟨b, 0, none⟩), .int .i64 v, .int .i64 n] H R := by
  refine Try.s19 ?_
  unfold Try.S19
  intro J hJ
  refine br_dec (fun h => hbad (by omega)) (fun n0 => br_dec (fun h => hbad (by omega)) (fun n1 => br_dec (fun h => hbad (by omega)) (fun v0 => ⟨by omega, ?_⟩)))
  obtain ⟨m, rfl⟩ := Int.eq_ofNat_of_zero_le (show 0 ≤ n by omega)
  rw [Int.toNat_natCast] at *
  have hp : (2 : Int) ^ m ≤ 2 ^ 24 := pow_le (by omega)
  have e24 : (2 : Int) ^ 24 = 16777216 := by decide
  rw [shl_of (by omega) (by omega) (by omega), Int.one_mul]
  refine br_dec (fun h => hbad (by omega)) (fun v1 => hJ H ?_)
  have hR := hR ⟨by omega, by omega, by omega, by omega⟩
  intro X hX
  have go : ∀ k, k ≤ m → ∀ H', St H0 H' (σ.set i (wrR b hi (ws ++ (bitsOf hi v m).take k))) → X [.int .i64 k] H' := upto fun k hk ih H' hs => by
    refine hX _ H' (br_dec (fun hlt => ?_) (fun hge => ?_))
    · have hlt : k < m := by omega
      intro J2 hJ2
      have hwl := wrR_len hs (setget hi' _)
      rw [List.length_append, List.length_take, bitsOf_len] at hwl
      have nx : ∀ j : Nat, j = (if hi then m - 1 - k else k) → J2 [.int .i64 j] H' := fun j hj => by
        refine hJ2 _ H' ⟨by omega, ?_⟩
        have hj62 : j ≤ 62 := by rw [hj]; split <;> omega
        rw [shr_of _ hj62]
        refine c41 hs (setget hi' _) (by rw [List.length_append, List.length_take, bitsOf_len]; omega) fun H2 hs => ⟨rfl, ?_⟩
        rw [wrap_id (by omega) (by omega)]
        refine ih hlt H2 ?_
        rw [setset] at hs
        have : (bitsOf hi v m).take (k + 1) = (bitsOf hi v m).take k ++ [v / 2 ^ j % 2] := by
          rw [List.take_add_one]
          congr 1
          simp [bitsOf, hlt, hj]
        rw [this, ← List.append_assoc]; exact hs
      obtain ⟨p, l, c, B, _, _, _, hs2⟩ := wrR_op (hs.front i (setget hi' _))
      refine ⟨_, rfl, hi, hs2.get 0 (j := 2) rfl rfl, br_i (fun hh => ?_) (fun hh => ?_)⟩
      · rw [wrap_id (n := (m : Int) - 1) (by omega) (by omega), wrap_id (n := (m : Int) - 1 - k) (by omega) (by omega)]
        have := nx (m - 1 - k) (by rw [if_pos hh])
        rw [show ((m - 1 - k : Nat) : Int) = (m : Int) - 1 - k from by omega] at this
        exact this
      · exact nx k (by rw [if_neg (by rw [hh]; decide)])
    · have : k = m := by omega
      subst this
      refine hR H' ?_
      rw [List.take_of_length_le (by rw [bitsOf_len]; omega)] at hs
      exact hs
  refine go 0 (by omega) H ?_
  rw [List.take_zero, List.append_nil]
  obtain ⟨h1, h2⟩ := List.getElem?_eq_some_iff.1 hi'
  rw [← h2, List.set_getElem_self]; exact hs
end Go.Proofs
namespace Go.Proofs
open Go.Sh
variable {H0 H : Heap} {σ : List Rs} {R : Value → Heap → Prop}
theorem clone_of {ty : TypeId} {bytes : Nat} {zero : Array Value} {p : Option Addr} {l : Nat} {k : IntKind} {xs : List Int} (h : IS H p l (kints k xs)) (hl : l * bytes ≤ 70368744177664) (hm : l ≤ 1000000000000) (hz : zero.size = 1)
    (hR : ∀ q m H', St H H' [.sl q l m ty 1 (kints k xs)] → R (.slice q l m) H') :
    br (Option.isNone p) (R (.slice none 0 0) H) (alc H (.cells #[] ty) fun b H1 => appQ 1 bytes zero H1 (some ⟨b, 0, none⟩) 0 0 p l ty fun ap al ac H2 => R (.slice ap al ac) H2) := by
  have hs := St.nil H
  refine br_none (fun hp => ?_) (fun a hp => ?_)
  · subst hp
    have hx : xs = [] := List.eq_nil_iff_forall_not_mem.2 fun v hv => by
      obtain ⟨i, hi⟩ := List.getElem?_of_mem hv
      obtain ⟨a, h1, _⟩ := h.get i _ (kints_get hi)
      cases h1
    have hl0 : l = 0 := by have := h.length; rw [hx] at this; exact this.symm
    subst hx hl0
    exact hR none 0 H (hs.nilSl ty 1)
  · refine hs.alc fun b H1 hs => ?_
    have hs : St H H1 [.sl (some ⟨b, 0, none⟩) 0 0 ty 1 []] := hs.toSl 0 rfl rfl rfl (by simp)
    refine hs.appI 0 rfl (h.ext hs.ext) (kints_one k xs) hz (by rw [Nat.zero_add]; exact hl) (by omega) fun p' c' H2 hs => ?_
    rw [Nat.zero_add] at hs ⊢
    exact hR p' c' H2 hs
theorem c42 {p : Option Addr} {l c : Nat} {xs : List Int} (h : IS H p l (kints .u8 xs)) (hl : l ≤ 1000000000000)
    (hR : ∀ q m H', St H H' [.sl q l m 5 1 (kints .u8 xs)] → R (.slice q l m) H') : CallsH Try.prog 42 #[.slice p l c] H R :=
  Try.s42 (clone_of h (by omega) (by omega) rfl hR)
def fillM (ws : List Int) (v : Int) : List Int := ws ++ List.replicate ((8 - ws.length % 8) % 8) (v % 2)
theorem c20 (hs : St H0 H σ) {i b : Nat} {hi : Bool} {ws : List Int} (hi' : σ[i]? = some (wrR b hi ws)) (hl : ws.length < 999999990) {v : Int}
    (hR : ∀ H', St H0 H' (σ.set i (wrR b hi (fillM ws v))) → R (.tuple #[]) H') : CallsH Try.prog 20 #[.pointer (some ⟨b, 0, none⟩), .int .i64 v] H R := by
  refine Try.s20 ?_
  unfold Try.S20
  intro X hX
  have go : ∀ k, k ≤ (8 - ws.length % 8) % 8 → ∀ H', St H0 H' (σ.set i (wrR b hi (ws ++ List.replicate k (v % 2)))) → X [] H' := upto fun k hk ih H' hs => by
    obtain ⟨p, l, c, B, _, _, _, hs2⟩ := wrR_op (hs.front i (setget hi' _))
    refine hX H' ⟨_, rfl, _, hs2.get 0 (j := 1) rfl rfl, by decide, ?_⟩
    rw [tmod8, List.length_append, List.length_replicate]
    refine br_ne (fun hne => ?_) (fun he => ?_)
    · refine c41 hs (setget hi' _) (by rw [List.length_append, List.length_replicate]; omega) fun H2 hs => ⟨rfl, ih (by omega) H2 ?_⟩
      rw [setset] at hs
      rw [List.replicate_succ', ← List.append_assoc]; exact hs
    · have : k = (8 - ws.length % 8) % 8 := by omega
      subst this
      exact hR H' hs
  refine go 0 (by omega) H ?_
  rw [List.replicate_zero, List.append_nil]
  obtain ⟨h1, h2⟩ := List.getElem?_eq_some_iff.1 hi'
  rw [← h2, List.set_getElem_self]; exact hs
theorem c21 (hs : St H0 H σ) {i b : Nat} {hi : Bool} {ws : List Int} (hi' : σ[i]? = some (wrR b hi ws))
    (hR : ∀ q l m B H', WOk hi ws B → l = B.length → St H0 H' (.sl q l m 5 1 (kints .u8 B) :: σ) → R (.slice q l m) H') : CallsH Try.prog 21 #[.pointer (some ⟨b, 0, none⟩)] H R := by
  obtain ⟨p, l, c, B, ok, hw, hl, hs2⟩ := wrR_op (hs.front i hi')
  have := ok.len
  refine Try.s21 ⟨_, rfl, _, _, _, hs2.get 0 rfl rfl, c42 (hs2.is 1 rfl) (by omega) fun q m H' hs' => ⟨_, _, _, rfl, hR q l m B H' ok hl (hs.call hs')⟩⟩
def rdR (b : Nat) (B : List Int) (at_ : Nat) (hi : Bool) : Rs :=
 .ex fun (x : Option Addr × Nat) => .pu (at_ ≤ 8 * B.length ∧ B.length ≤ 1000000000 ∧ ∀ x ∈ B, 0 ≤ x ∧ x < 256) (.star (.cell b #[.slice x.1 B.length x.2, .int .i64 at_, .bool hi] 112) (.sl x.1 B.length x.2 5 1 (kints .u8 B)))
theorem rdR_mk {b at_ c : Nat} {B : List Int} {hi : Bool} {p : Option Addr} (h1 : at_ ≤ 8 * B.length) (h2 : B.length ≤ 1000000000) (h3 : ∀ x ∈ B, 0 ≤ x ∧ x < 256)
    (hs : St H0 H (.cell b #[.slice p B.length c, .int .i64 at_, .bool hi] 112 :: .sl p B.length c 5 1 (kints .u8 B) :: σ)) : St H0 H (rdR b B at_ hi :: σ) :=
  St.inex (f := fun (x : Option Addr × Nat) => .pu (at_ ≤ 8 * B.length ∧ B.length ≤ 1000000000 ∧ ∀ x ∈ B, 0 ≤ x ∧ x < 256) (.star (.cell b #[.slice x.1 B.length x.2, .int .i64 at_, .bool hi] 112) (.sl x.1 B.length x.2 5 1 (kints .u8 B)))) (p, c) (St.with ⟨h1, h2, h3⟩ hs.cat)
theorem rdR_op {b at_ : Nat} {B : List Int} {hi : Bool} (hs : St H0 H (rdR b B at_ hi :: σ)) : ∃ p c, at_ ≤ 8 * B.length ∧ B.length ≤ 1000000000 ∧ (∀ x ∈ B, 0 ≤ x ∧ x < 256) ∧
    St H0 H (.cell b #[.slice p B.length c, .int .i64 at_, .bool hi] 112 :: .sl p B.length c 5 1 (kints .u8 B) :: σ) := by
  obtain ⟨⟨p, c⟩, hs⟩ := hs.unex
  obtain ⟨⟨h1, h2, h3⟩, hs⟩ := hs.fact
  exact ⟨p, c, h1, h2, h3, hs.cut⟩
theorem c30 {p : Option Addr} {l c : Nat} {B : List Int} {hi : Bool} (h : IS H p l (kints .u8 B)) (hl : l ≤ 1000000000) (hB : ∀ x ∈ B, 0 ≤ x ∧ x < 256)
    (hR : ∀ b H', St H H' [rdR b B 0 hi] → R (.pointer (some ⟨b, 0, none⟩)) H') : CallsH Try.prog 30 #[.slice p l c, .bool hi] H R := by
  have hBl := h.length
  subst hBl
  exact Try.s30 (c42 h (by omega) fun q m H' hs => ⟨_, _, _, rfl, hs.alc fun b H2 hs => hR b H2 (rdR_mk (Nat.zero_le _) hl hB hs)⟩)
theorem c32 (hs : St H0 H σ) {i b at_ : Nat} {B : List Int} {hi : Bool} (hi' : σ[i]? = some (rdR b B at_ hi)) (hR : R (.int .i64 ((8 * B.length - at_ : Nat) : Int)) H) :
    CallsH Try.prog 32 #[.pointer (some ⟨b, 0, none⟩)] H R := by
  obtain ⟨p, c, h1, h2, h3, hs2⟩ := rdR_op (hs.front i hi')
  refine Try.s32 ⟨_, rfl, _, _, _, hs2.get 0 rfl rfl, _, rfl, _, hs2.get 0 (j := 1) rfl rfl, ?_⟩
  rw [wrap_id (n := (8 : Int) * (B.length : Int)) (by omega) (by omega), wrap_id (by omega) (by omega), show (8 : Int) * (B.length : Int) - at_ = ((8 * B.length - at_ : Nat) : Int) from by omega]
  exact hR
theorem numB_snoc {hi : Bool} {B : List Int} {a k : Nat} (hk : k < 24) : (if hi then orI .i64 (shlI .i64 (numB hi B a k) (1 : Int)) (bitB hi B (a + k)) else orI .i64 (numB hi B a k) (shlI .i64 (bitB hi B (a + k)) (k : Int))) = numB hi B a (k + 1) := by
 have h := numB_rng hi B a k
 have hp : (2 : Int) ^ k ≤ 2 ^ 24 := pow_le (by omega)
 have e24 : (2 : Int) ^ 24 = 16777216 := by decide
 rw [numB]
 have hb : 0 ≤ bitB hi B (a + k) ∧ bitB hi B (a + k) < 2 := by rcases bitB_rng hi B (a + k) with h | h <;> omega
 split
 ·have h1 : shlI .i64 (numB hi B a k) (1 : Int) = numB hi B a k * 2 ^ 1 := shl_of (k := 1) h.1 (by omega) (by omega)
  rw [h1, or_sum' (k := 1) hb.1 (by omega) h.1 (by omega)]
  omega
 ·have h2 : bitB hi B (a + k) * 2 ^ k ≤ 1 * 2 ^ k := Int.mul_le_mul_of_nonneg_right (by omega) (by have := two_pow_pos k; omega)
  rw [shl_of hb.1 (by omega) (by omega), or_sum h.1 h.2 hb.1 (by omega)]
theorem c69 (hs : St H0 H σ) {i b at_ : Nat} {B : List Int} {hi : Bool} (hi' : σ[i]? = some (rdR b B at_ hi)) {n : Int}
    (hbad : ¬ (0 ≤ n ∧ n ≤ 24 ∧ at_ + n ≤ 8 * B.length) → R (.tuple #[.int .i64 0, .bool false]) H)
    (hR : (0 ≤ n ∧ n ≤ 24 ∧ at_ + n ≤ 8 * B.length) → ∀ H', St H0 H' (σ.set i (rdR b B (at_ + n.toNat) hi)) → R (.tuple #[.int .i64 (numB hi B at_ n.toNat), .bool true]) H') :
    CallsH Try.prog 69 #[.pointer (some ⟨b, 0, none⟩), .int .i64 n] H R := by
  obtain ⟨_, _, h1, h2, h3, _⟩ := rdR_op (hs.front i hi')
  refine Try.s69 ?_
  unfold Try.S69
  intro J hJ
  refine br_dec (fun h => hbad (by omega)) (fun n0 => br_dec (fun h => hbad (by omega)) (fun n1 => c32 hs hi' ⟨_, rfl, br_dec (fun h => hbad (by omega)) (fun n2 => hJ H ?_)⟩))
  obtain ⟨m, rfl⟩ := Int.eq_ofNat_of_zero_le (show 0 ≤ n by omega)
  have hR := hR ⟨by omega, by omega, by omega⟩
  rw [Int.toNat_natCast] at hR
  intro X hX
  have go : ∀ k, k ≤ m → ∀ H', St H0 H' (σ.set i (rdR b B (at_ + k) hi)) → X [.int .i64 (numB hi B at_ k), .int .i64 k] H' := upto fun k hk ih H' hs => by
    refine hX _ _ H' (br_dec (fun hlt => ?_) (fun hge => ?_))
    · have hlt : k < m := by omega
      obtain ⟨p, c, g1, g2, g3, hs2⟩ := rdR_op (hs.front i (setget hi' _))
      refine ⟨_, rfl, _, _, _, hs2.get 0 rfl rfl, _, rfl, _, hs2.get 0 (j := 1) rfl rfl, by decide, ?_⟩
      rw [wdiv8 _ (by omega)]
      have hg := (hs2.is 1 rfl).rd (i := (((at_ + k) / 8 : Nat) : Int)) (by omega) (by omega) (by rw [Int.toNat_natCast]; exact get_gD _ 0 (by omega)) (K := fun y => y = B.getD ((at_ + k) / 8) 0) rfl
      obtain ⟨a, ha, q0, q1, y, q2, rfl⟩ := hg
      have hyr := getD_rng g3 ((at_ + k) / 8)
      refine ⟨a, ha, q0, q1, _, q2, _, rfl, _, hs2.get 0 (j := 1) rfl rfl, _, rfl, _, hs2.get 0 (j := 2) rfl rfl, c65 ⟨_, rfl, .inl (Ext.refl _), by omega, ?_⟩⟩
      have hbit : andI .i64 (IntKind.wrap .i64 (shrI .u8 (B.getD ((at_ + k) / 8) 0) ((bpos hi (at_ + k) : Nat) : Int))) (1 : Int) = bitB hi B (at_ + k) := by
        have := bpos_lt hi (at_ + k)
        have hd0 := Int.ediv_nonneg hyr.1 (Int.le_of_lt (two_pow_pos (bpos hi (at_ + k))))
        have hd1 := Int.ediv_le_self (2 ^ bpos hi (at_ + k)) hyr.1
        rw [shr8_of _ (by omega), wrap_id (by omega) (by omega), andI_1]
        rfl
      rw [hbit]
      intro J2 hJ2
      have nx : J2 [.int .i64 (numB hi B at_ (k + 1))] H' := by
        refine hJ2 _ H' ⟨_, rfl, _, hs2.get 0 (j := 1) rfl rfl, _, rfl, ?_⟩
        rw [wrap_id (by omega) (by omega), wrap_id (by omega) (by omega)]
        refine hs2.put 0 rfl (by simp) rfl fun H2 hs3 => ih hlt H2 ?_
        have := St.back (setget hi' _) (rdR_mk (p := p) (c := c) (at_ := at_ + (k + 1)) (hi := hi) (by omega) g2 g3 hs3)
        rw [setset] at this; exact this
      have hn := numB_snoc (hi := hi) (B := B) (a := at_) (k := k) (by omega)
      refine ⟨_, rfl, _, hs2.get 0 (j := 2) rfl rfl, br_i (fun hh => ⟨by decide, ?_⟩) (fun hh => ⟨by omega, ?_⟩)⟩
      · rw [if_pos hh] at hn; rw [hn]; exact nx
      · rw [if_neg (by rw [hh]; decide)] at hn; rw [hn]; exact nx
    · have : k = m := by omega
      subst this
      exact hR H' hs
  refine go 0 (by omega) H ?_
  obtain ⟨h1, h2⟩ := List.getElem?_eq_some_iff.1 hi'
  rw [Nat.add_zero, ← h2, List.set_getElem_self]; exact hs
end Go.Proofs
namespace Go.Proofs
open Go.Sh
variable {H0 H : Heap} {σ : List Rs} {R : Value → Heap → Prop}
def decR (d : Nat) (ls : List Int) (P : List (Nat × Int)) (F : List Int) : Rs :=
 .ex fun (x : Option Addr × Nat) => .pu (OkC ls ∧ P.length ≤ 5000 ∧ Trie ls (· < ls.length) (· < ls.length) P F) (.star (.cell d #[.slice x.1 P.length x.2] 149) (.sl x.1 P.length x.2 150 2 (ints F)))
theorem decR_use {d : Nat} {ls F : List Int} {P : List (Nat × Int)} (hs : St H0 H σ) {j : Nat} (hj : σ[j]? = some (decR d ls P F)) : ∃ q k, OkC ls ∧ P.length ≤ 5000 ∧ Trie ls (· < ls.length) (· < ls.length) P F ∧ H[d]? = some (.cells #[.slice q P.length k] 149) ∧ RS H q P.length 150 2 (ints F) := by
 obtain ⟨⟨q, k⟩, hs⟩ := (hs.front j hj).unex
 obtain ⟨⟨h1, h2, h3⟩, hs⟩ := hs.fact
 have hs := hs.cut
 exact ⟨q, k, h1, h2, h3, hs.block 0 rfl, hs.rs 1 rfl⟩
theorem newDecR {p : Option Addr} {l c : Nat} {ls : List Int} (h : IS H p l (ints ls)) (hbad : ¬ OkC ls → R (.tuple #[.pointer none, .bool false]) H)
    (hgood : OkC ls → ∀ H' b P F, St H H' [decR b ls P F] → R (.tuple #[.pointer (some ⟨b, 0, none⟩), .bool true]) H') : CallsH Try.prog 68 #[.slice p l c] H R :=
  newDec h hbad fun ok H' b q L k P F hb hd fs hP hL t e => hgood ok H' b P F (by
    subst hP
    have hs : St H H' [.sl q P.length k 150 2 (ints F)] := (St.nil H).newSl e fs
    have hs2 : St H H' [.cell b #[.slice q P.length k] 149, .sl q P.length k 150 2 (ints F)] := by
      obtain ⟨he, fps, hl, hn, hbb⟩ := hs
      match fps, hl with
      | fp :: [], hl =>
        refine ⟨he, [b] :: fp :: [], ⟨⟨rfl, hd⟩, hl⟩, ?_, ?_⟩
        · simp only [List.flatten_cons, List.flatten_nil, List.append_nil, List.singleton_append, List.nodup_cons] at hn ⊢
          refine ⟨fun hm => ?_, hn⟩
          rcases hl.1.2 with ⟨_, h2⟩ | ⟨blk, h1, h2⟩
          · rw [h2] at hm; cases hm
          · rw [h2, List.mem_singleton] at hm
            subst hm
            rcases hl.1.1.at_ with ⟨h3, _⟩ | ⟨blk', cs, h3, _, h4, _⟩
            · rw [h1] at h3; cases h3
            · rw [h1] at h3; cases h3; rw [hd] at h4; cases h4
        · intro x hx
          simp only [List.flatten_cons, List.flatten_nil, List.append_nil, List.singleton_append, List.mem_cons] at hx hbb
          rcases hx with rfl | hx
          · exact hb
          · exact hbb x hx
    exact St.inex (f := fun (x : Option Addr × Nat) => .pu (OkC ls ∧ P.length ≤ 5000 ∧ Trie ls (· < ls.length) (· < ls.length) P F) (.star (.cell b #[.slice x.1 P.length x.2] 149) (.sl x.1 P.length x.2 150 2 (ints F)))) (q, k) (St.with ⟨ok, hL, t⟩ hs2.cat))
section
variable {f a most : Nat} {B out : List Int} {e : Int}
end
end Go.Proofs
namespace Go.Proofs
open Go.Sh
variable {H0 H : Heap} {σ : List Rs} {R : Value → Heap → Prop}
def revN (L : List Int) (i : Nat) : List Int := (List.range L.length).map fun k => if k < i ∨ L.length - i ≤ k then L.getD (L.length - 1 - k) 0 else L.getD k 0
theorem revN_len (L : List Int) (i : Nat) : (revN L i).length = L.length := tab_len _ _
theorem revN_get {L : List Int} {i k : Nat} (h : k < L.length) : (revN L i)[k]? = some (if k < i ∨ L.length - i ≤ k then L.getD (L.length - 1 - k) 0 else L.getD k 0) := tab_get h
theorem revN_zero (L : List Int) : revN L 0 = L := by
 refine list_ext_getD (n := L.length) (revN_len _ _) rfl fun j hj => ?_
 rw [gD_get (revN_get hj), if_neg (by omega)]
theorem revN_all {L : List Int} {i : Nat} (h : L.length ≤ 2 * i + 1) : revN L i = L.reverse := by
 refine list_ext_getD (n := L.length) (revN_len _ _) (by simp) fun j hj => ?_
 rw [gD_get (revN_get hj), List.getD_eq_getElem?_getD (l := L.reverse), List.getElem?_reverse hj, ← List.getD_eq_getElem?_getD]
 split
 ·rfl
 ·rw [show L.length - 1 - j = j by omega]
theorem revN_step {L : List Int} {i : Nat} (h : 2 * i + 1 < L.length) : ((revN L i).set i (L.getD (L.length - 1 - i) 0)).set (L.length - 1 - i) (L.getD i 0) = revN L (i + 1) := by
 refine list_ext_getD (n := L.length) (by simp [revN_len]) (revN_len _ _) fun j hj => ?_
 rw [getD_set_ite _ _ _ _ _ (by simp [revN_len]; omega), getD_set_ite _ _ _ _ _ (by simp [revN_len]; omega), gD_get (revN_get hj), gD_get (revN_get hj)]
 by_cases h1 : L.length - 1 - i = j
 ·rw [if_pos h1, if_pos (by omega), ← h1, show L.length - 1 - (L.length - 1 - i) = i by omega]
 ·rw [if_neg h1]
  by_cases h2 : i = j
  ·subst h2; rw [if_pos rfl, if_pos (by omega)]
  ·rw [if_neg h2]
   by_cases h3 : j < i ∨ L.length - i ≤ j
   ·rw [if_pos h3, if_pos (by omega)]
   ·rw [if_neg h3, if_neg (by omega)]
theorem c34 (hs : St H0 H σ) {t : Nat} {p : Option Addr} {l c : Nat} {el : TypeId} {L : List Int} (ht : σ[t]? = some (.sl p l c el 1 (ints L))) (hl : l ≤ 1000000000)
    (hR : ∀ H', St H0 H' (σ.set t (.sl p l c el 1 (ints L.reverse))) → R (.tuple #[]) H') : CallsH Try.prog 34 #[.slice p l c] H R := by
  have hLl : L.length = l := (hs.is t ht).length
  refine Try.s34 ?_
  unfold Try.S34
  intro X hX
  have go : ∀ d i, d + i = l → ∀ H1, St H0 H1 (σ.set t (.sl p l c el 1 (ints (revN L i)))) → i ≤ l / 2 → X [.int .i64 (i : Nat), .int .i64 ((l : Int) - 1 - i)] H1 := by
    intro d
    induction d with
    | zero =>
      intro i hd H1 hs1 hi
      have : l = 0 := by omega
      refine hX _ _ H1 (br_n (by omega) ?_)
      rw [revN_all (by omega)] at hs1
      exact hR H1 hs1
    | succ d ih =>
      intro i hd H1 hs1 hi
      refine hX _ _ H1 (br_dec (fun hlt => ?_) (fun hge => ?_))
      · have hti := setget ht (.sl p l c el 1 (ints (revN L i)))
        have hg1 : (revN L i)[i]? = some (L.getD i 0) := by rw [revN_get (by omega), if_neg (by omega)]
        have hg2 : (revN L i)[L.length - 1 - i]? = some (L.getD (L.length - 1 - i) 0) := by rw [revN_get (by omega), if_neg (by omega)]
        obtain ⟨b, rfl⟩ := hs1.slSome t hti (j := i) (by rw [ints_len, revN_len]; omega)
        have e2 : ((l : Int) - 1 - i) = ((L.length - 1 - i : Nat) : Int) := by omega
        rw [e2]
        refine (hs1.is t hti).rd (ls := revN L i) (by omega) (by omega) (by rw [Int.toNat_natCast]; exact hg2) ?_
        refine (hs1.is t hti).rd (ls := revN L i) (by omega) (by omega) (by rw [Int.toNat_natCast]; exact hg1) ?_
        refine ⟨_, rfl, by omega, by omega, ?_⟩
        rw [add_none, Nat.zero_add, Int.toNat_natCast, Nat.mul_one]
        refine hs1.slPut t hti (by rw [ints_len, revN_len]; omega) rfl fun H2 hs2 => ⟨_, rfl, by omega, by omega, ?_⟩
        rw [List.set_set, ints_set] at hs2
        rw [add_none, Nat.zero_add, Int.toNat_natCast, Nat.mul_one]
        refine hs2.slPut t (setget ht _) (by rw [ints_len, List.length_set, revN_len]; omega) rfl fun H3 hs3 => ?_
        rw [List.set_set, ints_set, revN_step (by omega)] at hs3
        rw [wrap_id (by omega) (by omega), wrap_id (by omega) (by omega), show (i : Int) + 1 = ((i + 1 : Nat) : Int) by omega, show ((L.length - 1 - i : Nat) : Int) - 1 = (l : Int) - 1 - ((i + 1 : Nat) : Int) by omega]
        exact ih (i + 1) (by omega) H3 hs3 (by omega)
      · rw [revN_all (by omega)] at hs1
        exact hR H1 hs1
  rw [wrap_id (by omega) (by omega), show (0 : Int) = ((0 : Nat) : Int) from rfl, show (l : Int) - 1 = (l : Int) - 1 - ((0 : Nat) : Int) by omega]
  refine go l 0 (by omega) H ?_ (by omega)
  rw [revN_zero]
  exact hs.as t ht fun fp h => h
def lineN (n k : Nat) : List Int := (List.range k).filterMap fun v => if v ≤ n ∧ n - v < 8 then some ((8 * v + (n - v) : Nat) : Int) else none
theorem lineN_succ (n k : Nat) : lineN n (k + 1) = lineN n k ++ (if k ≤ n ∧ n - k < 8 then [((8 * k + (n - k) : Nat) : Int)] else []) := by
 unfold lineN
 rw [List.range_succ, List.filterMap_append]
 congr 1
 simp only [List.filterMap_cons, List.filterMap_nil]
 split <;> rename_i h <;> split at h <;> simp_all
def zAt (n : Nat) : Nat := if n ≤ 8 then n * (n + 1) / 2 else 64 - (15 - n) * (16 - n) / 2
theorem zline : ∀ n : Fin 15, (if n.val % 2 = 0 then (lineN n.val 8).reverse else lineN n.val 8) = (zigI.drop (zAt n.val)).take (lineN n.val 8).length ∧ zAt n.val + (lineN n.val 8).length = zAt (n.val + 1) ∧ zAt n.val < 64 ∧ zAt (n.val + 1) ≤ 64 ∧ (lineN n.val 8).length ≤ 8 := by decide +kernel
theorem fill_row {L xs : List Int} {a n : Nat} (hx : xs = (L.drop a).take n) (hn : a + n ≤ L.length) : (fillA L a).take a ++ xs ++ (fillA L a).drop (a + xs.length) = fillA L (a + n) := by
 subst hx
 have hl : ((L.drop a).take n).length = n := by simp; omega
 rw [hl]
 unfold fillA
 have h1 : (L.take a ++ List.replicate (L.length - a) (0 : Int)).take a = L.take a := by rw [List.take_append_of_le_length (by simp; omega), List.take_take, Nat.min_self]
 have h2 : (L.take a ++ List.replicate (L.length - a) (0 : Int)).drop (a + n) = List.replicate (L.length - (a + n)) 0 := by
  rw [List.drop_append, List.drop_eq_nil_of_le (show (L.take a).length ≤ a + n by simp; omega), List.nil_append, List.drop_replicate, List.length_take, Nat.min_eq_left (by omega)]
  congr 1; omega
 rw [h1, h2, List.take_add]
theorem c13 (hR : ∀ H', Ext H H' → R (.agg (ints zigI).toArray) H') : CallsH Try.prog 13 #[] H R := by
 refine Try.s13 (_u := ()) ?_
 unfold Try.S13
 refine (St.nil H).alc fun b H1 hs1 => ?_
 rw [zeroA] at hs1
 intro X hX
 have go : ∀ n, n ≤ 15 → ∀ H2, St H H2 [.cell b (ints (fillA zigI (zAt n))).toArray 40] → X [.int .i64 (zAt n : Nat), .int .i64 (n : Nat)] H2 := upto fun n hn ih H2 hs2 => by
  refine hX _ _ H2 (br_dec (fun hlt => ?_) (fun hge => ?_))
  ·have hlt : n < 15 := by omega
   obtain ⟨z1, z2, z3, z4, z5⟩ := zline ⟨n, hlt⟩
   simp only at z1 z2 z3 z4 z5
   intro Y hY
   have line : ∀ k, k ≤ 8 → ∀ p c H3, St H H3 [.sl p (lineN n k).length c 3 1 (ints (lineN n k)), .cell b (ints (fillA zigI (zAt n))).toArray 40] → Y [.slice p (lineN n k).length c, .int .i64 (k : Nat)] H3 := upto fun k hk ihk p c H3 hs3 => by
    refine hY _ _ _ _ H3 (br_dec (fun hlk => ?_) (fun hgk => ?_))
    ·have hlk : k < 8 := by omega
     have hls := lineN_succ n k
     intro J hJ
     have w0 : IntKind.wrap .i64 ((n : Int) - (k : Int)) = (n : Int) - k := wrap_id (by omega) (by omega)
     rw [w0]
     have skip : ¬ (k ≤ n ∧ n - k < 8) → J [.slice p (lineN n k).length c] H3 := fun h => by
      rw [if_neg h, List.append_nil] at hls
      refine hJ _ _ _ H3 ?_
      rw [w1 (by omega)]
      have := ihk hlk p c H3 (by rw [hls]; exact hs3)
      rw [hls] at this
      exact this
     refine br_dec (fun h1 => br_dec (fun h2 => ?_) (fun h2 => skip (by omega))) (fun h1 => skip (by omega))
     rw [if_pos (by omega)] at hls
     have hll : (lineN n k).length ≤ k := by unfold lineN; exact Nat.le_trans (List.length_filterMap_le _ _) (by simp)
     refine hs3.alc fun b14 H15 hs15 => ?_
     rw [wrap_id (n := (8 : Int) * (k : Int)) (by omega) (by omega), wrap_id (by omega) (by omega), show (8 : Int) * (k : Int) + ((n : Int) - k) = ((8 * k + (n - k) : Nat) : Int) by omega] at hs15
     refine hs15.appC 1 0 rfl rfl rfl (fun v hv => by rw [List.mem_singleton.1 hv]; rfl) (by decide) rfl (by omega) (by omega) fun p' c' H16 hs16 => ?_
     refine hJ _ _ _ H16 ?_
     rw [w1 (by omega)]
     have hs16 := hs16.tail
     have e : ints (lineN n k) ++ [Value.int .i64 ((8 * k + (n - k) : Nat) : Int)] = ints (lineN n (k + 1)) := by rw [hls, ints_append]; rfl
     have e' : (lineN n k).length + 1 = (lineN n (k + 1)).length := by rw [hls]; simp
     simp only [List.set_cons_zero, List.set_cons_succ] at hs16
     rw [e, e'] at hs16
     rw [e']
     exact ihk hlk p' c' H16 hs16
    ·have : k = 8 := by omega
     subst this
     intro J hJ
     have cp : ∀ H4, St H H4 [.sl p (lineN n 8).length c 3 1 (ints ((zigI.drop (zAt n)).take (lineN n 8).length)), .cell b (ints (fillA zigI (zAt n))).toArray 40] → J [] H4 := fun H4 hs4 => by
      refine hJ H4 ⟨by omega, by omega, (ints ((zigI.drop (zAt n)).take (lineN n 8).length)).toArray, ?_, ?_⟩
      ·rw [Int.toNat_natCast, Nat.min_eq_left (by omega)]
       exact (hs4.is 0 rfl).rowOf
      ·rw [Int.toNat_natCast, if_neg (by omega), add_none, Nat.zero_add, Nat.mul_one]
       have hxl : ((zigI.drop (zAt n)).take (lineN n 8).length).length = (lineN n 8).length := by rw [List.length_take, List.length_drop, zigI_len]; omega
       refine hs4.putRowA 1 rfl (by rw [hxl, fillA_len (by rw [zigI_len]; omega), zigI_len]; omega) fun H5 hs5 => ?_
       have hs5 := hs5.tail
       rw [fill_row rfl (by rw [zigI_len]; omega), z2] at hs5
       rw [Nat.min_eq_left (by omega), wrap_id (by omega) (by omega), w1 (by omega), show (zAt n : Int) + ((lineN n 8).length : Nat) = ((zAt (n + 1) : Nat) : Int) by omega]
       exact ih hlt H5 hs5
     refine ⟨by decide, br_eq (fun h0 => ?_) (fun h0 => ?_)⟩
     ·rw [if_pos (by have h2 := tmodN n 2; rw [show ((2 : Nat) : Int) = 2 from rfl] at h2; omega)] at z1
      refine c34 hs3 (t := 0) rfl (by omega) fun H4 hs4 => ⟨rfl, cp H4 ?_⟩
      rw [← z1]; exact hs4
     ·rw [if_neg (by have h2 := tmodN n 2; rw [show ((2 : Nat) : Int) = 2 from rfl] at h2; omega)] at z1
      refine cp H3 ?_
      rw [← z1]; exact hs3
   exact line 0 (by omega) none 0 H2 (hs2.nilSl _ _)
  ·have : n = 15 := by omega
   subst this
   have e : fillA zigI (zAt 15) = zigI := fillA_all zigI
   rw [e] at hs2
   refine ⟨_, by rw [intsA_size]; rfl, rowIn_whole (hs2.block 0 rfl), by rw [intsA_size]; rfl, ?_⟩
   refine hs2.putAllA 0 rfl (by rw [intsA_size]) fun H3 hs3 => ?_
   exact ⟨_, by rw [intsA_size]; rfl, rowIn_whole (hs3.block 0 rfl), hR H3 hs3.ext⟩
 have e0 : fillA zigI (zAt 0) = List.replicate 64 0 := fillA_zero zigI
 exact go 0 (by omega) H1 (by rw [e0]; exact hs1)
end Go.Proofs
namespace Go.Sh
variable {H0 H H' : Heap} {σ τ : List Rs}
def Rs.pers (Q : Heap → Prop) : Rs where
 at_ H fp := (∀ b ∈ fp, b < H.size) ∧ ∀ H', (∀ b ∈ fp, ∀ o, H[b]? = some o → H'[b]? = some o) → Q H'
 loc := fun {H H' fp} h hk => ⟨fun b hb => by
  have hlt := h.1 b hb
  exact lt_of_get (hk b hb _ (Array.getElem?_eq_getElem hlt)), fun H'' hk2 => h.2 H'' fun b hb o ho => hk2 b hb o (hk b hb o ho)⟩
 has h := h.1
theorem St.persGet (hs : St H0 H σ) (i : Nat) {Q : Heap → Prop} (hi : σ[i]? = some (.pers Q)) : Q H := by
 obtain ⟨_, fps, hl, _⟩ := hs
 obtain ⟨fp, _, h⟩ := hl.get hi
 exact h.2 H fun b _ o ho => ho
theorem Ext.empty (H : Heap) : Ext #[] H := fun b o h => by simp at h
theorem St.persOf {Q : Heap → Prop} (hs : St H0 H (τ ++ σ)) (hq : ∀ H', St #[] H' τ → Q H') : St H0 H (.pers Q :: σ) := by
 obtain ⟨he, fps, hl, hn, hb⟩ := hs
 obtain ⟨a, b, rfl, h1, h2⟩ := hl.split
 have hna : a.flatten.Nodup := by rw [List.flatten_append, List.nodup_append] at hn; exact hn.1
 refine ⟨he, a.flatten :: b, ⟨⟨h1.has, fun H' hk => hq H' ⟨Ext.empty H', a, h1.loc hk, hna, fun x _ => Nat.zero_le x⟩⟩, h2⟩, by simpa using hn, fun x hx => hb x (by simpa using hx)⟩
end Go.Sh
namespace Go.Proofs
open Go.Sh
variable {H0 H : Heap} {σ : List Rs} {R : Value → Heap → Prop}
theorem retC (hs : St H0 H σ) (i : Nat) {b n : Nat} {cs : Array Value} {ty : TypeId} (hi : σ[i]? = some (.cell b cs ty)) (hl : cs.size = n) (ho : ∀ v ∈ cs.toList, v.oneCell' = true) {K : Array Value → Heap → Prop} (hK : ∀ H', St H0 H' σ → K cs H') :
    ∃ v : Array Value, v.size = n ∧ rowIn H ⟨b, 0, none⟩ v ∧ v.size = n ∧ stAt H ⟨b, 0, none⟩ v.toList fun H' => ∃ re : Array Value, re.size = n ∧ rowIn H' ⟨b, 0, none⟩ re ∧ K re H' := by
  refine ⟨cs, hl, rowIn_whole (hs.block i hi), hl, hs.putAll i hi (by simp) ho fun H' hs' => ⟨cs, hl, ?_, ?_⟩⟩
  · exact rowIn_whole (hs'.block i (by rw [List.getElem?_set_self (List.getElem?_eq_some_iff.1 hi).1]))
  · refine hK H' ?_
    have e : σ.set i (.cell b cs.toList.toArray ty) = σ := by
      obtain ⟨h1, h2⟩ := List.getElem?_eq_some_iff.1 hi
      rw [Array.toArray_toList, ← h2, List.set_getElem_self]
    rw [e] at hs'; exact hs'
theorem retA (hs : St H0 H σ) (i : Nat) {b n : Nat} {L : List Int} {ty : TypeId} (hi : σ[i]? = some (.cell b (ints L).toArray ty)) (hl : L.length = n) {K : Array Value → Heap → Prop} (hK : ∀ H', St H0 H' σ → K (ints L).toArray H') :
    ∃ v : Array Value, v.size = n ∧ rowIn H ⟨b, 0, none⟩ v ∧ v.size = n ∧ stAt H ⟨b, 0, none⟩ v.toList fun H' => ∃ re : Array Value, re.size = n ∧ rowIn H' ⟨b, 0, none⟩ re ∧ K re H' :=
  retC hs i hi (by rw [intsA_size]; exact hl) (fun v hv => ints_one L v (by simpa using hv)) hK
theorem valB_snoc (L : List Int) (b : Int) : valB (L ++ [b]) = 2 * valB L + b := by simp [valB]
theorem numB_val {B : List Int} {a : Nat} : ∀ {n : Nat}, a + n ≤ 8 * B.length → numB true B a n = valB (((bitsH B).drop a).take n)
 | 0, _ => by simp [numB, valB]
 | n + 1, h => by
  rw [numB, if_pos rfl, numB_val (n := n) (by omega), List.take_add_one, List.getElem?_drop, bitsH_get (by omega)]
  simp only [Option.toList_some, valB_snoc]
theorem numJ_of {B : List Int} {a n : Nat} (h : a + n ≤ 8 * B.length) : numJ n ((bitsH B).drop a) = some (signM n (numB true B a n), (bitsH B).drop (a + n)) := by
 unfold numJ
 rw [if_neg (by rw [List.length_drop, bitsH_len]; omega), numB_val h, List.drop_drop]
theorem numJ_bad {B : List Int} {a n : Nat} (h : 8 * B.length < a + n) (hn : a ≤ 8 * B.length) : numJ n ((bitsH B).drop a) = none := by
 unfold numJ
 rw [if_pos (by rw [List.length_drop, bitsH_len]; omega)]
theorem signM_rng {n : Nat} {v : Int} (h : 0 ≤ v ∧ v < 2 ^ n) : -(2 ^ n) ≤ signM n v ∧ signM n v ≤ 2 ^ n := by
 unfold signM; split <;> omega
theorem byte_parts : ∀ s : Fin 256, andI .i64 (s.val : Int) 15 = ((s.val % 16 : Nat) : Int) ∧ shrI .i64 (s.val : Int) 4 = ((s.val / 16 : Nat) : Int) := by decide +kernel
def unR (u : Nat) (B : List Int) (a : Nat) (ok : Bool) : Rs := .ex fun rb => .star (rdR rb B a true) (.cell u #[.pointer (some ⟨rb, 0, none⟩), .bool ok] 86)
theorem unR_op {u a : Nat} {B : List Int} {ok : Bool} (hs : St H0 H (unR u B a ok :: σ)) : ∃ rb, St H0 H (rdR rb B a true :: .cell u #[.pointer (some ⟨rb, 0, none⟩), .bool ok] 86 :: σ) := by
 obtain ⟨rb, hs⟩ := hs.unex
 exact ⟨rb, hs.cut⟩
theorem unR_mk {u a rb : Nat} {B : List Int} {ok : Bool} (hs : St H0 H (rdR rb B a true :: .cell u #[.pointer (some ⟨rb, 0, none⟩), .bool ok] 86 :: σ)) : St H0 H (unR u B a ok :: σ) :=
 St.inex (f := fun rb => .star (rdR rb B a true) (.cell u #[.pointer (some ⟨rb, 0, none⟩), .bool ok] 86)) rb hs.cat
theorem unR_a {u a : Nat} {B : List Int} {ok : Bool} (hs : St H0 H (unR u B a ok :: σ)) : a ≤ 8 * B.length := by
 obtain ⟨rb, hs⟩ := unR_op hs
 obtain ⟨_, _, h, _⟩ := rdR_op hs
 exact h
theorem unR_ok {u a : Nat} {B : List Int} {ok : Bool} (hs : St H0 H (unR u B a ok :: σ)) : cell H ⟨u, 1, none⟩ = some (.bool ok) := by
 obtain ⟨rb, hs⟩ := unR_op hs
 exact hs.get 1 (j := 1) rfl rfl
theorem unR_fail {u a : Nat} {B : List Int} {ok : Bool} (hs : St H0 H (unR u B a ok :: σ)) (v : Bool) {K : Heap → Prop} (hK : ∀ H', St H0 H' (unR u B a v :: σ) → K H') : stAt H ⟨u, 1, none⟩ [.bool v] K := by
 obtain ⟨rb, hs⟩ := unR_op hs
 exact hs.put 1 (j := 1) rfl (by simp) rfl fun H' hs' => hK H' (unR_mk (rb := rb) hs')
def TabI (t d : Nat) (q : Option Addr) (c : Nat) (ls : List Int) (P : List (Nat × Int)) (F : List Int) (H : Heap) : Prop :=
 H[t]? = some (.cells #[.pointer (some ⟨d, 0, none⟩), .slice q ls.length c] 135) ∧
 ∃ q2 k, H[d]? = some (.cells #[.slice q2 P.length k] 149) ∧ RS H q2 P.length 150 2 (ints F)
structure TabP (H0 : Heap) (Q : Heap → Prop) (t : Nat) (T : TabJ) : Prop where
 ok : OkC T.1
 rng : ∀ x ∈ T.2, 0 ≤ x ∧ x < 256
 mem : ∃ d q c P F, IS H0 q T.1.length (kints .u8 T.2) ∧ P.length ≤ 5000 ∧ Trie T.1 (· < T.1.length) (· < T.1.length) P F ∧ ∀ H, Q H → TabI t d q c T.1 P F H
section
variable {u a : Nat} {B : List Int}
theorem c52 (hs : St H0 H (unR u B a true :: σ)) {j t : Nat} {Q : Heap → Prop} {T : TabJ} (hj : σ[j]? = some (.pers Q)) (hT : TabP H0 Q t T)
    (hbad : symJ T.1 ((bitsH B).drop a) = none → ∀ H' a', St H0 H' (unR u B a' false :: σ) → R (.int .i64 0) H')
    (hR : ∀ s a', symJ T.1 ((bitsH B).drop a) = some (s, (bitsH B).drop a') → s < T.1.length → ∀ H', St H0 H' (unR u B a' true :: σ) → R (.int .i64 (T.2.getD s 0)) H') :
    CallsH Try.prog 52 #[.pointer (some ⟨u, 0, none⟩), .pointer (some ⟨t, 0, none⟩)] H R := by
  obtain ⟨ok, hrng, d, q, c, P, F, hIS, hL, tr, hTab⟩ := hT
  have hTl : T.2.length = T.1.length := hIS.length
  refine Try.s52 ?_
  unfold Try.S52
  intro X hX
  have hI : ∀ {H' : Heap} {a' : Nat} {okb : Bool}, St H0 H' (unR u B a' okb :: σ) → TabI t d q c T.1 P F H' := fun hs' => hTab _ (hs'.persGet (j + 1) (by simpa using hj))
  have loop : ∀ (g : Nat) (st n : Nat) (v : Int) (a1 : Nat) (H1 : Heap), 17 - n ≤ g → n ≤ 16 → P[st]? = some (n, v) → symB T.1 (17 - n) n v ((bitsH B).drop a1) = symJ T.1 ((bitsH B).drop a) → St H0 H1 (unR u B a1 true :: σ) → X [.int .i64 st] H1 := by
    intro g
    induction g with
    | zero => intro st n v a1 H1 h1 h2; omega
    | succ g ih =>
      intro st n v a1 H1 hg hn hst heq hs1
      have h17 : 17 - n = 16 - n + 1 := by omega
      rw [h17] at heq
      have ha1 := unR_a hs1
      obtain ⟨rb, hs1'⟩ := unR_op hs1
      refine hX _ H1 ⟨_, rfl, _, hs1'.get 1 (j := 0) rfl rfl, c69 hs1' (i := 0) rfl (fun hb => ⟨_, _, rfl, br_t rfl ⟨_, rfl, ?_⟩⟩) (fun hg H2 hs2' => ⟨_, _, rfl, br_f rfl ?_⟩)⟩
      · refine unR_fail hs1 false fun H3 hs3 => hbad ?_ H3 a1 hs3
        rw [← heq, bitsH_end (by omega)]; rfl
      · have hs2 := unR_mk hs2'
        rw [Int.toNat_one] at hs2 ⊢
        have e1 : numB true B a1 1 = bitB true B a1 := by rw [numB, if_pos rfl, numB]; simp
        rw [e1]
        rw [bitsH_drop (by omega), symB] at heq
        have hb01 : bitB true B a1 % 2 = bitB true B a1 := by rcases bitB_rng true B a1 with h | h <;> omega
        obtain ⟨ht, q3, k, hd, hrs⟩ := hI hs2
        refine ⟨_, rfl, _, cell_get ht (i := 0) rfl, ?_⟩
        refine c70 hd hrs (tr.rng2 rfl hL ok.w.len) (by omega) _ _ ⟨_, _, rfl, ?_⟩
        generalize hbit : bitB true B a1 = b at *
        cases hf : findM T.1 (n + 1) (2 * v + b) with
        | some s =>
          obtain ⟨f1, f2⟩ := findM_some hf
          have hst2 := step_sym ok rfl tr (bit := b) hst f1 (by rw [hb01]; exact f2)
          show br (decide ((stepM F P.length (st : Int) b).1 < 0)) _ _
          rw [hf] at heq
          rw [hst2]
          have hsl := (List.getElem?_eq_some_iff.1 f1).1
          have hg := get_gD T.2 0 (i := s) (by omega)
          have hv := hrng _ (List.mem_of_getElem? hg)
          refine br_n (show ¬ ((0 : Int) < 0) by decide) (br_y (show ((s : Int) ≥ 0) by omega) ⟨_, rfl, _, _, _, cell_get ht (i := 1) rfl, ?_⟩)
          refine (hIS.ext hs2.ext).rd (i := (s : Int)) (by omega) (by omega) (by rw [Int.toNat_natCast]; exact hg) ?_
          rw [wrap_id (by omega) (by omega)]
          exact hR s _ heq.symm hsl H2 hs2
        | none =>
          rw [hf] at heq
          simp only at heq
          cases hbg : begM T.1 (n + 1) (2 * v + b) with
          | true =>
            obtain ⟨s, m, g1, g2, g3⟩ := begM_true ok.w.rng hbg
            obtain ⟨i, i0, hst2, hp⟩ := step_on ok rfl tr (bit := b) hst g1 g2 (by rw [hb01]; exact g3)
            rw [hb01] at hp
            rw [hbg] at heq
            simp only [if_true] at heq
            rw [hst2]
            have hm := ok.w.rng _ (List.mem_of_getElem? g1)
            refine br_n (by show ¬ ((i : Int) < 0); omega) (br_n (show ¬ ((-1 : Int) ≥ 0) by decide) (ih i (n + 1) _ _ H2 (by omega) (by omega) hp ?_ hs2))
            rw [show 17 - (n + 1) = 16 - n from by omega]
            exact heq
          | false =>
            rw [hbg] at heq
            simp only [Bool.false_eq_true, if_false] at heq
            have hst2 := step_off (bit := b) rfl tr hst (fun s h1 h2 => findM_none hf h1 (by rw [hb01] at h2; exact h2)) (fun s m h1 h2 h3 => begM_false hbg h1 h2 (by rw [hb01] at h3; exact h3))
            rw [hst2]
            refine br_y (show ((-1 : Int) < 0) by decide) ⟨_, rfl, unR_fail hs2 false fun H3 hs3 => hbad heq.symm H3 _ hs3⟩
  exact loop 17 0 0 0 a H (by omega) (by omega) tr.root rfl hs
theorem c54 (hs : St H0 H (unR u B a true :: σ)) {n : Nat} (hn : n ≤ 15)
    (hbad : numJ n ((bitsH B).drop a) = none → ∀ v H', -32768 ≤ v ∧ v ≤ 32768 → St H0 H' (unR u B a false :: σ) → R (.int .i64 v) H')
    (hR : ∀ v, numJ n ((bitsH B).drop a) = some (v, (bitsH B).drop (a + n)) → -32768 ≤ v ∧ v ≤ 32768 → ∀ H', St H0 H' (unR u B (a + n) true :: σ) → R (.int .i64 v) H') :
    CallsH Try.prog 54 #[.pointer (some ⟨u, 0, none⟩), .int .i64 (n : Nat)] H R := by
  have ha := unR_a hs
  obtain ⟨rb, hs'⟩ := unR_op hs
  have hp : (2 : Int) ^ n ≤ 2 ^ 15 := pow_le hn
  have e15 : (2 : Int) ^ 15 = 32768 := by decide
  have hp0 := two_pow_pos n
  -- what is made of a number
  have fin : ∀ (x : Int) (K : Value → Heap → Prop) (H1 : Heap), 0 ≤ x ∧ x < 2 ^ n → K (.int .i64 (signM n x)) H1 →
      br (decide ((n : Int) > 0)) (0 ≤ IntKind.wrap .i64 ((n : Int) - 1) ∧ br (decide (x < shlI .i64 1 (IntKind.wrap .i64 ((n : Int) - 1)))) (0 ≤ (n : Int) ∧ K (.int .i64 (IntKind.wrap .i64 (IntKind.wrap .i64 (x - shlI .i64 1 (n : Int)) + 1))) H1) (K (.int .i64 x) H1)) (K (.int .i64 x) H1) := fun x K H1 hx hK => by
    unfold signM at hK
    refine br_dec (fun h => ?_) (fun h => ?_)
    · have hn0 : 0 < n := by omega
      have e1 : IntKind.wrap .i64 ((n : Int) - 1) = ((n - 1 : Nat) : Int) := by rw [wrap_id (by omega) (by omega)]; omega
      have hp1 := two_pow_pos (n - 1)
      have hp1' : (2 : Int) ^ (n - 1) ≤ 2 ^ 15 := pow_le (by omega)
      rw [e1, shl_of (k := n - 1) (by omega) (by omega) (by omega), shl_of (k := n) (by omega) (by omega) (by omega)]
      refine ⟨by omega, br_dec (fun h2 => ⟨by omega, ?_⟩) (fun h2 => ?_)⟩
      · rw [if_pos ⟨hn0, by omega⟩] at hK
        rw [wrap_id (n := x - _) (by omega) (by omega), wrap_id (by omega) (by omega), Int.one_mul]
        exact hK
      · rw [if_neg (by omega)] at hK; exact hK
    · rw [if_neg (by omega)] at hK; exact hK
  refine Try.s54 ?_
  unfold Try.S54
  refine ⟨_, rfl, _, hs'.get 1 (j := 0) rfl rfl, c69 hs' (i := 0) rfl (fun hb => ⟨_, _, rfl, ?_⟩) (fun hg H2 hs2' => ⟨_, _, rfl, ?_⟩)⟩
  · intro J hJ
    have hs0 := signM_rng (n := n) (v := 0) (by omega)
    refine ⟨_, rfl, _, unR_ok hs, br_t rfl ⟨_, rfl, unR_fail hs false fun H3 hs3 => hJ H3 ?_⟩⟩
    exact fin 0 R H3 (by omega) (hbad (numJ_bad (by omega) ha) _ H3 (by omega) hs3)
  · have hs2 := unR_mk hs2'
    rw [Int.toNat_natCast] at hs2 ⊢
    have hr := numB_rng true B a n
    have hs0 := signM_rng hr
    intro J hJ
    refine ⟨_, rfl, _, unR_ok hs2, br_t rfl ⟨_, rfl, unR_fail hs2 true fun H3 hs3 => hJ H3 ?_⟩⟩
    exact fin _ R H3 hr (hR _ (numJ_of (by omega)) (by omega) H3 hs3)
theorem c53 {v : Int} (hR : R (.int .i64 (cut16M v)) H) : CallsH Try.prog 53 #[.int .i64 v] H R := Try.s53 hR
end
end Go.Proofs
