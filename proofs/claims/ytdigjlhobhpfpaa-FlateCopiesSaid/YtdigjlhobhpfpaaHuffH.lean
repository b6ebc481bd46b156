/-
  OWN WORK. Weights and codes: the plain model; the program's and the document's functions over heaps.
-/
import Derived.Test.YtdigjlhobhpfpaaGFun
import Derived.Test.YtdigjlhobhpfpaaShT
set_option linter.unusedVariables false
set_option linter.unusedSimpArgs false
namespace Go.Proofs
open Go.Sh

theorem shl64 {x k : Int} (h0 : 0 ≤ x) (h1 : x ≤ 1099511627776) (k0 : 0 ≤ k) (k1 : k ≤ 16) : shlI .i64 x k = x * 2 ^ k.toNat := by
  unfold shlI
  have hb : min k.toNat (IntKind.bits .i64) = k.toNat := by
    have : IntKind.bits .i64 = 64 := rfl
    rw [this]; omega
  rw [hb]
  have hp : (2 : Int) ^ k.toNat ≤ 65536 := by
    have h2 : 2 ^ k.toNat ≤ 2 ^ 16 := Nat.pow_le_pow_right (by omega) (by omega)
    have h3 : ((2 ^ k.toNat : Nat) : Int) = (2 : Int) ^ k.toNat := by simp
    have h4 : (2 : Nat) ^ 16 = 65536 := rfl
    omega
  have hq : (0 : Int) ≤ 2 ^ k.toNat := Int.pow_nonneg (by omega)
  have hm : x * 2 ^ k.toNat ≤ 1099511627776 * 65536 := Int.mul_le_mul h1 hp hq (by omega)
  have hm0 : 0 ≤ x * 2 ^ k.toNat := Int.mul_nonneg h0 hq
  exact wrap_id (by omega) (by omega)

theorem shr64 {x k : Int} (k0 : 0 ≤ k) (k1 : k ≤ 16) : shrI .i64 x k = x / 2 ^ k.toNat := by
  unfold shrI
  have hb : min k.toNat (IntKind.bits .i64) = k.toNat := by
    have : IntKind.bits .i64 = 64 := rfl
    rw [this]; omega
  rw [hb]
  exact Int.fdiv_eq_ediv_of_nonneg _ (Int.pow_nonneg (by omega))

def wt (n : Int) : Int := if n > 0 then 2 ^ (16 - n).toNat else 0
def wtM (ls : List Int) : Int := (ls.map wt).sum
structure OkW (ls : List Int) : Prop where
  len : ls.length ≤ 300
  rng : ∀ n ∈ ls, 0 ≤ n ∧ n ≤ 16

theorem wt_rng {n : Int} (h : 0 ≤ n ∧ n ≤ 16) : 0 ≤ wt n ∧ wt n ≤ 32768 := by
  unfold wt
  have : n = 0 ∨ n = 1 ∨ n = 2 ∨ n = 3 ∨ n = 4 ∨ n = 5 ∨ n = 6 ∨ n = 7 ∨ n = 8 ∨ n = 9 ∨ n = 10 ∨ n = 11 ∨ n = 12 ∨ n = 13 ∨ n = 14 ∨ n = 15 ∨ n = 16 := by omega
  rcases this with h | h | h | h | h | h | h | h | h | h | h | h | h | h | h | h | h <;> subst h <;> decide
theorem wt_shr {n : Int} (h : 0 < n ∧ n ≤ 16) : shrI .i64 (65536 : Int) n = wt n := by
  have : n = 1 ∨ n = 2 ∨ n = 3 ∨ n = 4 ∨ n = 5 ∨ n = 6 ∨ n = 7 ∨ n = 8 ∨ n = 9 ∨ n = 10 ∨ n = 11 ∨ n = 12 ∨ n = 13 ∨ n = 14 ∨ n = 15 ∨ n = 16 := by omega
  rcases this with h | h | h | h | h | h | h | h | h | h | h | h | h | h | h | h <;> subst h <;> decide
theorem wt_shl {n : Int} (h : 0 < n ∧ n ≤ 16) : shlI .i64 (1 : Int) (16 - n) = wt n := by
  rw [shl64 (by omega) (by omega) (by omega) (by omega)]
  unfold wt
  rw [if_pos h.1]
  omega

theorem sum_append (a b : List Int) : (a ++ b).sum = a.sum + b.sum := by
  induction a with
  | nil => simp
  | cons x r ih => simp [ih]; omega
theorem wtM_snoc (a : List Int) (n : Int) : wtM (a ++ [n]) = wtM a + wt n := by unfold wtM; rw [List.map_append, sum_append]; simp
theorem wtM_rng {ls : List Int} (h : ∀ n ∈ ls, 0 ≤ n ∧ n ≤ 16) : 0 ≤ wtM ls ∧ wtM ls ≤ 32768 * ls.length := by
  induction ls with
  | nil => simp [wtM]
  | cons n r ih =>
    have h1 := wt_rng (h n List.mem_cons_self)
    have h2 := ih fun x hx => h x (List.mem_cons_of_mem _ hx)
    unfold wtM at *
    simp only [List.map_cons, List.sum_cons, List.length_cons]
    omega

theorem c44 {H : Heap} {p : Option Addr} {l c : Nat} {ls : List Int} (h : IS H p l (ints ls)) {R : Value → Heap → Prop} (hbad : ¬ OkW ls → R (.tuple #[.int .i64 0, .bool false]) H) (hgood : OkW ls → R (.tuple #[.int .i64 (wtM ls), .bool true]) H) :
    CallsH Try.prog 44 #[.slice p l c] H R := by
  have hl : ls.length = l := by have := h.len; rw [ints_len] at this; omega
  refine Try.s44 ?_
  unfold Try.S44
  refine br_dec (fun hb => hbad fun ok => by have := ok.len; omega) (fun hb => ?_)
  intro X hX
  have loop : ∀ (m s : Nat), l - s = m → s ≤ l → (∀ n ∈ ls.take s, 0 ≤ n ∧ n ≤ 16) → X [.int .i64 (wtM (ls.take s)), .int .i64 s] H := by
    intro m
    induction m with
    | zero =>
      intro s hm hs rg
      rw [List.take_of_length_le (by omega)] at rg ⊢
      exact hX _ _ H (br_n (by omega) (hgood ⟨by omega, rg⟩))
    | succ m ih =>
      intro s hm hs rg
      have ws : IntKind.wrap .i64 ((s : Int) + 1) = ((s + 1 : Nat) : Int) := by rw [wrap_id (by omega) (by omega)]; omega
      have hsl : s < ls.length := by omega
      have hv : ls[s]? = some ls[s] := List.getElem?_eq_getElem hsl
      have htake : ls.take (s + 1) = ls.take s ++ [ls[s]] := List.take_succ_eq_append_getElem hsl
      have hmem : ls[s] ∈ ls := List.getElem_mem hsl
      have hnx := ih (s + 1) (by omega) (by omega)
      rw [htake] at hnx
      generalize ls[s] = n at hv htake hmem hnx
      obtain ⟨blk, hp, cv⟩ := h.cell (ints_get hv)
      have hw := wtM_rng rg
      have htl : (ls.take s).length ≤ 300 := by simp; omega
      refine hX _ _ H (br_y (by omega) ⟨_, hp, by omega, by omega, n, by simpa using cv, ?_⟩)
      rw [ws]
      intro J hJ
      refine br_dec (fun hn => hbad fun ok => by have := ok.rng n hmem; omega) (fun n0 => br_dec (fun hn => hbad fun ok => by have := ok.rng n hmem; omega) (fun n16 => hJ H ?_))
      have rg' : ∀ x ∈ ls.take s ++ [n], 0 ≤ x ∧ x ≤ 16 := fun x hx => by
        rcases List.mem_append.1 hx with hx | hx
        · exact rg x hx
        · rw [List.mem_singleton] at hx; subst hx; omega
      have hwn := wt_rng (n := n) (by omega)
      have hnx := hnx rg'
      rw [wtM_snoc] at hnx
      refine br_dec (fun hpos => ?_) (fun hz => ?_)
      · have w1 : IntKind.wrap .i64 ((16 : Int) - n) = 16 - n := wrap_id (by omega) (by omega)
        rw [w1, wt_shl (by omega), wrap_id (n := wtM (ls.take s) + wt n) (by omega) (by omega)]
        exact ⟨by omega, hnx⟩
      · have : wt n = 0 := by unfold wt; rw [if_neg hz]
        rw [this, Int.add_zero] at hnx
        exact hnx
  have := loop l 0 (by omega) (by omega) (fun n hn => by simp at hn)
  simpa [wtM] using this

theorem c32 {H : Heap} {p : Option Addr} {l c : Nat} {ls : List Int} (h : IS H p l (ints ls)) {R : Value → Heap → Prop} (hbad : ¬ OkW ls → R (.tuple #[.int .i64 0, .bool false]) H) (hgood : OkW ls → R (.tuple #[.int .i64 (wtM ls), .bool true]) H) :
    CallsH Try.prog 32 #[.slice p l c] H R := by
  have hl : ls.length = l := by have := h.len; rw [ints_len] at this; omega
  refine Try.s32 ?_
  unfold Try.S32
  refine br_dec (fun hb => hbad fun ok => by have := ok.len; omega) (fun hb => ?_)
  intro X hX
  have loop : ∀ (m s : Nat), l - s = m → s ≤ l → (∀ n ∈ ls.take s, 0 ≤ n ∧ n ≤ 16) → X [.int .i64 (wtM (ls.take s)), .int .i64 s] H := by
    intro m
    induction m with
    | zero =>
      intro s hm hs rg
      rw [List.take_of_length_le (by omega)] at rg ⊢
      exact hX _ _ H (br_n (by omega) (hgood ⟨by omega, rg⟩))
    | succ m ih =>
      intro s hm hs rg
      have ws : IntKind.wrap .i64 ((s : Int) + 1) = ((s + 1 : Nat) : Int) := by rw [wrap_id (by omega) (by omega)]; omega
      have hsl : s < ls.length := by omega
      have hv : ls[s]? = some ls[s] := List.getElem?_eq_getElem hsl
      have htake : ls.take (s + 1) = ls.take s ++ [ls[s]] := List.take_succ_eq_append_getElem hsl
      have hmem : ls[s] ∈ ls := List.getElem_mem hsl
      have hnx := ih (s + 1) (by omega) (by omega)
      rw [htake] at hnx
      generalize ls[s] = n at hv htake hmem hnx
      obtain ⟨blk, hp, cv⟩ := h.cell (ints_get hv)
      have hw := wtM_rng rg
      have htl : (ls.take s).length ≤ 300 := by simp; omega
      refine hX _ _ H (br_y (by omega) ?_)
      rw [ws]
      intro J hJ
      refine ⟨_, hp, by omega, by omega, n, by simpa using cv, br_dec (fun hn => hbad fun ok => by have := ok.rng n hmem; omega) (fun n0 => ⟨_, hp, by omega, by omega, n, by simpa using cv, br_dec (fun hn => hbad fun ok => by have := ok.rng n hmem; omega) (fun n16 => hJ H ?_)⟩)⟩
      have rg' : ∀ x ∈ ls.take s ++ [n], 0 ≤ x ∧ x ≤ 16 := fun x hx => by
        rcases List.mem_append.1 hx with hx | hx
        · exact rg x hx
        · rw [List.mem_singleton] at hx; subst hx; omega
      have hwn := wt_rng (n := n) (by omega)
      have hnx := hnx rg'
      rw [wtM_snoc] at hnx
      refine ⟨_, hp, by omega, by omega, n, by simpa using cv, br_dec (fun hpos => ⟨_, hp, by omega, by omega, n, by simpa using cv, by omega, ?_⟩) (fun hz => ?_)⟩
      · rw [wt_shr (by omega), wrap_id (n := wtM (ls.take s) + wt n) (by omega) (by omega)]
        exact hnx
      · have : wt n = 0 := by unfold wt; rw [if_neg hz]
        rw [this, Int.add_zero] at hnx
        exact hnx
  have := loop l 0 (by omega) (by omega) (fun n hn => by simp at hn)
  simpa [wtM] using this

/-! ### codes -/

def rank (ls : List Int) (s n : Nat) : Nat := (ls.take s).countP (fun x => x == (n : Int))
def cnt (ls : List Int) (n : Nat) : Nat := if n = 0 then 0 else rank ls ls.length n
def base (ls : List Int) : Nat → Int
  | 0 => 0
  | n + 1 => 2 * (base ls n + cnt ls n)
def codeM (ls : List Int) (s : Nat) : Int := match ls[s]? with
  | some n => if n > 0 then base ls n.toNat + rank ls s n.toNat else 0
  | none => 0
def codesM (ls : List Int) : List Int := (List.range ls.length).map (codeM ls)
structure OkC (ls : List Int) : Prop where
  w : OkW ls
  le : wtM ls ≤ 65536

theorem rank_le (ls : List Int) (s n : Nat) : rank ls s n ≤ ls.length := Nat.le_trans List.countP_le_length (by simp; omega)
theorem cnt_le (ls : List Int) (n : Nat) : cnt ls n ≤ ls.length := by unfold cnt; split; omega; exact rank_le _ _ _
theorem base_rng (ls : List Int) : ∀ n, 0 ≤ base ls n ∧ base ls n ≤ ls.length * (2 ^ (n + 1) - 2)
  | 0 => by simp [base]
  | n + 1 => by
    have ih := base_rng ls n
    have hc := cnt_le ls n
    have e : (2 : Int) ^ (n + 1 + 1) = 2 ^ (n + 1) * 2 := Int.pow_succ ..
    rw [e]
    show 0 ≤ 2 * (base ls n + cnt ls n) ∧ 2 * (base ls n + cnt ls n) ≤ _
    generalize (2 : Int) ^ (n + 1) = z at *
    have e2 : (ls.length : Int) * (z * 2 - 2) = 2 * (ls.length * (z - 2)) + 2 * ls.length := by
      rw [Int.mul_sub, Int.mul_sub, ← Int.mul_assoc]; omega
    rw [e2]
    omega
theorem base_small {ls : List Int} (hl : ls.length ≤ 300) {n : Nat} (hn : n ≤ 16) : 0 ≤ base ls n ∧ base ls n ≤ 40000000 := by
  have h := base_rng ls n
  have h2 : 2 ^ (n + 1) ≤ 2 ^ 17 := Nat.pow_le_pow_right (by omega) (by omega)
  have h3 : ((2 ^ (n + 1) : Nat) : Int) = (2 : Int) ^ (n + 1) := by simp
  have h4 : (2 : Nat) ^ 17 = 131072 := rfl
  have h5 : (ls.length : Int) * (2 ^ (n + 1) - 2) ≤ 300 * (2 ^ (n + 1) - 2) := Int.mul_le_mul_of_nonneg_right (by omega) (by have := Nat.one_le_two_pow (n := n); have : (2:Nat)^(n+1) = 2^n * 2 := Nat.pow_succ ..; omega)
  omega
theorem rank_snoc {ls : List Int} {s : Nat} {v : Int} (h : ls[s]? = some v) (n : Nat) : rank ls (s + 1) n = rank ls s n + if v = (n : Int) then 1 else 0 := by
  obtain ⟨hl, hv⟩ := List.getElem?_eq_some_iff.1 h
  unfold rank
  rw [List.take_succ_eq_append_getElem hl, List.countP_append, hv]
  by_cases hvn : v = (n : Int) <;> simp [hvn]

/-- The codes given so far. -/
def partM (ls : List Int) (n s i : Nat) : Int := match ls[i]? with
  | some v => if v > 0 ∧ (v < n ∨ (v = n ∧ i < s)) then codeM ls i else 0
  | none => 0
def partsM (ls : List Int) (n s : Nat) : List Int := (List.range ls.length).map (partM ls n s)

theorem partsM_set {ls : List Int} {n s : Nat} {v : Int} (h : ls[s]? = some v) (hv : v = (n : Int)) (hn : 0 < n) : (partsM ls n s).set s (codeM ls s) = partsM ls n (s + 1) := by
  apply List.ext_getElem?
  intro i
  have hsl := (List.getElem?_eq_some_iff.1 h).1
  have hpl : (partsM ls n s).length = ls.length := by simp [partsM]
  rw [List.getElem?_set]
  by_cases hi : i < ls.length
  · have e1 : (partsM ls n (s + 1))[i]? = some (partM ls n (s + 1) i) := by simp [partsM, hi]
    have e0 : (partsM ls n s)[i]? = some (partM ls n s i) := by simp [partsM, hi]
    rw [e1, e0]
    by_cases hsi : s = i
    · subst hsi
      rw [if_pos rfl, if_pos (by omega)]
      unfold partM
      rw [h]
      simp only
      rw [if_pos ⟨by omega, by omega⟩]
    · rw [if_neg hsi]
      unfold partM
      have hg : ls[i]? = some ls[i] := List.getElem?_eq_getElem hi
      rw [hg]
      simp only
      by_cases hc : ls[i] > 0 ∧ (ls[i] < n ∨ (ls[i] = n ∧ i < s))
      · rw [if_pos hc, if_pos ⟨hc.1, by omega⟩]
      · rw [if_neg hc, if_neg fun hh => hc ⟨hh.1, by omega⟩]
  · rw [List.getElem?_eq_none_iff.2 (by simp [partsM]; omega), List.getElem?_eq_none_iff.2 (by simp [partsM]; omega), if_neg (by omega)]

theorem partsM_skip {ls : List Int} {n s : Nat} {v : Int} (h : ls[s]? = some v) (hv : v ≠ (n : Int)) : partsM ls n s = partsM ls n (s + 1) := by
  apply List.map_congr_left
  intro i hi
  unfold partM
  have hil : i < ls.length := List.mem_range.1 hi
  have hg : ls[i]? = some ls[i] := List.getElem?_eq_getElem hil
  rw [hg]
  simp only
  by_cases hsi : i = s
  · subst hsi
    rw [hg] at h; cases h
    by_cases hc : ls[i] > 0 ∧ (ls[i] < n ∨ (ls[i] = n ∧ i < i))
    · rw [if_pos hc, if_pos ⟨hc.1, by omega⟩]
    · rw [if_neg hc, if_neg fun hh => hc ⟨hh.1, by omega⟩]
  · by_cases hc : ls[i] > 0 ∧ (ls[i] < n ∨ (ls[i] = n ∧ i < s))
    · rw [if_pos hc, if_pos ⟨hc.1, by omega⟩]
    · rw [if_neg hc, if_neg fun hh => hc ⟨hh.1, by omega⟩]

theorem partsM_next (ls : List Int) (n : Nat) : partsM ls n ls.length = partsM ls (n + 1) 0 := by
  apply List.map_congr_left
  intro i hi
  unfold partM
  have hil : i < ls.length := List.mem_range.1 hi
  have hg : ls[i]? = some ls[i] := List.getElem?_eq_getElem hil
  rw [hg]
  simp only
  by_cases hc : ls[i] > 0 ∧ (ls[i] < n ∨ (ls[i] = n ∧ i < ls.length))
  · rw [if_pos hc, if_pos ⟨hc.1, by omega⟩]
  · rw [if_neg hc, if_neg fun hh => hc ⟨hh.1, by omega⟩]

theorem partsM_first (ls : List Int) : partsM ls 1 0 = List.replicate ls.length 0 := by
  apply List.ext_getElem?
  intro i
  by_cases hi : i < ls.length
  · simp only [partsM, List.getElem?_map, List.getElem?_range hi, Option.map_some, List.getElem?_replicate, if_pos hi]
    unfold partM
    have hg : ls[i]? = some ls[i] := List.getElem?_eq_getElem hi
    rw [hg]
    simp only
    rw [if_neg (by omega)]
  · rw [List.getElem?_eq_none_iff.2 (by simp [partsM]; omega), List.getElem?_eq_none_iff.2 (by simp; omega)]

theorem partsM_last {ls : List Int} (h : ∀ n ∈ ls, 0 ≤ n ∧ n ≤ 16) : partsM ls 17 0 = codesM ls := by
  apply List.map_congr_left
  intro i hi
  have hil : i < ls.length := List.mem_range.1 hi
  have hg : ls[i]? = some ls[i] := List.getElem?_eq_getElem hil
  have hr := h _ (List.getElem_mem hil)
  unfold partM
  rw [hg]
  simp only
  by_cases hp : ls[i] > 0
  · rw [if_pos ⟨hp, by omega⟩]
  · rw [if_neg (fun hh => hp hh.1)]
    unfold codeM
    rw [hg]
    simp only
    rw [if_neg hp]

set_option maxHeartbeats 1000000 in
theorem c37 {H : Heap} {p : Option Addr} {l c : Nat} {ls : List Int} (h : IS H p l (ints ls)) {R : Value → Heap → Prop} (hbad : ¬ OkC ls → R (.tuple #[.slice none 0 0, .bool false]) H)
    (hgood : OkC ls → ∀ H' b, FS H.size H' (some ⟨b, 0, none⟩) l l 3 1 (ints (codesM ls)) → Ext H H' → R (.tuple #[.slice (some ⟨b, 0, none⟩) l l, .bool true]) H') : CallsH Try.prog 37 #[.slice p l c] H R := by
  have hl : ls.length = l := by have := h.len; rw [ints_len] at this; omega
  refine Try.s37 ?_
  unfold Try.S37 alc
  refine c44 h (fun hn => ⟨_, _, rfl, fun J hJ => br_t rfl (hbad fun ok => hn ok.w)⟩) (fun okw => ⟨_, _, rfl, ?_⟩)
  intro J hJ
  refine br_f rfl (br_dec (fun hgt => hbad fun ok => by have := ok.le; omega) (fun hle => hJ H ?_))
  have ok : OkC ls := ⟨okw, by omega⟩
  have l300 := okw.len
  rw [Int.toNat_natCast]
  refine ⟨by omega, by omega, by omega, by omega, ?_⟩
  have hb2 := get_push_self H (.cells (List.toArray (reps l [Value.int .i64 0])) 3)
  have e2 : Ext H (H.push (.cells (List.toArray (reps l [Value.int .i64 0])) 3)) := Ext.push _ _
  have out2 : FS H.size (H.push (.cells (List.toArray (reps l [Value.int .i64 0])) 3)) (some ⟨H.size, 0, none⟩) l l 3 1 (ints (partsM ls 1 0)) := by
    rw [partsM_first, hl]; exact zeros_FS (Nat.le_refl _) hb2
  generalize H.push (.cells (List.toArray (reps l [Value.int .i64 0])) 3) = H2 at e2 out2
  intro X hX
  have one : (0 : Int) ≤ 1 := by omega
  have levels : ∀ (m n : Nat) (H3 : Heap), 17 - n = m → 1 ≤ n → n ≤ 17 → Ext H H3 → FS H.size H3 (some ⟨H.size, 0, none⟩) l l 3 1 (ints (partsM ls n 0)) → X [.int .i64 (base ls (n - 1) + cnt ls (n - 1)), .int .i64 n] H3 := by
    intro m
    induction m with
    | zero =>
      intro n H3 hm hn1 hn e3 f3
      have : n = 17 := by omega
      subst this
      rw [partsM_last okw.rng] at f3
      exact hX _ _ H3 (br_n (by omega) (hgood ok H3 H.size f3 e3))
    | succ m ih =>
      intro n H3 hm hn1 hn e3 f3
      have wn : IntKind.wrap .i64 ((n : Int) + 1) = ((n + 1 : Nat) : Int) := by rw [wrap_id (by omega) (by omega)]; omega
      have hbs := base_small l300 (n := n - 1) (by omega)
      have hcs := cnt_le ls (n - 1)
      have hbn : shlI .i64 (base ls (n - 1) + cnt ls (n - 1)) (1 : Int) = base ls n := by
        rw [shl64 (by omega) (by omega) (by omega) (by omega)]
        have : n = n - 1 + 1 := by omega
        rw [this]
        show _ = 2 * (base ls (n - 1) + cnt ls (n - 1))
        simp; omega
      refine hX _ _ H3 (br_y (by omega) ⟨one, ?_⟩)
      rw [hbn, wn]
      intro Y hY
      have inner : ∀ (m2 s : Nat) (H4 : Heap), l - s = m2 → s ≤ l → Ext H H4 → FS H.size H4 (some ⟨H.size, 0, none⟩) l l 3 1 (ints (partsM ls n s)) → Y [.int .i64 (base ls n + rank ls s n), .int .i64 s] H4 := by
        intro m2
        induction m2 with
        | zero =>
          intro s H4 hm2 hs e4 f4
          have : s = ls.length := by omega
          subst this
          refine hY _ _ H4 (br_n (by omega) ?_)
          rw [partsM_next] at f4
          have := ih (n + 1) H4 (by omega) (by omega) (by omega) e4 f4
          have hc : cnt ls (n + 1 - 1) = rank ls ls.length n := by rw [Nat.add_sub_cancel]; unfold cnt; rw [if_neg (by omega)]
          rw [hc, Nat.add_sub_cancel] at this
          exact this
        | succ m2 ih2 =>
          intro s H4 hm2 hs e4 f4
          have ws : IntKind.wrap .i64 ((s : Int) + 1) = ((s + 1 : Nat) : Int) := by rw [wrap_id (by omega) (by omega)]; omega
          have hsl : s < ls.length := by omega
          have hv : ls[s]? = some ls[s] := List.getElem?_eq_getElem hsl
          generalize ls[s] = v at hv
          obtain ⟨blk, hp, cv⟩ := (h.ext e4).cell (ints_get hv)
          have hb := base_small l300 (n := n) (by omega)
          have hr := rank_le ls s n
          have hrs := rank_snoc hv n
          refine hY _ _ H4 (br_y (by omega) ⟨_, hp, by omega, by omega, v, by simpa using cv, br_eq (fun heq => ⟨_, rfl, by omega, by omega, ?_⟩) (fun hne => ?_)⟩)
          · rw [ws]
            simp only [add_none, Nat.zero_add, Nat.mul_one, Int.toNat_natCast]
            have hcode : base ls n + (rank ls s n : Int) = codeM ls s := by
              unfold codeM
              rw [hv]
              simp only
              rw [if_pos (by omega), heq, Int.toNat_natCast]
            have hw : IntKind.wrap .i64 (base ls n + (rank ls s n : Int) + 1) = base ls n + (rank ls (s + 1) n : Int) := by
              rw [wrap_id (by omega) (by omega), hrs, if_pos heq]; omega
            rw [hw]
            refine f4.set (by rw [ints_len]; simp [partsM]; omega) rfl fun H5 f5 hk5 hs5 => ?_
            rw [ints_set, hcode, partsM_set hv heq (by omega)] at f5
            exact ih2 (s + 1) H5 (by omega) (by omega) (fun b o hb => hk5 b o (e4 b o hb) (by have := lt_of_get hb; omega)) f5
          · rw [ws]
            rw [partsM_skip hv hne] at f4
            have := ih2 (s + 1) H4 (by omega) (by omega) e4 f4
            rw [hrs, if_neg hne, Nat.add_zero] at this
            exact this
      have := inner l 0 H3 (by omega) (by omega) e3 f3
      simpa [rank] using this
  have := levels 16 1 H2 rfl (by omega) (by omega) e2 out2
  simpa [base, cnt] using this

set_option maxHeartbeats 1000000 in
theorem c33 {H : Heap} {p : Option Addr} {l c : Nat} {ls : List Int} (h : IS H p l (ints ls)) {R : Value → Heap → Prop} (hbad : ¬ OkC ls → R (.tuple #[.slice none 0 0, .bool false]) H)
    (hgood : OkC ls → ∀ H' b, FS H.size H' (some ⟨b, 0, none⟩) l l 3 1 (ints (codesM ls)) → Ext H H' → R (.tuple #[.slice (some ⟨b, 0, none⟩) l l, .bool true]) H') : CallsH Try.prog 33 #[.slice p l c] H R := by
  have hl : ls.length = l := by have := h.len; rw [ints_len] at this; omega
  refine Try.s33 ?_
  unfold Try.S33 alc
  refine c32 h (fun hn => ⟨_, _, rfl, fun J hJ => br_t rfl (hbad fun ok => hn ok.w)⟩) (fun okw => ⟨_, _, rfl, ?_⟩)
  intro J hJ
  refine br_f rfl (br_dec (fun hgt => hbad fun ok => by have := ok.le; omega) (fun hle => hJ H ?_))
  have ok : OkC ls := ⟨okw, by omega⟩
  have l300 := okw.len
  rw [Int.toNat_natCast]
  refine ⟨by omega, by omega, by omega, by omega, ?_⟩
  have hb2 := get_push_self H (.cells (List.toArray (reps l [Value.int .i64 0])) 3)
  have e2 : Ext H (H.push (.cells (List.toArray (reps l [Value.int .i64 0])) 3)) := Ext.push _ _
  have out2 : FS H.size (H.push (.cells (List.toArray (reps l [Value.int .i64 0])) 3)) (some ⟨H.size, 0, none⟩) l l 3 1 (ints (partsM ls 1 0)) := by
    rw [partsM_first, hl]; exact zeros_FS (Nat.le_refl _) hb2
  generalize H.push (.cells (List.toArray (reps l [Value.int .i64 0])) 3) = H2 at e2 out2
  intro X hX
  -- the code given last, and its length
  let Inv : Nat → Nat → Int → Nat → Prop := fun n s code last => (last = 0 ∧ code = 0 ∧ base ls n + rank ls s n = 0) ∨ (1 ≤ last ∧ last ≤ n ∧ 0 ≤ code ∧ (code + 1) * 2 ^ (n - last) = base ls n + rank ls s n)
  have levels : ∀ (m n : Nat) (H3 : Heap) (code : Int) (last : Nat), 17 - n = m → 1 ≤ n → n ≤ 17 → Ext H H3 → FS H.size H3 (some ⟨H.size, 0, none⟩) l l 3 1 (ints (partsM ls n 0)) → Inv n 0 code last → X [.int .i64 code, .int .i64 last, .int .i64 n] H3 := by
    intro m
    induction m with
    | zero =>
      intro n H3 code last hm hn1 hn e3 f3 hi
      have : n = 17 := by omega
      subst this
      rw [partsM_last okw.rng] at f3
      exact hX _ _ _ H3 (br_n (by omega) (hgood ok H3 H.size f3 e3))
    | succ m ih =>
      intro n H3 code last hm hn1 hn e3 f3 hi
      have wn : IntKind.wrap .i64 ((n : Int) + 1) = ((n + 1 : Nat) : Int) := by rw [wrap_id (by omega) (by omega)]; omega
      have hb := base_small l300 (n := n) (by omega)
      refine hX _ _ _ H3 (br_y (by omega) ?_)
      rw [wn]
      intro Y hY
      have inner : ∀ (m2 s : Nat) (H4 : Heap) (code : Int) (last : Nat), l - s = m2 → s ≤ l → Ext H H4 → FS H.size H4 (some ⟨H.size, 0, none⟩) l l 3 1 (ints (partsM ls n s)) → Inv n s code last → Y [.int .i64 code, .int .i64 last, .int .i64 s] H4 := by
        intro m2
        induction m2 with
        | zero =>
          intro s H4 code last hm2 hs e4 f4 hi
          have : s = ls.length := by omega
          subst this
          refine hY _ _ _ H4 (br_n (by omega) ?_)
          rw [partsM_next] at f4
          refine ih (n + 1) H4 code last (by omega) (by omega) (by omega) e4 f4 ?_
          have hc : base ls (n + 1) = 2 * (base ls n + rank ls ls.length n) := by
            show 2 * (base ls n + cnt ls n) = _
            unfold cnt; rw [if_neg (by omega)]
          have hr0 : rank ls 0 (n + 1) = 0 := by simp [rank]
          rcases hi with ⟨a1, a2, a3⟩ | ⟨a1, a2, a3, a4⟩
          · exact .inl ⟨a1, a2, by rw [hc, hr0]; omega⟩
          · refine .inr ⟨a1, by omega, a3, ?_⟩
            have e : n + 1 - last = n - last + 1 := by omega
            rw [hc, hr0, ← a4, e, Int.pow_succ, ← Int.mul_assoc]
            omega
        | succ m2 ih2 =>
          intro s H4 code last hm2 hs e4 f4 hi
          have ws : IntKind.wrap .i64 ((s : Int) + 1) = ((s + 1 : Nat) : Int) := by rw [wrap_id (by omega) (by omega)]; omega
          have hsl : s < ls.length := by omega
          have hv : ls[s]? = some ls[s] := List.getElem?_eq_getElem hsl
          generalize ls[s] = v at hv
          obtain ⟨blk, hp, cv⟩ := (h.ext e4).cell (ints_get hv)
          have hr := rank_le ls s n
          have hrs := rank_snoc hv n
          refine hY _ _ _ H4 (br_y (by omega) ⟨_, hp, by omega, by omega, v, by simpa using cv, br_ne (fun hne => ?_) (fun heq => ?_)⟩)
          · rw [ws]
            rw [partsM_skip hv hne] at f4
            refine ih2 (s + 1) H4 code last (by omega) (by omega) e4 f4 ?_
            show (_ ∧ _ ∧ base ls n + (rank ls (s + 1) n : Int) = 0) ∨ (_ ∧ _ ∧ _ ∧ _ = base ls n + (rank ls (s + 1) n : Int))
            rw [hrs, if_neg hne, Nat.add_zero]
            exact hi
          · intro J2 hJ2
            have hcode : base ls n + (rank ls s n : Int) = codeM ls s := by
              unfold codeM
              rw [hv]
              simp only
              rw [if_pos (by omega), heq, Int.toNat_natCast]
            have go : J2 [.int .i64 (base ls n + (rank ls s n : Int))] H4 := by
              refine hJ2 _ H4 ⟨_, rfl, by omega, by omega, ?_⟩
              rw [ws]
              simp only [add_none, Nat.zero_add, Nat.mul_one, Int.toNat_natCast]
              refine f4.set (by rw [ints_len]; simp [partsM]; omega) rfl fun H5 f5 hk5 hs5 => ?_
              rw [ints_set, hcode, partsM_set hv heq (by omega)] at f5
              refine ih2 (s + 1) H5 _ n (by omega) (by omega) (fun b o hb => hk5 b o (e4 b o hb) (by have := lt_of_get hb; omega)) f5 (.inr ⟨hn1, Nat.le_refl _, by omega, ?_⟩)
              rw [hrs, if_pos heq, Nat.sub_self]
              simp; omega
            rcases hi with ⟨a1, a2, a3⟩ | ⟨a1, a2, a3, a4⟩
            · refine br_n (by omega) ?_
              rw [a2, ← a3]; exact go
            · refine br_y (by omega) ?_
              have w1 : IntKind.wrap .i64 ((n : Int) - last) = ((n - last : Nat) : Int) := by rw [wrap_id (by omega) (by omega)]; omega
              have p1 : (1 : Int) ≤ 2 ^ (n - last) := Int.pow_pos (by omega)
              have hcb : code + 1 ≤ (code + 1) * 2 ^ (n - last) := by
                have := Int.mul_le_mul_of_nonneg_left p1 (show 0 ≤ code + 1 by omega)
                omega
              have w2 : IntKind.wrap .i64 (code + 1) = code + 1 := wrap_id (by omega) (by omega)
              rw [w1, w2, shl64 (by omega) (by omega) (by omega) (by omega), Int.toNat_natCast, a4]
              exact ⟨by omega, go⟩
      exact inner l 0 H3 code last (by omega) (by omega) e3 f3 hi
  exact levels 16 1 H2 0 0 rfl (by omega) (by omega) e2 out2 (.inl ⟨rfl, rfl, by simp [base, cnt, rank]⟩)

end Go.Proofs
