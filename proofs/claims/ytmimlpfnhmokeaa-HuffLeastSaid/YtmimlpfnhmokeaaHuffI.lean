/-
  OWN WORK. The anchor; codes begin no other ones (plain); HuffCodes and HuffApart over heaps.
-/
import Derived.Test.YtmimlpfnhmokeaaHuffH
set_option linter.unusedVariables false
set_option linter.unusedSimpArgs false
namespace Go.Proofs
open Go.Sh

theorem anc_codes : codesM [1, 3, 3, 0, 2] = [0, 6, 7, 0, 2] := by decide +kernel
theorem anc_lens : lenM [5, 1, 1, 0, 1] 3 = [1, 3, 3, 0, 2] ∨ (∃ a b d : Int, lenM [5, 1, 1, 0, 1] 3 = [1, a, b, 0, d] ∧ a + b + d = 8 ∧ 0 ≤ a ∧ 0 ≤ b ∧ 0 ≤ d) := by
  right
  have : lenM [5, 1, 1, 0, 1] 3 = [1, (lenM [5, 1, 1, 0, 1] 3).getD 1 0, (lenM [5, 1, 1, 0, 1] 3).getD 2 0, 0, (lenM [5, 1, 1, 0, 1] 3).getD 4 0] := by decide +kernel
  exact ⟨_, _, _, this, by decide +kernel, by decide +kernel, by decide +kernel, by decide +kernel⟩

theorem c10 {H : Heap} {R : Value → Heap → Prop} (hR : ∀ H', Ext H H' → R (.bool true) H') : CallsH Try.prog 10 #[] H R := by
  refine Try.s10 (_u := ()) ?_
  unfold Try.S10 alc
  have hb1 := get_push_self H (.cells #[Value.int .i64 1, Value.int .i64 3, Value.int .i64 3, Value.int .i64 0, Value.int .i64 2] 3)
  have e1 : Ext H (H.push (.cells #[Value.int .i64 1, Value.int .i64 3, Value.int .i64 3, Value.int .i64 0, Value.int .i64 2] 3)) := Ext.push _ _
  have r1 : RS (H.push (.cells #[Value.int .i64 1, Value.int .i64 3, Value.int .i64 3, Value.int .i64 0, Value.int .i64 2] 3)) (some ⟨H.size, 0, none⟩) 5 3 1 (ints [1, 3, 3, 0, 2]) := ⟨rfl, ints_one _, .inr ⟨H.size, _, rfl, hb1, fun i v hv => by simpa [ints] using hv⟩⟩
  generalize H.push (.cells #[Value.int .i64 1, Value.int .i64 3, Value.int .i64 3, Value.int .i64 0, Value.int .i64 2] 3) = H1 at hb1 e1 r1
  refine c16 r1.is (fun hn => absurd (⟨⟨by decide, by decide⟩, by decide +kernel⟩ : OkC [1, 3, 3, 0, 2]) hn) (fun _ H2 b f2 e2 => ⟨_, _, _, _, rfl, ?_⟩)
  rw [anc_codes] at f2
  have hb3 := get_push_self H2 (.cells #[Value.int .i64 5, Value.int .i64 1, Value.int .i64 1, Value.int .i64 0, Value.int .i64 1] 3)
  have e3 : Ext H2 (H2.push (.cells #[Value.int .i64 5, Value.int .i64 1, Value.int .i64 1, Value.int .i64 0, Value.int .i64 1] 3)) := Ext.push _ _
  have r3 : RS (H2.push (.cells #[Value.int .i64 5, Value.int .i64 1, Value.int .i64 1, Value.int .i64 0, Value.int .i64 1] 3)) (some ⟨H2.size, 0, none⟩) 5 3 1 (ints [5, 1, 1, 0, 1]) := ⟨rfl, ints_one _, .inr ⟨H2.size, _, rfl, hb3, fun i v hv => by simpa [ints] using hv⟩⟩
  generalize H2.push (.cells #[Value.int .i64 5, Value.int .i64 1, Value.int .i64 1, Value.int .i64 0, Value.int .i64 1] 3) = H3 at hb3 e3 r3
  refine c11 r3.is (by omega) (fun H4 e4 hn => absurd (⟨by omega, by omega, by decide, by decide, by decide +kernel⟩ : OkL [5, 1, 1, 0, 1] 3) hn) (fun _ H4 b4 f4 e4 => ⟨_, _, _, _, rfl, ?_⟩)
  have e : Ext H H4 := e1.trans (e2.trans (e3.trans e4))
  have f2' := f2.ext (e3.trans e4)
  have g : ∀ {i : Nat} {v : Int}, ([0, 6, 7, 0, 2] : List Int)[i]? = some v → cell H4 ⟨b, i, none⟩ = some (.int .i64 v) := fun hv => by
    obtain ⟨blk, h1, h2⟩ := f2'.rs.cell (ints_get hv)
    cases h1; exact h2
  obtain ⟨x, y, z, hl, hs, hx, hy, hz⟩ : ∃ a b d : Int, lenM [5, 1, 1, 0, 1] (3 : Int).toNat = [1, a, b, 0, d] ∧ a + b + d = 8 ∧ 0 ≤ a ∧ 0 ≤ b ∧ 0 ≤ d := by
    rcases anc_lens with h | h
    · exact ⟨3, 3, 2, h, by decide, by decide, by decide, by decide⟩
    · exact h
  rw [hl] at f4
  have gl : ∀ {i : Nat} {v : Int}, ([1, x, y, 0, z] : List Int)[i]? = some v → cell H4 ⟨b4, i, none⟩ = some (.int .i64 v) := fun hv => by
    obtain ⟨blk, h1, h2⟩ := f4.rs.cell (ints_get hv)
    cases h1; exact h2
  refine br_t rfl (br_t rfl (br_t rfl ⟨_, rfl, by omega, by omega, 0, g rfl, br_t rfl ⟨_, rfl, by omega, by omega, 6, g rfl, br_t rfl ⟨_, rfl, by omega, by omega, 7, g rfl, br_t rfl ⟨_, rfl, by omega, by omega, 2, g rfl, br_t rfl (br_t rfl ⟨_, rfl, by omega, by omega, 1, gl rfl, br_t rfl ⟨_, rfl, by omega, by omega, 0, gl rfl, br_t rfl ⟨_, rfl, by omega, by omega, x, gl rfl, _, rfl, by omega, by omega, y, gl rfl, _, rfl, by omega, by omega, z, gl rfl, ?_⟩⟩⟩)⟩⟩⟩⟩))
  rw [wrap_id (n := x + y) (by omega) (by omega), wrap_id (n := x + y + z) (by omega) (by omega), hs]
  exact hR H4 e

/-! ### plain: no code begins another -/

def W (ls : List Int) : Nat → Int
  | 0 => 0
  | n + 1 => W ls n + (rank ls ls.length (n + 1) : Int) * 2 ^ (16 - (n + 1))

theorem rank_all_cons (n : Int) (r : List Int) (k : Nat) : (rank (n :: r) (n :: r).length k : Int) = rank r r.length k + if n = (k : Int) then 1 else 0 := by
  unfold rank
  rw [List.take_length, List.take_length, List.countP_cons]
  by_cases h : n = (k : Int) <;> simp [h]

theorem W_cons (n : Int) (r : List Int) (h0 : 0 ≤ n) : ∀ m : Nat, W (n :: r) m = W r m + if 1 ≤ n ∧ n ≤ (m : Int) then 2 ^ (16 - n.toNat) else 0
  | 0 => by
    simp only [W]
    rw [if_neg (by omega)]; rfl
  | m + 1 => by
    simp only [W]
    rw [W_cons n r h0 m, rank_all_cons, Int.add_mul]
    by_cases hn : n = ((m + 1 : Nat) : Int)
    · rw [if_neg (by omega), if_pos hn, if_pos (by omega)]
      have : n.toNat = m + 1 := by omega
      rw [this]; omega
    · rw [if_neg hn]
      by_cases h : 1 ≤ n ∧ n ≤ (m : Int)
      · rw [if_pos h, if_pos (by omega)]; omega
      · rw [if_neg h, if_neg (by omega)]; omega

theorem W_all {ls : List Int} (h : ∀ n ∈ ls, 0 ≤ n ∧ n ≤ 16) : W ls 16 = wtM ls := by
  induction ls with
  | nil => simp [W, wtM, rank]
  | cons n r ih =>
    have hn := h n List.mem_cons_self
    rw [W_cons n r hn.1, ih fun x hx => h x (List.mem_cons_of_mem _ hx)]
    unfold wtM
    simp only [List.map_cons, List.sum_cons]
    unfold wt
    by_cases hp : n > 0
    · rw [if_pos (by omega), if_pos hp]
      have : (16 - n).toNat = 16 - n.toNat := by omega
      rw [this]; omega
    · rw [if_neg (by omega), if_neg hp]; omega

theorem W_mono (ls : List Int) {m n : Nat} (h : m ≤ n) : W ls m ≤ W ls n := by
  induction n with
  | zero => have : m = 0 := by omega
            subst this; exact Int.le_refl _
  | succ n ih =>
    by_cases hm : m = n + 1
    · subst hm; exact Int.le_refl _
    · have := ih (by omega)
      have h2 : 0 ≤ (rank ls ls.length (n + 1) : Int) * 2 ^ (16 - (n + 1)) := Int.mul_nonneg (by omega) (Int.pow_nonneg (by omega))
      simp only [W]
      omega

theorem base_W (ls : List Int) : ∀ n : Nat, n ≤ 16 → (base ls n + cnt ls n) * 2 ^ (16 - n) = W ls n
  | 0, _ => by simp [base, cnt, W]
  | n + 1, h => by
    have ih := base_W ls n (by omega)
    have hc : cnt ls (n + 1) = rank ls ls.length (n + 1) := by unfold cnt; rw [if_neg (by omega)]
    have e : 16 - n = 16 - (n + 1) + 1 := by omega
    rw [e, Int.pow_succ] at ih
    simp only [W, base]
    rw [hc, Int.add_mul, ← ih]
    generalize (2 : Int) ^ (16 - (n + 1)) = z
    rw [Int.mul_comm z 2, ← Int.mul_assoc, Int.mul_comm (base ls n + (cnt ls n : Int)) 2]

theorem pow_split {n : Nat} (h : n ≤ 16) : (65536 : Int) = 2 ^ n * 2 ^ (16 - n) := by
  rw [← Int.pow_add]
  have : n + (16 - n) = 16 := by omega
  rw [this]; decide

theorem base_cnt_le {ls : List Int} (ok : OkC ls) {n : Nat} (hn : n ≤ 16) : base ls n + cnt ls n ≤ 2 ^ n := by
  have h1 := base_W ls n hn
  have h2 := W_mono ls hn
  rw [W_all ok.w.rng] at h2
  have h3 := ok.le
  have h4 := pow_split hn
  have hp : (0 : Int) < 2 ^ (16 - n) := Int.pow_pos (by omega)
  rw [← h1] at h2
  have : (base ls n + cnt ls n) * 2 ^ (16 - n) ≤ 2 ^ n * 2 ^ (16 - n) := by omega
  exact Int.le_of_mul_le_mul_right this hp

theorem rank_mono (ls : List Int) (n : Nat) {i j : Nat} (h : i ≤ j) : rank ls i n ≤ rank ls j n := by
  unfold rank
  have : (ls.take i) = (ls.take j).take i := by rw [List.take_take]; congr 1; omega
  rw [this]
  exact List.Sublist.countP_le (List.take_sublist _ _)

theorem rank_lt {ls : List Int} {i j n : Nat} (hi : ls[i]? = some (n : Int)) (h : i < j) : rank ls i n < rank ls j n := by
  have h1 := rank_snoc hi n
  rw [if_pos rfl] at h1
  have := rank_mono ls n (show i + 1 ≤ j by omega)
  omega

theorem rank_lt_cnt {ls : List Int} {i n : Nat} (hi : ls[i]? = some (n : Int)) (hn : 0 < n) : rank ls i n < cnt ls n := by
  unfold cnt
  rw [if_neg (by omega)]
  exact rank_lt hi (List.getElem?_eq_some_iff.1 hi).1

theorem codeM_pos {ls : List Int} {i n : Nat} (hi : ls[i]? = some (n : Int)) (hn : 0 < n) : codeM ls i = base ls n + rank ls i n := by
  unfold codeM
  rw [hi]
  simp only
  rw [if_pos (by omega), Int.toNat_natCast]

theorem code_rng {ls : List Int} (ok : OkC ls) {i n : Nat} (hi : ls[i]? = some (n : Int)) (hn : 0 < n) : 0 ≤ codeM ls i ∧ codeM ls i < 2 ^ n := by
  have hr := ok.w.rng _ (List.mem_of_getElem? hi)
  have h1 := base_cnt_le ok (n := n) (by omega)
  have h2 := rank_lt_cnt hi hn
  have h3 := (base_rng ls n).1
  rw [codeM_pos hi hn]
  omega

theorem base_later {ls : List Int} {n : Nat} (hn : 0 < n) : ∀ d : Nat, 0 < d → (base ls n + cnt ls n) * 2 ^ d ≤ base ls (n + d)
  | 0, h => by omega
  | 1, _ => by
    show _ ≤ 2 * (base ls n + cnt ls n)
    simp; omega
  | d + 2, _ => by
    have ih := base_later (ls := ls) hn (d + 1) (by omega)
    have e : n + (d + 2) = n + (d + 1) + 1 := by omega
    rw [e, Int.pow_succ, ← Int.mul_assoc]
    show _ ≤ 2 * (base ls (n + (d + 1)) + cnt ls (n + (d + 1)))
    omega

/-- No code begins another. -/
theorem no_prefix {ls : List Int} (ok : OkC ls) {i j n m : Nat} (hij : i ≠ j) (hi : ls[i]? = some (n : Int)) (hj : ls[j]? = some (m : Int)) (hn : 0 < n) (hnm : n ≤ m) : codeM ls j / 2 ^ (m - n) ≠ codeM ls i := by
  intro he
  have ci := codeM_pos hi hn
  have cj := codeM_pos hj (by omega)
  have ri := rank_lt_cnt hi hn
  by_cases h : m = n
  · subst h
    rw [Nat.sub_self, Int.pow_zero, Int.ediv_one, ci, cj] at he
    rcases Nat.lt_or_ge i j with h | h
    · have := rank_lt hi h; omega
    · have := rank_lt hj (show j < i by omega); omega
  · have hb := base_later (ls := ls) hn (m - n) (by omega)
    have e : n + (m - n) = m := by omega
    rw [e] at hb
    have hp : (0 : Int) < 2 ^ (m - n) := Int.pow_pos (by omega)
    have h1 : base ls n + cnt ls n ≤ codeM ls j / 2 ^ (m - n) := by
      refine (Int.le_ediv_iff_mul_le hp).2 ?_
      rw [cj]; omega
    rw [he, ci] at h1
    omega

theorem codesM_get {ls : List Int} {i : Nat} (hi : i < ls.length) : (codesM ls)[i]? = some (codeM ls i) := by simp [codesM, hi]
theorem codesM_len (ls : List Int) : (codesM ls).length = ls.length := by simp [codesM]

/-! ### the laws -/

theorem law5 {H : Heap} {p : Option Addr} {l c : Nat} {ls : List Int} (h : IS H p l (ints ls)) : CallsH Try.prog 5 #[.slice p l c] H (fun u H' => u = .bool true ∧ Ext H H') := by
  have hl : ls.length = l := by have := h.len; rw [ints_len] at this; omega
  refine Try.s5 ?_
  generalize hRd : (fun (u : Value) (H' : Heap) => u = Value.bool true ∧ Ext H H') = R
  have R1 : ∀ H', Ext H H' → R (.bool true) H' := fun H' e => by subst hRd; exact ⟨rfl, e⟩
  clear hRd
  unfold Try.S5
  refine c10 fun H1 e1 => ⟨_, rfl, br_f rfl (br_dec (fun _ => R1 H1 e1) (fun h1000 => ?_))⟩
  have h1 := h.ext e1
  by_cases okw : OkW ls
  · refine c15 h1 (fun hn => absurd okw hn) fun _ => ⟨_, _, rfl, ?_⟩
    refine c12 h1 (fun hn => absurd okw hn) fun _ => ⟨_, _, rfl, ?_⟩
    by_cases okc : OkC ls
    · refine c16 h1 (fun hn => absurd okc hn) fun _ H2 b2 f2 e2 => ⟨_, _, _, _, rfl, ?_⟩
      refine c17 (h1.ext e2) (fun hn => absurd okc hn) fun _ H3 b3 f3 e3 => ⟨_, _, _, _, rfl, ?_⟩
      have l300 := okw.len
      intro J hJ
      refine br_f (by simp) (br_f (by simp) (br_f (by simp) (br_f (by simp) (hJ H3 ?_))))
      intro X hX
      have g2 := f2.ext e3
      have loop : ∀ (m i : Nat), l - i = m → i ≤ l → X [.int .i64 i] H3 := by
        intro m
        induction m with
        | zero => intro i hm hi; exact hX _ H3 (br_n (by omega) (R1 H3 (e1.trans (e2.trans e3))))
        | succ m ih =>
          intro i hm hi
          have wi : IntKind.wrap .i64 ((i : Int) + 1) = ((i + 1 : Nat) : Int) := by rw [wrap_id (by omega) (by omega)]; omega
          have hg := codesM_get (ls := ls) (i := i) (by omega)
          obtain ⟨blk, q1, v1⟩ := g2.rs.cell (ints_get hg)
          obtain ⟨blk', q2, v2⟩ := f3.rs.cell (ints_get hg)
          cases q1; cases q2
          refine hX _ H3 (br_y (by omega) ⟨_, rfl, by omega, by omega, _, by simpa using v1, _, rfl, by omega, by omega, _, by simpa using v2, br_ne (fun hh => absurd rfl hh) (fun _ => ?_)⟩)
          rw [wi]
          exact ih (i + 1) (by omega) (by omega)
      exact loop l 0 (by omega) (by omega)
    · refine c16 h1 (fun _ => ⟨_, _, _, _, rfl, ?_⟩) fun ok => absurd ok okc
      refine c17 h1 (fun _ => ⟨_, _, _, _, rfl, ?_⟩) fun ok => absurd ok okc
      intro J hJ
      refine br_f (by simp) (br_f (by simp) (br_f (by simp) (br_f (by simp) (hJ H1 ?_))))
      intro X hX
      exact hX _ H1 (br_n (by omega) (R1 H1 e1))
  · have okc : ¬ OkC ls := fun ok => okw ok.w
    refine c15 h1 (fun _ => ⟨_, _, rfl, ?_⟩) fun ok => absurd ok okw
    refine c12 h1 (fun _ => ⟨_, _, rfl, ?_⟩) fun ok => absurd ok okw
    refine c16 h1 (fun _ => ⟨_, _, _, _, rfl, ?_⟩) fun ok => absurd ok okc
    refine c17 h1 (fun _ => ⟨_, _, _, _, rfl, ?_⟩) fun ok => absurd ok okc
    intro J hJ
    refine br_f (by simp) (br_f (by simp) (br_f (by simp) (br_f (by simp) (hJ H1 ?_))))
    intro X hX
    exact hX _ H1 (br_n (by omega) (R1 H1 e1))

set_option maxHeartbeats 1000000 in
theorem law6 {H : Heap} {p : Option Addr} {l c : Nat} {ls : List Int} (h : IS H p l (ints ls)) : CallsH Try.prog 6 #[.slice p l c] H (fun u H' => u = .bool true ∧ Ext H H') := by
  have hl : ls.length = l := by have := h.len; rw [ints_len] at this; omega
  refine Try.s6 ?_
  generalize hRd : (fun (u : Value) (H' : Heap) => u = Value.bool true ∧ Ext H H') = R
  have R1 : ∀ H', Ext H H' → R (.bool true) H' := fun H' e => by subst hRd; exact ⟨rfl, e⟩
  clear hRd
  unfold Try.S6
  refine c10 fun H1 e1 => ⟨_, rfl, br_f rfl (br_dec (fun _ => R1 H1 e1) (fun h120 => ?_))⟩
  refine c16 (h.ext e1) (fun _ => ⟨_, _, _, _, rfl, br_t rfl (R1 H1 e1)⟩) fun ok H2 b f2 e2 => ⟨_, _, _, _, rfl, br_f rfl (br_ne (fun hh => absurd rfl hh) (fun _ => ?_))⟩
  have e12 := e1.trans e2
  have h2 := h.ext e12
  intro X hX
  have lget : ∀ i, i < l → ∃ n : Nat, ls[i]? = some (n : Int) ∧ n ≤ 16 := fun i hi => by
    have hv : ls[i]? = some ls[i] := List.getElem?_eq_getElem (by omega)
    have hr := ok.w.rng _ (List.mem_of_getElem? hv)
    refine ⟨ls[i].toNat, ?_, by omega⟩
    rw [hv]; congr 1; omega
  have cget : ∀ i, i < l → cell H2 ⟨b, i, none⟩ = some (.int .i64 (codeM ls i)) := fun i hi => by
    obtain ⟨blk, q1, v1⟩ := f2.rs.cell (ints_get (codesM_get (ls := ls) (i := i) (by omega)))
    cases q1; exact v1
  have loop : ∀ (m i : Nat), l - i = m → i ≤ l → X [.int .i64 i] H2 := by
    intro m
    induction m with
    | zero => intro i hm hi; exact hX _ H2 (br_n (by omega) (R1 H2 e12))
    | succ m ih =>
      intro i hm hi
      have wi : IntKind.wrap .i64 ((i : Int) + 1) = ((i + 1 : Nat) : Int) := by rw [wrap_id (by omega) (by omega)]; omega
      obtain ⟨n, hn, hn16⟩ := lget i (by omega)
      obtain ⟨a, hp, cv⟩ := h2.cell (ints_get hn)
      have ci := cget i (by omega)
      refine hX _ H2 (br_y (by omega) ⟨_, hp, by omega, by omega, n, by simpa using cv, ?_⟩)
      rw [wi]
      intro J hJ
      have go : J [] H2 := by
        refine hJ H2 ?_
        intro Y hY
        have inner : ∀ (m2 j : Nat), l - j = m2 → j ≤ l → Y [.int .i64 j] H2 := by
          intro m2
          induction m2 with
          | zero => intro j hm2 hj; exact hY _ H2 (br_n (by omega) (ih (i + 1) (by omega) (by omega)))
          | succ m2 ih2 =>
            intro j hm2 hj
            have wj : IntKind.wrap .i64 ((j : Int) + 1) = ((j + 1 : Nat) : Int) := by rw [wrap_id (by omega) (by omega)]; omega
            obtain ⟨k, hk, hk16⟩ := lget j (by omega)
            obtain ⟨a', hp', cv'⟩ := h2.cell (ints_get hk)
            have cj := cget j (by omega)
            refine hY _ H2 (br_y (by omega) ?_)
            rw [wj]
            intro J2 hJ2
            have nxt : J2 [] H2 := hJ2 H2 (ih2 (j + 1) (by omega) (by omega))
            refine ⟨_, hp', by omega, by omega, k, by simpa using cv', br_ne (fun hne => br_dec (fun hpos => br_dec (fun hge => ?_) (fun _ => nxt)) (fun _ => nxt)) (fun _ => nxt)⟩
            have w1 : IntKind.wrap .i64 ((k : Int) - n) = ((k - n : Nat) : Int) := by rw [wrap_id (by omega) (by omega)]; omega
            rw [w1]
            refine ⟨_, rfl, by omega, by omega, codeM ls j, by simpa using cj, by omega, _, rfl, by omega, by omega, codeM ls i, by simpa using ci, br_eq (fun he => ?_) (fun _ => nxt)⟩
            rw [shr64 (by omega) (by omega), Int.toNat_natCast] at he
            exact absurd he (no_prefix ok (by omega) hn hk (by omega) (by omega))
        exact inner l 0 (by omega) (by omega)
      refine br_eq (fun h0 => ?_) (fun h0 => ?_)
      · have c0 : codeM ls i = 0 := by unfold codeM; rw [hn]; simp only; rw [if_neg (by omega)]
        refine ⟨_, rfl, by omega, by omega, codeM ls i, by simpa using ci, br_ne (fun hh => absurd c0 hh) (fun _ => br_n (by omega) go)⟩
      · have hr := code_rng ok hn (by omega)
        refine br_y (by omega) ⟨_, rfl, by omega, by omega, codeM ls i, by simpa using ci, br_n (by omega) ⟨_, rfl, by omega, by omega, codeM ls i, by simpa using ci, by omega, ?_⟩⟩
        rw [shl64 (by omega) (by omega) (by omega) (by omega), Int.toNat_natCast]
        exact br_n (by omega) go
  exact loop l 0 (by omega) (by omega)

end Go.Proofs
