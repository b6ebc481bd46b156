/-
  OWN WORK. HuffWhole and HuffSteps over heaps.
-/
import Derived.Test.YtmimlpfnhmokeaaHuffL
set_option linter.unusedVariables false
set_option linter.unusedSimpArgs false
namespace Go.Proofs
open Go.Sh

theorem c20 {H : Heap} {p q : Option Addr} {l c l2 k : Nat} {ls cs : List Int} (h : IS H p l (ints ls)) (hc : IS H q l2 (ints cs)) (hll : l ≤ l2) (hl : l ≤ 1000) {n v : Int} {R : Value → Heap → Prop}
    (hf : ∀ s : Nat, ls[s]? = some n → cs[s]? = some v → R (.int .i64 s) H) (hn : (∀ s : Nat, ls[s]? = some n → cs[s]? ≠ some v) → R (.int .i64 (-1)) H) :
    CallsH Try.prog 20 #[.slice p l c, .slice q l2 k, .int .i64 n, .int .i64 v] H R := by
  have hl1 : ls.length = l := by have := h.len; rw [ints_len] at this; omega
  have hl2 : cs.length = l2 := by have := hc.len; rw [ints_len] at this; omega
  refine Try.s20 ?_
  unfold Try.S20
  intro X hX
  have loop : ∀ (m s : Nat), l - s = m → s ≤ l → (∀ i : Nat, i < s → ls[i]? = some n → cs[i]? ≠ some v) → X [.int .i64 s] H := by
    intro m
    induction m with
    | zero =>
      intro s hm hs hno
      refine hX _ H (br_n (by omega) (hn fun i hi => hno i ?_ hi))
      have := (List.getElem?_eq_some_iff.1 hi).1; omega
    | succ m ih =>
      intro s hm hs hno
      have ws : IntKind.wrap .i64 ((s : Int) + 1) = ((s + 1 : Nat) : Int) := by rw [wrap_id (by omega) (by omega)]; omega
      have hv : ls[s]? = some ls[s] := List.getElem?_eq_getElem (by omega)
      have hw : cs[s]? = some cs[s] := List.getElem?_eq_getElem (by omega)
      generalize ls[s] = a at hv
      generalize cs[s] = b at hw
      obtain ⟨a1, q1, v1⟩ := h.cell (ints_get hv)
      obtain ⟨a2, q2, v2⟩ := hc.cell (ints_get hw)
      have nx : ¬ (a = n ∧ b = v) → X [.int .i64 ((s + 1 : Nat) : Int)] H := fun hne => ih (s + 1) (by omega) (by omega) fun i hi h1 h2 => by
        by_cases his : i = s
        · subst his; rw [hv] at h1; rw [hw] at h2; cases h1; cases h2; exact hne ⟨rfl, rfl⟩
        · exact hno i (by omega) h1 h2
      refine hX _ H (br_y (by omega) ⟨_, q1, by omega, by omega, a, by simpa using v1, br_eq (fun he => ⟨_, q2, by omega, by omega, b, by simpa using v2, br_eq (fun he2 => ?_) (fun he2 => ?_)⟩) (fun he => ?_)⟩)
      · exact hf s (by rw [hv, he]) (by rw [hw, he2])
      · rw [ws]; exact nx fun hh => he2 hh.2
      · rw [ws]; exact nx fun hh => he hh.1
  exact loop l 0 (by omega) (by omega) (fun i hi => by omega)

theorem c21 {H : Heap} {p q : Option Addr} {l c l2 k : Nat} {ls cs : List Int} (h : IS H p l (ints ls)) (hc : IS H q l2 (ints cs)) (hll : l ≤ l2) (hl : l ≤ 1000) (hr : ∀ x ∈ ls, 0 ≤ x ∧ x ≤ 16) {n v : Int} (hn0 : 0 ≤ n) {R : Value → Heap → Prop}
    (ht : ∀ (s : Nat) (a b : Int), ls[s]? = some a → cs[s]? = some b → n < a → b / 2 ^ (a - n).toNat = v → R (.bool true) H) (hf : (∀ (s : Nat) (a b : Int), ls[s]? = some a → cs[s]? = some b → n < a → b / 2 ^ (a - n).toNat ≠ v) → R (.bool false) H) :
    CallsH Try.prog 21 #[.slice p l c, .slice q l2 k, .int .i64 n, .int .i64 v] H R := by
  have hl1 : ls.length = l := by have := h.len; rw [ints_len] at this; omega
  have hl2 : cs.length = l2 := by have := hc.len; rw [ints_len] at this; omega
  refine Try.s21 ?_
  unfold Try.S21
  intro X hX
  have loop : ∀ (m s : Nat), l - s = m → s ≤ l → (∀ (i : Nat) (a b : Int), i < s → ls[i]? = some a → cs[i]? = some b → n < a → b / 2 ^ (a - n).toNat ≠ v) → X [.int .i64 s] H := by
    intro m
    induction m with
    | zero =>
      intro s hm hs hno
      refine hX _ H (br_n (by omega) (hf fun i a b hi => hno i a b ?_ hi))
      have := (List.getElem?_eq_some_iff.1 hi).1; omega
    | succ m ih =>
      intro s hm hs hno
      have ws : IntKind.wrap .i64 ((s : Int) + 1) = ((s + 1 : Nat) : Int) := by rw [wrap_id (by omega) (by omega)]; omega
      have hv : ls[s]? = some ls[s] := List.getElem?_eq_getElem (by omega)
      have hw : cs[s]? = some cs[s] := List.getElem?_eq_getElem (by omega)
      have hra := hr _ (List.mem_of_getElem? hv)
      generalize ls[s] = a at hv hra
      generalize cs[s] = b at hw
      obtain ⟨a1, q1, v1⟩ := h.cell (ints_get hv)
      obtain ⟨a2, q2, v2⟩ := hc.cell (ints_get hw)
      have nx : ¬ (n < a ∧ b / 2 ^ (a - n).toNat = v) → X [.int .i64 ((s + 1 : Nat) : Int)] H := fun hne => ih (s + 1) (by omega) (by omega) fun i a' b' hi h1 h2 h3 h4 => by
        by_cases his : i = s
        · subst his; rw [hv] at h1; rw [hw] at h2; cases h1; cases h2; exact hne ⟨h3, h4⟩
        · exact hno i a' b' (by omega) h1 h2 h3 h4
      refine hX _ H (br_y (by omega) ⟨_, q1, by omega, by omega, a, by simpa using v1, br_dec (fun he => ?_) (fun he => ?_)⟩)
      · have w1 : IntKind.wrap .i64 (a - n) = a - n := wrap_id (by omega) (by omega)
        refine ⟨_, q2, by omega, by omega, b, by simpa using v2, _, q1, by omega, by omega, a, by simpa using v1, ?_⟩
        rw [w1, shr64 (by omega) (by omega)]
        refine ⟨by omega, br_eq (fun he2 => ht s a b hv hw he he2) (fun he2 => ?_)⟩
        rw [ws]; exact nx fun hh => he2 hh.2
      · rw [ws]; exact nx fun hh => he hh.1
  exact loop l 0 (by omega) (by omega) (fun i a b hi => by omega)

theorem div_bit (x : Int) (k : Nat) : 2 * (x / 2 ^ (k + 1)) + x / 2 ^ k % 2 = x / 2 ^ k := by rw [div_two_pow]; omega

set_option maxHeartbeats 1000000 in
theorem law9 {H : Heap} {p : Option Addr} {l c : Nat} {ls : List Int} {bits : Int} (h : IS H p l (ints ls)) : CallsH Try.prog 9 #[.slice p l c, .int .i64 bits] H (fun u H' => u = .bool true ∧ Ext H H') := by
  have hl : ls.length = l := by have := h.len; rw [ints_len] at this; omega
  refine Try.s9 ?_
  generalize hRd : (fun (u : Value) (H' : Heap) => u = Value.bool true ∧ Ext H H') = R
  have R1 : ∀ H', Ext H H' → R (.bool true) H' := fun H' e => by subst hRd; exact ⟨rfl, e⟩
  clear hRd
  unfold Try.S9
  refine c10 fun H1 e1 => ⟨_, rfl, br_f rfl ?_⟩
  intro J hJ
  refine br_dec (fun _ => R1 H1 e1) (fun h120 => br_dec (fun _ => R1 H1 e1) (fun b0 => br_dec (fun _ => R1 H1 e1) (fun b1 => hJ H1 ?_)))
  have h1 := h.ext e1
  refine c18 h1 (fun hn => ⟨_, _, rfl, ?_⟩) fun ok H2 b q L k P F hd fs hP hL t e2 => ⟨_, _, rfl, ?_⟩
  · refine c15 h1 (fun hw => ⟨_, _, rfl, br_t rfl (br_t rfl (R1 H1 e1))⟩) fun okw => ⟨_, _, rfl, br_t rfl (br_f rfl ?_)⟩
    have : decide (wtM ls > 65536) = true := decide_eq_true (by
      have : ¬ wtM ls ≤ 65536 := fun hh => hn ⟨okw, hh⟩
      omega)
    rw [this]
    exact R1 H1 e1
  · have e12 := e1.trans e2
    refine c15 (h1.ext e2) (fun hw => absurd ok.w hw) fun _ => ⟨_, _, rfl, br_f rfl ?_⟩
    have hrng := t.rng2 hP hL ok.w.len
    intro J2 hJ2
    intro X hX
    -- what a round comes to
    have round : ∀ (k : Nat) (st : Int), k ≤ 15 → (X [.int .i64 (stepM F L st (bits / 2 ^ k % 2)).1, .bool (decide ((stepM F L st (bits / 2 ^ k % 2)).2 ≥ 0)), .int .i64 ((k : Int) - 1)] H2) → (st < 0 → J2 [.bool false] H2) → X [.int .i64 st, .bool false, .int .i64 k] H2 := fun k st hk hnx hneg => by
      have wk : IntKind.wrap .i64 ((k : Int) - 1) = (k : Int) - 1 := wrap_id (by omega) (by omega)
      refine hX _ _ _ H2 ?_
      intro J3 hJ3
      refine br_y (by omega) (br_t rfl (br_dec (fun hst => hJ3 H2 ⟨by omega, ?_⟩) (fun hst => hneg (by omega))))
      rw [andI_one, shr64 (by omega) (by omega), Int.toNat_natCast]
      refine c19 hd fs hrng (by omega) st _ ⟨_, _, rfl, ?_⟩
      rw [wk]; exact hnx
    have met : ∀ (st kk : Int), X [.int .i64 st, .bool true, .int .i64 kk] H2 := fun st kk => by
      refine hX _ _ _ H2 ?_
      intro J3 hJ3
      have fin : J2 [.bool true] H2 := hJ2 _ H2 (br_ne (fun _ => R1 H2 e12) (fun _ => R1 H2 e12))
      exact br_dec (fun _ => br_f rfl fin) (fun _ => fin)
    by_cases hw : wtM ls = 65536
    · obtain ⟨s, n, hs, hn1, hn16, hcs⟩ := whole ok hw (x := bits) (by omega) (by omega)
      have loop : ∀ (k : Nat) (st : Nat), k ≤ 15 → 15 - k < n → P[st]? = some (15 - k, bits / 2 ^ (k + 1)) → X [.int .i64 st, .bool false, .int .i64 k] H2 := by
        intro k
        induction k with
        | zero =>
          intro st hk hlt hst
          refine round 0 st (by omega) ?_ (fun hh => by omega)
          have hn : n = 16 := by omega
          have := step_sym ok hP t (bit := bits / 2 ^ 0 % 2) hst (by rw [hs, hn]) (by
            rw [hcs, hn, Int.emod_emod]
            exact (div_bit bits 0).symm)
          rw [this]
          have hd : decide (((0 : Int), (s : Int)).2 ≥ 0) = true := decide_eq_true (by show (s : Int) ≥ 0; omega)
          rw [hd]
          exact met _ _
        | succ k ih =>
          intro st hk hlt hst
          refine round (k + 1) st (by omega) ?_ (fun hh => by omega)
          have hbit := div_bit bits (k + 1)
          by_cases hn : 15 - (k + 1) + 1 = n
          · have := step_sym ok hP t (bit := bits / 2 ^ (k + 1) % 2) hst (by rw [hs, hn]) (by
              have e : 16 - n = k + 1 := by omega
              rw [hcs, e, Int.emod_emod, hbit])
            rw [this]
            have hd : decide (((0 : Int), (s : Int)).2 ≥ 0) = true := decide_eq_true (by show (s : Int) ≥ 0; omega)
            rw [hd]
            exact met _ _
          · obtain ⟨j, hj, e, hp⟩ := step_on ok hP t (bit := bits / 2 ^ (k + 1) % 2) hst hs (by omega) (by
              rw [hcs, Int.emod_emod, hbit]
              have e : (2 : Int) ^ (k + 1) = 2 ^ (16 - n) * 2 ^ (n - (15 - (k + 1) + 1)) := by
                rw [← Int.pow_add]; congr 1; omega
              rw [e, Int.ediv_ediv_of_nonneg (Int.pow_nonneg (by omega))])
            rw [Int.emod_emod, hbit] at hp
            rw [e]
            have hd : decide ((((j : Nat) : Int), (-1 : Int)).2 ≥ 0) = false := decide_eq_false (by show ¬ ((-1 : Int) ≥ 0); omega)
            rw [hd]
            have ek : ((k + 1 : Nat) : Int) - 1 = (k : Int) := by omega
            rw [ek]
            have e15 : 15 - (k + 1) + 1 = 15 - k := by omega
            rw [e15] at hp
            exact ih j (by omega) (by omega) hp
      have hz : bits / 2 ^ (15 + 1) = 0 := Int.ediv_eq_zero_of_lt (by omega) (by show bits < 65536; omega)
      exact loop 15 0 (by omega) (by omega) (by rw [hz]; exact t.root)
    · have fin : ∀ m, J2 [.bool m] H2 := fun m => hJ2 m H2 (br_ne (fun _ => R1 H2 e12) (fun hh => absurd hh hw))
      have loop : ∀ (k : Nat) (st : Int), k ≤ 15 → X [.int .i64 st, .bool false, .int .i64 k] H2 := by
        intro k
        induction k with
        | zero =>
          intro st hk
          refine round 0 st (by omega) ?_ (fun _ => fin false)
          cases hd : decide ((stepM F L st (bits / 2 ^ 0 % 2)).2 ≥ 0) with
          | true => exact met _ _
          | false =>
            refine hX _ _ _ H2 ?_
            intro J3 hJ3
            exact br_n (by omega) (fin false)
        | succ k ih =>
          intro st hk
          refine round (k + 1) st (by omega) ?_ (fun _ => fin false)
          cases hd : decide ((stepM F L st (bits / 2 ^ (k + 1) % 2)).2 ≥ 0) with
          | true => exact met _ _
          | false =>
            have ek : ((k + 1 : Nat) : Int) - 1 = (k : Int) := by omega
            rw [ek]
            exact ih _ (by omega)
      exact loop 15 0 (by omega)

set_option maxHeartbeats 1000000 in
theorem law7 {H : Heap} {p pb : Option Addr} {l c lb kb : Nat} {ls bs : List Int} (h : IS H p l (ints ls)) (hb : IS H pb lb (ints bs)) : CallsH Try.prog 7 #[.slice p l c, .slice pb lb kb] H (fun u H' => u = .bool true ∧ Ext H H') := by
  have hl : ls.length = l := by have := h.len; rw [ints_len] at this; omega
  have hbl : bs.length = lb := by have := hb.len; rw [ints_len] at this; omega
  refine Try.s7 ?_
  generalize hRd : (fun (u : Value) (H' : Heap) => u = Value.bool true ∧ Ext H H') = R
  have R1 : ∀ H', Ext H H' → R (.bool true) H' := fun H' e => by subst hRd; exact ⟨rfl, e⟩
  clear hRd
  unfold Try.S7
  refine c10 fun H1 e1 => ⟨_, rfl, br_f rfl ?_⟩
  intro J hJ
  refine br_dec (fun _ => R1 H1 e1) (fun h400 => br_dec (fun _ => R1 H1 e1) (fun h300 => hJ H1 ?_))
  have h1 := h.ext e1
  by_cases okc : OkC ls
  · refine c17 h1 (fun hn => absurd okc hn) fun _ H2 cb fc e2 => ⟨_, _, _, _, rfl, ?_⟩
    refine c18 (h1.ext e2) (fun hn => absurd okc hn) fun _ H3 b q L k P F hd fs hP hL t e3 => ⟨_, _, rfl, ?_⟩
    have e13 := e1.trans (e2.trans e3)
    have h3 := h.ext e13
    have hb3 := hb.ext e13
    have ci := (fc.ext e3).rs.is
    have l300 := okc.w.len
    have hrng := t.rng2 hP hL okc.w.len
    intro J2 hJ2
    refine br_f (by simp) (br_f (by simp) (hJ2 H3 (br_f rfl ?_)))
    intro X hX
    have cget : ∀ s : Nat, s < l → (codesM ls)[s]? = some (codeM ls s) := fun s hs => codesM_get (by omega)
    have loop : ∀ (m i st n : Nat) (v : Int), lb - i = m → i ≤ lb → n ≤ 16 → 0 ≤ v → v ≤ 65536 → P[st]? = some (n, v) → X [.int .i64 st, .int .i64 n, .int .i64 v, .int .i64 i] H3 := by
      intro m
      induction m with
      | zero => intro i st n v hm hi hn v0 v1 hst; exact hX _ _ _ _ H3 (br_n (by omega) (R1 H3 e13))
      | succ m ih =>
        intro i st n v hm hi hn v0 v1 hst
        have wi : IntKind.wrap .i64 ((i : Int) + 1) = ((i + 1 : Nat) : Int) := by rw [wrap_id (by omega) (by omega)]; omega
        have wn : IntKind.wrap .i64 ((n : Int) + 1) = ((n + 1 : Nat) : Int) := by rw [wrap_id (by omega) (by omega)]; omega
        have wv : IntKind.wrap .i64 ((2 : Int) * v) = 2 * v := wrap_id (by omega) (by omega)
        have hv : bs[i]? = some bs[i] := List.getElem?_eq_getElem (by omega)
        generalize bs[i] = bit at hv
        have wvb : IntKind.wrap .i64 (2 * v + bit % 2) = 2 * v + bit % 2 := wrap_id (by omega) (by omega)
        obtain ⟨a1, q1, c1⟩ := hb3.cell (ints_get hv)
        refine hX _ _ _ _ H3 (br_y (by omega) ⟨_, q1, by omega, by omega, bit, by simpa using c1, ?_⟩)
        rw [andI_one, wi, wn, wv, wvb]
        refine c19 hd fs hrng (by omega) st bit ⟨_, _, rfl, ?_⟩
        refine c20 (cs := codesM ls) h3 ci (Nat.le_refl _) (by omega) (fun s hs hc => ⟨_, rfl, ?_⟩) (fun hno => ⟨_, rfl, ?_⟩)
        · -- a symbol
          have hsl := (List.getElem?_eq_some_iff.1 hs).1
          rw [cget s (by omega)] at hc
          have hc := Option.some.inj hc
          have := step_sym okc hP t hst hs hc
          rw [this]
          refine br_y (by omega) (br_ne (fun hh => absurd rfl hh) (fun _ => br_ne (fun hh => absurd rfl hh) (fun _ => ?_)))
          exact ih (i + 1) 0 0 0 (by omega) (by omega) (by omega) (by omega) (by omega) t.root
        · refine br_n (by omega) ?_
          have hno' : ∀ s : Nat, ls[s]? = some ((n + 1 : Nat) : Int) → codeM ls s ≠ 2 * v + bit % 2 := fun s hs hc => by
            have hsl := (List.getElem?_eq_some_iff.1 hs).1
            exact hno s hs (by rw [cget s (by omega), hc])
          by_cases hbeg : ∃ s m : Nat, ls[s]? = some (m : Int) ∧ n + 1 < m ∧ codeM ls s / 2 ^ (m - (n + 1)) = 2 * v + bit % 2
          · obtain ⟨s, mm, hs, hm1, hc⟩ := hbeg
            obtain ⟨j, hj, e, hp⟩ := step_on okc hP t hst hs hm1 hc
            obtain ⟨n16, v0', v1'⟩ := t.val okc hp (by omega)
            rw [e]
            refine br_ne (fun hh => absurd rfl hh) (fun _ => ?_)
            refine c21 (cs := codesM ls) h3 ci (Nat.le_refl _) (by omega) okc.w.rng (by omega) (fun _ _ _ _ _ _ _ => ⟨_, rfl, br_f rfl (br_n (by omega) ?_)⟩) (fun hnone => absurd ?_ (hnone s _ _ hs (cget s (by have := (List.getElem?_eq_some_iff.1 hs).1; omega)) (by omega)))
            · exact ih (i + 1) j (n + 1) _ (by omega) (by omega) n16 v0' v1' hp
            · have : ((mm : Int) - ((n + 1 : Nat) : Int)).toNat = mm - (n + 1) := by omega
              rw [this]; exact hc
          · have := step_off hP t hst hno' (fun s mm hs hm1 hc => hbeg ⟨s, mm, hs, hm1, hc⟩)
            rw [this]
            refine br_ne (fun hh => absurd rfl hh) (fun _ => ?_)
            refine c21 (cs := codesM ls) h3 ci (Nat.le_refl _) (by omega) okc.w.rng (by omega) (fun s a b' hs hc hlt he => absurd ?_ hbeg) (fun _ => ⟨_, rfl, br_t rfl ?_⟩)
            · have ha := okc.w.rng _ (List.mem_of_getElem? hs)
              rw [cget s (by have := (List.getElem?_eq_some_iff.1 hs).1; omega)] at hc
              have hc := Option.some.inj hc
              refine ⟨s, a.toNat, by rw [hs]; congr 1; omega, by omega, ?_⟩
              have e : a.toNat - (n + 1) = (a - ((n + 1 : Nat) : Int)).toNat := by omega
              rw [e, hc]; exact he
            · refine c19 hd fs hrng (by omega) (-1) 0 ⟨_, _, rfl, ?_⟩
              have : stepM F L (-1) 0 = (-1, -1) := by unfold stepM; rw [if_pos (.inl (by omega))]
              rw [this]
              exact br_t rfl (br_t rfl (R1 H3 e13))
    exact loop lb 0 0 0 0 (by omega) (by omega) (by omega) (by omega) (by omega) t.root
  · refine c17 h1 (fun _ => ⟨_, _, _, _, rfl, ?_⟩) fun ok => absurd ok okc
    refine c18 h1 (fun _ => ⟨_, _, rfl, ?_⟩) fun ok => absurd ok okc
    intro J2 hJ2
    exact br_f (by simp) (br_f (by simp) (hJ2 H1 (br_t rfl (R1 H1 e1))))

end Go.Proofs
