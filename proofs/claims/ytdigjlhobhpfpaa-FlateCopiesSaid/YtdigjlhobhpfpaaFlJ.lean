/-
  OWN WORK. Package flate over heaps: a block's symbols, blocks of kind 0, the fixed codes.
-/
import Derived.Test.YtdigjlhobhpfpaaFlI
set_option linter.unusedVariables false
set_option linter.unusedSimpArgs false
namespace Go.Proofs
open Go.Sh
variable {H0 H : Heap} {σ : List Rs} {R : Value → Heap → Prop}

section
variable {f a most : Nat} {B out : List Int}

theorem getM_adv {n a' : Nat} {v : Int} (h : getM B n a = .ok (v, a')) : a ≤ a' := by
  unfold getM at h
  split at h
  · cases h; omega
  · cases h
theorem copiesM_adv {mst : Int} {dl : List Int} {s a' : Nat} {out' : List Int} (h : copiesM B mst dl s a out = .ok (a', out')) : a ≤ a' := by
  unfold copiesM at h
  split at h
  · cases h
  · split at h
    · cases h
    · rename_i x a1 h1
      split at h
      · cases h
      · rename_i t a2 h2
        split at h
        · cases h
        · split at h
          · cases h
          · rename_i y a3 h3
            split at h
            · cases h
            · split at h
              · cases h
              · cases h
                have := getM_adv h1; have := symM_adv h2; have := getM_adv h3
                omega

theorem symbols_e {e : Int} (hs : St H0 H (flR f B a most out e :: σ)) (he : e ≠ 0) {d1 d2 : Option Addr} (hR : R (.tuple #[]) H) :
    CallsH Try.prog 26 #[.pointer (some ⟨f, 0, none⟩), .pointer d1, .pointer d2] H R := by
  refine Try.s26 ?_
  unfold Try.S26
  intro X hX
  exact hX H ⟨_, rfl, _, flR_e hs, br_ne (fun _ => hR) (fun h => absurd h he)⟩

theorem c26 (hs : St H0 H (flR f B a most out 0 :: σ)) {j1 j2 d1 d2 : Nat} {ll dl F1 F2 : List Int} {P1 P2 : List (Nat × Int)} (hj1 : σ[j1]? = some (decR d1 ll P1 F1)) (hj2 : σ[j2]? = some (decR d2 dl P2 F2))
    (hbad : ∀ k, k ≠ 0 → symbolsM B most ll dl a out = .error k → ∀ H' a' out', St H0 H' (flR f B a' most out' k :: σ) → R (.tuple #[]) H')
    (hR : ∀ a' out', symbolsM B most ll dl a out = .ok (a', out') → ∀ H', St H0 H' (flR f B a' most out' 0 :: σ) → R (.tuple #[]) H') :
    CallsH Try.prog 26 #[.pointer (some ⟨f, 0, none⟩), .pointer (some ⟨d1, 0, none⟩), .pointer (some ⟨d2, 0, none⟩)] H R := by
  refine Try.s26 ?_
  unfold Try.S26
  intro X hX
  have bad : ∀ k, k ≠ 0 → symbolsM B most ll dl a out = .error k → ∀ H' a' out', St H0 H' (flR f B a' most out' k :: σ) → X [] H' := fun k hk he H' a' out' hs =>
    hX H' ⟨_, rfl, _, flR_e hs, br_ne (fun _ => hbad k hk he H' a' out' hs) (fun h => absurd h hk)⟩
  obtain ⟨_, _, okl, _, _, _, _⟩ := decR_use hs (j := j1 + 1) (by simpa using hj1)
  have l300 := okl.w.len
  unfold symbolsM at bad hbad hR
  generalize hT : symsM B most ll dl (8 * B.length + 1) a out = T at bad hbad hR
  have loop : ∀ (g a1 : Nat) (out1 : List Int) (H1 : Heap), 8 * B.length < a1 + g → symsM B most ll dl g a1 out1 = T → St H0 H1 (flR f B a1 most out1 0 :: σ) → X [] H1 := by
    intro g
    induction g with
    | zero =>
      intro a1 out1 H1 hg he hs1
      have := flR_rd hs1; omega
    | succ g ih =>
      intro a1 out1 H1 hg he hs1
      rw [symsM] at he
      refine hX H1 ⟨_, rfl, _, flR_e hs1, br_f rfl (c38 hs1 hj1 (fun k hk hsy H2 a2 hs2 => ?_) (fun s a2 hsy H2 hs2 => ?_))⟩
      · rw [hsy] at he
        exact ⟨_, rfl, _, rfl, _, flR_e hs2, br_ne (fun _ => hbad k hk he.symm H2 a2 out1 hs2) (fun h => absurd h hk)⟩
      · obtain ⟨ha1, ha2, hsl⟩ := symM_adv hsy
        rw [hsy] at he
        simp only at he
        refine ⟨_, rfl, _, rfl, _, flR_e hs2, br_f rfl (br_eq (fun h256 => ?_) (fun h256 => br_dec (fun hgt => ?_) (fun hle => ?_)))⟩
        · rw [if_pos (by omega)] at he
          exact hR _ _ he.symm H2 hs2
        · rw [if_neg (by omega), if_pos (by omega)] at he
          refine c39 hs2 hj2 (by omega) (fun k hk hc H3 a3 hs3 => ⟨rfl, ?_⟩) (fun a3 out3 hc H3 hs3 => ⟨rfl, ?_⟩)
          · rw [hc] at he
            exact bad k hk he.symm H3 a3 out1 hs3
          · rw [hc] at he
            have := copiesM_adv hc
            exact ih a3 out3 H3 (by omega) he hs3
        · rw [if_neg (by omega), if_neg (by omega)] at he
          obtain ⟨rb, p, c, h1, h2, h3, hs'⟩ := flR_op hs2
          refine ⟨_, rfl, _, _, _, hs'.get 2 (j := 1) rfl rfl, _, rfl, _, hs'.get 2 (j := 2) rfl rfl, br_dec (fun hge => c28 hs2 fun H3 hs3 => ⟨rfl, ?_⟩) (fun hlt => ⟨_, rfl, _, _, _, hs'.get 2 (j := 1) rfl rfl, ?_⟩)⟩
          · rw [if_pos (by omega)] at he
            rw [if_pos rfl] at hs3
            exact bad 24 (by decide) he.symm H3 _ _ hs3
          · rw [if_neg (by omega)] at he
            rw [wrap_u8 (by omega) (by omega)]
            refine hs'.alc fun b H5 hs5 => ?_
            refine hs5.appC 2 0 (el := 5) (k := 1) rfl rfl rfl (one1 rfl) (by decide) rfl (by omega) (by omega) fun p' c' H6 hs6 => ⟨_, rfl, ?_⟩
            refine hs6.put 3 (j := 1) rfl (by simp) rfl fun H7 hs7 => ?_
            refine ih a2 (out1 ++ [(s : Int)]) H7 (by omega) he ?_
            refine flR_mk (rb := rb) (p := p') (c := c') (by simp; omega) h2 (fun z hz => ?_) ?_
            · rcases List.mem_append.1 hz with hz | hz
              · exact h3 z hz
              · rw [List.mem_singleton.1 hz]; omega
            · rw [kints_append, List.length_append, List.length_singleton]
              exact hs7.tail
  exact loop _ a out H (by omega) hT hs

theorem xor_all (n : Fin 65536) : n.val ^^^ 65535 = 65535 - n.val := by
  have h1 : (BitVec.ofNat 16 n.val ^^^ BitVec.allOnes 16).toNat = (~~~ BitVec.ofNat 16 n.val).toNat := by rw [BitVec.xor_allOnes]
  have hn := n.isLt
  rw [BitVec.toNat_xor, BitVec.toNat_not, BitVec.toNat_ofNat, BitVec.toNat_allOnes, Nat.mod_eq_of_lt hn] at h1
  exact h1
theorem xor_ffff {n m : Int} (hn : 0 ≤ n ∧ n < 65536) (hm : 0 ≤ m ∧ m < 65536) : xorI .i64 n m = 65535 ↔ m = 65535 - n := by
  obtain ⟨x, rfl⟩ := Int.eq_ofNat_of_zero_le hn.1
  obtain ⟨y, rfl⟩ := Int.eq_ofNat_of_zero_le hm.1
  have e64 : (2 : Int) ^ 64 = 18446744073709551616 := by decide
  have hlt : x ^^^ y < 65536 := Nat.xor_lt_two_pow (n := 16) (by omega) (by omega)
  unfold xorI
  rw [show IntKind.bits .i64 = 64 from rfl, BitVec.toNat_xor, ofInt_nat (by omega) (by omega), ofInt_nat (by omega) (by omega), Int.toNat_natCast, Int.toNat_natCast, wrap_id (by omega) (by omega)]
  have hx := xor_all ⟨x, by omega⟩
  simp only at hx
  constructor
  · intro h
    have h' : x ^^^ y = 65535 := by omega
    have : y = x ^^^ 65535 := by rw [← h', ← Nat.xor_assoc, Nat.xor_self, Nat.zero_xor]
    omega
  · intro h
    have h' : y = x ^^^ 65535 := by omega
    rw [h', ← Nat.xor_assoc, Nat.xor_self, Nat.zero_xor]
    rfl

theorem getM_num {n : Nat} (h : a + n ≤ 8 * B.length) : getM B n a = .ok (numB false B a n, a + n) := by unfold getM; rw [if_pos h]
theorem getM_bad {n : Nat} (h : 8 * B.length < a + n) : getM B n a = .error 20 := by unfold getM; rw [if_neg (by omega)]

theorem c23 (hs : St H0 H (flR f B a most out 0 :: σ))
    (hbad : ∀ k, k ≠ 0 → storedM B most a out = .error k → ∀ H' a' out', St H0 H' (flR f B a' most out' k :: σ) → R (.tuple #[]) H')
    (hR : ∀ a' out', storedM B most a out = .ok (a', out') → ∀ H', St H0 H' (flR f B a' most out' 0 :: σ) → R (.tuple #[]) H') :
    CallsH Try.prog 23 #[.pointer (some ⟨f, 0, none⟩)] H R := by
  have key : storedM B most a out = storedM B most a out := rfl
  conv at key => lhs; unfold storedM
  obtain ⟨rb, p, c, h1, h2, h3, hs'⟩ := flR_op hs
  have e16 : (2 : Int) ^ 16 = 65536 := by decide
  refine Try.s23 ⟨_, rfl, _, hs'.get 2 (j := 0) rfl rfl, c36 hs' (i := 0) rfl fun H1 hs1 => ⟨rfl, ?_⟩⟩
  have hs1 : St H0 H1 (flR f B ((a + 7) / 8 * 8) most out 0 :: σ) := flR_mk h1 h2 h3 hs1
  clear hs'
  generalize (a + 7) / 8 * 8 = a1 at *
  have bad0 : ∀ {H2 a2 out2}, storedM B most a out = .error 20 → St H0 H2 (flR f B a2 most out2 20 :: σ) → R (.tuple #[]) H2 := fun h hs => hbad 20 (by decide) h _ _ _ hs
  -- behind the two numbers
  refine c22 hs1 (by omega) (fun hlt H2 hs2 => ⟨_, rfl, ?_⟩) (fun hle H2 hs2 => ⟨_, rfl, ?_⟩)
  · rw [getM_bad (n := 16) hlt] at key
    rw [if_pos rfl] at hs2
    refine c22 hs2 (by omega) (fun hlt H3 hs3 => ⟨_, rfl, ?_⟩) (fun hle H3 hs3 => ⟨_, rfl, ?_⟩)
    · rw [if_neg (by decide)] at hs3
      intro J hJ
      exact ⟨_, rfl, _, flR_e hs3, br_t rfl (bad0 key.symm hs3)⟩
    · intro J hJ
      exact ⟨_, rfl, _, flR_e hs3, br_t rfl (bad0 key.symm hs3)⟩
  rw [getM_num (n := 16) hle] at key
  simp only [show Int.toNat 16 = 16 from rfl] at hs2 key hle ⊢
  have hn := numB_rng false B a1 16
  refine c22 hs2 (by omega) (fun hlt H3 hs3 => ⟨_, rfl, ?_⟩) (fun hle2 H3 hs3 => ⟨_, rfl, ?_⟩)
  · rw [getM_bad (n := 16) hlt] at key
    rw [if_pos rfl] at hs3
    intro J hJ
    exact ⟨_, rfl, _, flR_e hs3, br_t rfl (bad0 key.symm hs3)⟩
  rw [getM_num (n := 16) hle2] at key
  simp only [show Int.toNat 16 = 16 from rfl] at hs3 key hle2 ⊢
  have hm := numB_rng false B (a1 + 16) 16
  generalize numB false B a1 16 = n at *
  generalize numB false B (a1 + 16) 16 = m at *
  intro J hJ
  obtain ⟨rb, p, c, h1, h2, h3, hs3'⟩ := flR_op hs3
  -- the loop comes to nothing with an error
  have stop : ∀ k, k ≠ 0 → storedM B most a out = .error k → ∀ H' a' out', St H0 H' (flR f B a' most out' k :: σ) → J [] H' := fun k hk he H' a' out' hs => by
    refine hJ H' ?_
    intro X hX
    refine hX _ H' ?_
    intro J2 hJ2
    exact br_dec (fun _ => ⟨_, rfl, _, flR_e hs, br_eq (fun h => absurd h hk) (fun _ => hbad k hk he _ _ _ hs)⟩) (fun _ => hbad k hk he _ _ _ hs)
  have w1 : IntKind.wrap .i64 ((most : Int) - ((out.length : Nat) : Int)) = (most : Int) - out.length := wrap_id (by omega) (by omega)
  refine ⟨_, rfl, _, flR_e hs3, br_f rfl (br_ne (fun hne => c28 hs3 fun H4 hs4 => ⟨rfl, ?_⟩) (fun heq => ⟨_, rfl, _, hs3'.get 2 (j := 2) rfl rfl, _, rfl, _, _, _, hs3'.get 2 (j := 1) rfl rfl, ?_⟩))⟩
  · rw [if_pos (fun h => hne ((xor_ffff (by omega) (by omega)).2 h))] at key
    exact stop 25 (by decide) key.symm H4 _ _ hs4
  rw [if_neg (fun h => h ((xor_ffff (by omega) (by omega)).1 heq))] at key
  rw [w1]
  refine br_dec (fun hgt => c28 hs3 fun H4 hs4 => ⟨rfl, ?_⟩) (fun hle3 => hJ H3 ?_)
  · rw [if_pos hgt] at key
    exact stop 24 (by decide) key.symm H4 _ _ hs4
  rw [if_neg hle3] at key
  obtain ⟨N, rfl⟩ := Int.eq_ofNat_of_zero_le hn.1
  rw [Int.toNat_natCast] at key
  clear stop bad0 hJ w1 hs3'
  intro X hX
  have loop : ∀ (r k a2 : Nat) (out2 : List Int) (H4 : Heap), k + r = N → out2.length = out.length + k → bytesM B r a2 out2 = storedM B most a out → St H0 H4 (flR f B a2 most out2 0 :: σ) → X [.int .i64 k] H4 := by
    intro r
    induction r with
    | zero =>
      intro k a2 out2 H4 hk hl hb hs4
      refine hX _ H4 ?_
      intro J2 hJ2
      rw [bytesM] at hb
      exact br_n (by omega) (hR _ _ hb.symm H4 hs4)
    | succ r ih =>
      intro k a2 out2 H4 hk hl hb hs4
      have wk : IntKind.wrap .i64 ((k : Int) + 1) = ((k + 1 : Nat) : Int) := by rw [wrap_id (by omega) (by omega)]; omega
      refine hX _ H4 ?_
      rw [wk]
      intro J2 hJ2
      refine br_y (by omega) ⟨_, rfl, _, flR_e hs4, br_t rfl (hJ2 H4 ?_)⟩
      obtain ⟨rb, p, c, h1, h2, h3, hs4'⟩ := flR_op hs4
      have e8 : (2 : Int) ^ 8 = 256 := by decide
      refine ⟨_, rfl, _, _, _, hs4'.get 2 (j := 1) rfl rfl, getO hs4' (by omega) (fun hlt H5 hs5 => ⟨_, rfl, .inr ⟨_, _, _, hs5.get 2 (j := 1) rfl rfl, rfl⟩, ?_⟩) (fun hle H5 hs5 => ⟨_, rfl, .inr ⟨_, _, _, hs5.get 2 (j := 1) rfl rfl, rfl⟩, ?_⟩)⟩
      · rw [bytesM, getM_bad (n := 8) hlt] at hb
        rw [if_pos rfl] at hs5
        refine hs5.alcE fun b H6 he hs6 => ⟨.inl he, ?_⟩
        refine hs6.appC 2 0 (el := 5) (k := 1) rfl rfl rfl (one1 rfl) (by decide) rfl (by omega) (by omega) fun p' c' H7 hs7 => ⟨_, rfl, ?_⟩
        refine hs7.put 3 (j := 1) rfl (by simp) rfl fun H8 hs8 => ?_
        have hs9 : St H0 H8 (flR f B a2 most (out2 ++ [0]) 20 :: σ) := by
          refine flR_mk (rb := rb) (p := p') (c := c') (by simp; omega) h2 (fun z hz => ?_) ?_
          · rcases List.mem_append.1 hz with hz | hz
            · exact h3 z hz
            · rw [List.mem_singleton.1 hz]; omega
          · rw [kints_append, List.length_append, List.length_singleton]
            exact hs8.tail
        refine hX _ H8 ?_
        intro J3 hJ3
        exact br_dec (fun _ => ⟨_, rfl, _, flR_e hs9, br_f rfl (hbad 20 (by decide) hb.symm _ _ _ hs9)⟩) (fun _ => hbad 20 (by decide) hb.symm _ _ _ hs9)
      · rw [bytesM, getM_num (n := 8) hle] at hb
        simp only [show Int.toNat 8 = 8 from rfl] at hs5 hb ⊢
        have hv := numB_rng false B a2 8
        generalize numB false B a2 8 = v at *
        rw [wrap_u8 (by omega) (by omega)]
        refine hs5.alcE fun b H6 he hs6 => ⟨.inl he, ?_⟩
        refine hs6.appC 2 0 (el := 5) (k := 1) rfl rfl rfl (one1 rfl) (by decide) rfl (by omega) (by omega) fun p' c' H7 hs7 => ⟨_, rfl, ?_⟩
        refine hs7.put 3 (j := 1) rfl (by simp) rfl fun H8 hs8 => ?_
        refine ih (k + 1) (a2 + 8) (out2 ++ [v]) H8 (by omega) (by simp; omega) hb ?_
        refine flR_mk (rb := rb) (p := p') (c := c') (by simp; omega) h2 (fun z hz => ?_) ?_
        · rcases List.mem_append.1 hz with hz | hz
          · exact h3 z hz
          · rw [List.mem_singleton.1 hz]; omega
        · rw [kints_append, List.length_append, List.length_singleton]
          exact hs8.tail
  exact loop N 0 _ out H3 (by omega) (by omega) key hs3

end

/-- The fixed codes' lengths. -/
theorem fixK : ∀ k : Fin 288, (k.val ≥ 144 ∧ k.val < 256 → fixL.getD k.val 0 = 9) ∧ (k.val ≥ 256 ∧ k.val < 280 → fixL.getD k.val 0 = 7) ∧ (¬ (k.val ≥ 144 ∧ k.val < 256) → ¬ (k.val ≥ 256 ∧ k.val < 280) → fixL.getD k.val 0 = 8) := by decide +kernel
theorem fixL_len : fixL.length = 288 := by decide +kernel
theorem fixD_len : fixD.length = 32 := by decide +kernel
theorem fixD_get : ∀ k : Fin 32, fixD.getD k.val 0 = 5 := by decide +kernel
theorem take_get {l : List Int} {k : Nat} (h : k < l.length) : l.take (k + 1) = l.take k ++ [l.getD k 0] := by
  rw [List.take_add_one, get_gD l 0 h]; rfl

theorem c24 (hR : ∀ p c q c' H', St H H' [.sl q 32 c' 3 1 (ints fixD), .sl p 288 c 3 1 (ints fixL)] → R (.tuple #[.slice p 288 c, .slice q 32 c']) H') : CallsH Try.prog 24 #[] H R := by
  refine Try.s24 (_u := ()) ?_
  unfold Try.S24
  intro X hX
  have two : ∀ p c H1, St H H1 [.sl p 288 c 3 1 (ints fixL)] → X [.slice p 288 c, .int .i64 ((288 : Nat) : Int)] H1 := fun p c H1 hs1 => by
    refine hX _ _ _ _ H1 (br_n (by omega) ?_)
    intro Y hY
    have go : ∀ k, k ≤ 32 → ∀ q c' H2, St H H2 [.sl q k c' 3 1 (ints (fixD.take k)), .sl p 288 c 3 1 (ints fixL)] → Y [.slice q k c', .int .i64 (k : Nat)] H2 := upto fun k hk ih q c' H2 hs2 => by
      refine hY _ _ _ _ H2 (br_dec (fun hlt => ?_) (fun hge => ?_))
      · have hlt : k < 32 := by omega
        rw [wrap_id (by omega) (by omega)]
        refine hs2.alc fun b H3 hs3 => ?_
        refine hs3.appC 1 0 (el := 3) (k := 1) rfl rfl rfl (one1 rfl) (by decide) rfl (by omega) (by omega) fun p' c2 H4 hs4 => ?_
        refine ih hlt p' c2 H4 ?_
        have e : fixD.take (k + 1) = fixD.take k ++ [5] := by rw [take_get (by rw [fixD_len]; exact hlt), fixD_get ⟨k, hlt⟩]
        rw [e, ints_append]
        exact hs4.tail
      · have : k = 32 := by omega
        subst this
        refine hR p c q c' H2 ?_
        rw [List.take_of_length_le (by rw [fixD_len]; exact Nat.le_refl _)] at hs2
        exact hs2
    exact go 0 (by omega) none 0 H1 (hs1.nilSl 3 1)
  have go : ∀ k, k ≤ 288 → ∀ p c H1, St H H1 [.sl p k c 3 1 (ints (fixL.take k))] → X [.slice p k c, .int .i64 (k : Nat)] H1 := upto fun k hk ih p c H1 hs1 => by
    by_cases hlt : k < 288
    · refine hX _ _ _ _ H1 (br_y (by omega) ?_)
      intro J hJ
      have nx : ∀ n, fixL.getD k 0 = n → J [.int .i64 n] H1 := fun n hn => by
        refine hJ _ H1 ?_
        rw [wrap_id (by omega) (by omega)]
        refine hs1.alc fun b H3 hs3 => ?_
        refine hs3.appC 1 0 (el := 3) (k := 1) rfl rfl rfl (one1 rfl) (by decide) rfl (by omega) (by omega) fun p' c2 H4 hs4 => ?_
        refine ih hlt p' c2 H4 ?_
        rw [take_get (by rw [fixL_len]; exact hlt), hn, ints_append]
        exact hs4.tail
      obtain ⟨k1, k2, k3⟩ := fixK ⟨k, hlt⟩
      simp only at k1 k2 k3
      refine br_dec (fun h1 => br_dec (fun h2 => nx 9 (k1 (by omega))) (fun h2 => br_dec (fun h3 => br_dec (fun h4 => nx 7 (k2 (by omega))) (fun h4 => nx 8 (k3 (by omega) (by omega)))) (fun h3 => nx 8 (k3 (by omega) (by omega))))) (fun h1 => br_dec (fun h3 => br_dec (fun h4 => nx 7 (k2 (by omega))) (fun h4 => nx 8 (k3 (by omega) (by omega)))) (fun h3 => nx 8 (k3 (by omega) (by omega))))
    · have : k = 288 := by omega
      subst this
      rw [List.take_of_length_le (by rw [fixL_len]; exact Nat.le_refl _)] at hs1
      exact two p c H1 hs1
  exact go 0 (by omega) none 0 H ((St.nil H).nilSl 3 1)

end Go.Proofs
