/-
  OWN WORK. Package flate over heaps: 'Inflate'.
-/
import Derived.Test.YtdigjlhobhpfpaaFlJ
import Derived.Test.YtdigjlhobhpfpaaFlCoP
set_option linter.unusedVariables false
set_option linter.unusedSimpArgs false
namespace Go.Proofs
open Go.Sh

/-- The tables of a block of kind 2 are read as T says. -/
def TabC (T : TabT) : Prop := ∀ {H0 H : Heap} {σ : List Rs} {R : Value → Heap → Prop} {f a most : Nat} {B out : List Int}, St H0 H (flR f B a most out 0 :: σ) →
  (∀ k, k ≠ 0 → T B a = .error k → ∀ H' a' d1 d2 τ, St H0 H' (flR f B a' most out k :: τ ++ σ) → R (.tuple #[.pointer d1, .pointer d2]) H') →
  (∀ a' ll dl, T B a = .ok (a', ll, dl) → a ≤ a' → ∀ H' b1 b2 P1 F1 P2 F2 τ, St H0 H' (flR f B a' most out 0 :: decR b1 ll P1 F1 :: decR b2 dl P2 F2 :: τ ++ σ) → R (.tuple #[.pointer (some ⟨b1, 0, none⟩), .pointer (some ⟨b2, 0, none⟩)]) H') →
  CallsH Try.prog 27 #[.pointer (some ⟨f, 0, none⟩)] H R

theorem symsM_adv {B : List Int} {mst : Int} {ll dl : List Int} : ∀ (g a : Nat) (out : List Int) {a' : Nat} {out' : List Int}, symsM B mst ll dl g a out = .ok (a', out') → a ≤ a'
  | 0, _, _, _, _, h => by cases h
  | g + 1, a, out, a', out', h => by
    rw [symsM] at h
    split at h
    · cases h
    · rename_i s a1 h1
      have := symM_adv h1
      split at h
      · cases h; omega
      · split at h
        · split at h
          · cases h
          · rename_i a2 out2 h2
            have := copiesM_adv h2
            have := symsM_adv g _ _ h
            omega
        · split at h
          · cases h
          · have := symsM_adv g _ _ h
            omega
theorem bytesM_adv {B : List Int} : ∀ (n a : Nat) (out : List Int) {a' : Nat} {out' : List Int}, bytesM B n a out = .ok (a', out') → a ≤ a'
  | 0, a, out, a', out', h => by cases h; exact Nat.le_refl _
  | n + 1, a, out, a', out', h => by
    rw [bytesM] at h
    split at h
    · cases h
    · rename_i c a1 h1
      have := getM_adv h1
      have := bytesM_adv n _ _ h
      omega
theorem storedM_adv {B : List Int} {mst : Int} {a a' : Nat} {out out' : List Int} (h : storedM B mst a out = .ok (a', out')) : a ≤ a' := by
  unfold storedM at h
  split at h
  · cases h
  · rename_i n a1 h1
    split at h
    · cases h
    · rename_i m a2 h2
      split at h
      · cases h
      · split at h
        · cases h
        · have := getM_adv h1; have := getM_adv h2; have := bytesM_adv _ _ _ h
          omega

theorem inflate_of {T : TabT} {H : Heap} {R : Value → Heap → Prop} {p : Option Addr} {l c : Nat} {B : List Int} (h : IS H p l (kints .u8 B)) (hl : l ≤ 1000000000) (hB : ∀ x ∈ B, 0 ≤ x ∧ x < 256) {most : Int} (hm : most ≤ 1000000000)
    (hT : TabC T ∨ T = noT ∧ inflM T B most ≠ .error 99)
    (hbad : ∀ k, k ≠ 0 → inflM T B most = .error k → ∀ H', Ext H H' → R (.tuple #[.slice none 0 0, .int .i64 0, .int .i64 k]) H')
    (hR : ∀ out n, inflM T B most = .ok (out, n) → ∀ H' q m, (∀ y ∈ out, 0 ≤ y ∧ y < 256) → St H H' [.sl q out.length m 5 1 (kints .u8 out)] → R (.tuple #[.slice q out.length m, .int .i64 (n : Nat), .int .i64 0]) H') :
    CallsH Try.prog 12 #[.slice p l c, .int .i64 most] H R := by
  refine Try.s12 ?_
  unfold Try.S12
  refine c21 h hl hB fun rb H1 hs1 => ⟨_, rfl, hs1.alc fun fb H2 hs2 => ?_⟩
  obtain ⟨M, hM⟩ := Int.eq_ofNat_of_zero_le (show 0 ≤ max most 0 by omega)
  unfold inflM at hT hbad hR
  rw [hM] at hT hbad hR hs2
  have hs : St H H2 [flR fb B 0 M [] 0] := flR_mk (p := none) (c := 0) (by simp) (by omega) (by simp) ((hs2.nilSl 5 1).front 2 rfl)
  clear hs1 hs2
  generalize hX0 : blocksM T B M (8 * B.length + 1) 0 [] = W at hT hbad hR
  intro J hJ
  have fin : ∀ H3 a out e τ, St H H3 (flR fb B a M out e :: τ) → (e = 0 → W = .ok (a, out)) → (e ≠ 0 → W = .error e) → J [] H3 := fun H3 a out e τ hs h0 h1 => by
    have hs := hs.take 1
    refine hJ H3 ⟨_, rfl, _, flR_e hs, br_ne (fun hne => ⟨_, rfl, _, flR_e hs, hbad e hne (by rw [h1 hne]) H3 hs.ext⟩) (fun he => ?_)⟩
    obtain ⟨rb, p, c, h1, h2, h3, hs'⟩ := flR_op hs
    have hrd := flR_rd hs
    refine ⟨_, rfl, _, _, _, hs'.get 2 (j := 1) rfl rfl, _, rfl, _, hs'.get 2 (j := 0) rfl rfl, c29 hs' (i := 0) rfl ⟨_, rfl, .inl (Ext.refl _), by decide, ?_⟩⟩
    rw [wrap_id (n := (a : Int) + 7) (by omega) (by omega), show (a : Int) + 7 = ((a + 7 : Nat) : Int) from rfl, wdiv8 _ (by omega)]
    exact hR out ((a + 7) / 8) (by rw [h0 he]) H3 p c h3 (hs'.tail.take 1)
  intro X hX
  have bad : ∀ k b, k ≠ 0 → W = .error k → ∀ H3 a out τ, St H H3 (flR fb B a M out k :: τ) → X [.bool b] H3 := fun k b hk hW H3 a out τ hs => by
    refine hX b H3 ?_
    intro J2 hJ2
    have := fin H3 a out k τ hs (fun h => absurd h hk) (fun _ => hW)
    exact br_not (fun _ => ⟨_, rfl, _, flR_e hs, br_eq (fun h => absurd h hk) (fun _ => this)⟩) (fun _ => this)
  have loop : ∀ (g a : Nat) (out : List Int) (H3 : Heap), 8 * B.length < a + g → blocksM T B M g a out = W → St H H3 [flR fb B a M out 0] → X [.bool false] H3 := by
    intro g
    induction g with
    | zero =>
      intro a out H3 hg he hs
      have := flR_rd hs; omega
    | succ g ih =>
      intro a out H3 hg he hs
      rw [blocksM] at he
      refine hX false H3 ?_
      intro J2 hJ2
      refine br_t rfl ⟨_, rfl, _, flR_e hs, br_t rfl (hJ2 H3 ?_)⟩
      refine c22 hs (by omega) (fun hlt H4 hs4 => ⟨_, rfl, ?_⟩) (fun hle H4 hs4 => ⟨_, rfl, ?_⟩)
      · rw [getM_bad (n := 1) hlt] at he
        rw [if_pos rfl] at hs4
        refine c22 hs4 (by omega) (fun hlt H5 hs5 => ⟨_, rfl, ?_⟩) (fun hle H5 hs5 => ⟨_, rfl, ?_⟩)
        · rw [if_neg (by decide)] at hs5
          exact ⟨_, rfl, _, flR_e hs5, br_t rfl (bad 20 _ (by decide) he.symm H5 _ _ _ hs5)⟩
        · exact ⟨_, rfl, _, flR_e hs5, br_t rfl (bad 20 _ (by decide) he.symm H5 _ _ _ hs5)⟩
      rw [getM_num (n := 1) hle] at he
      simp only [show Int.toNat 1 = 1 from rfl] at hs4 he hle ⊢
      have hl01 := numB_rng false B a 1
      generalize numB false B a 1 = last at *
      refine c22 hs4 (by omega) (fun hlt H5 hs5 => ⟨_, rfl, ?_⟩) (fun hle2 H5 hs5 => ⟨_, rfl, ?_⟩)
      · rw [getM_bad (n := 2) hlt] at he
        rw [if_pos rfl] at hs5
        exact ⟨_, rfl, _, flR_e hs5, br_t rfl (bad 20 _ (by decide) he.symm H5 _ _ _ hs5)⟩
      rw [getM_num (n := 2) hle2] at he
      simp only [show Int.toNat 2 = 2 from rfl] at hs5 he hle2 ⊢
      have hk := numB_rng false B (a + 1) 2
      generalize numB false B (a + 1) 2 = kind at *
      have e1 : (2 : Int) ^ 1 = 2 := by decide
      have e2 : (2 : Int) ^ 2 = 4 := by decide
      -- behind a block
      have nx : ∀ a3 out3 H6 τ, a + 3 ≤ a3 → (if last = 1 then (.ok (a3, out3) : Except Int (Nat × List Int)) else blocksM T B M g a3 out3) = W → St H H6 (flR fb B a3 M out3 0 :: τ) → X [.bool (last == 1)] H6 := fun a3 out3 H6 τ ha hW hs6 => by
        by_cases hla : last = 1
        · rw [if_pos hla] at hW
          subst hla
          refine hX _ H6 ?_
          intro J3 hJ3
          exact br_f rfl (fin H6 a3 out3 0 τ hs6 (fun _ => hW.symm) (fun h => absurd rfl h))
        · rw [if_neg hla] at hW
          have : (last == 1) = false := by simpa using hla
          rw [this]
          exact ih a3 out3 H6 (by omega) hW (hs6.take 1)
      refine ⟨_, rfl, _, flR_e hs5, br_f rfl (br_eq (fun h0 => ?_) (fun h0 => br_eq (fun h1 => ?_) (fun h1 => br_eq (fun h2 => ?_) (fun h2 => ?_))))⟩
      · rw [if_pos h0] at he
        refine c23 hs5 (fun k hk0 hk2 H6 a6 out6 hs6 => ⟨rfl, ?_⟩) (fun a6 out6 hk2 H6 hs6 => ⟨rfl, ?_⟩)
        · rw [hk2] at he
          exact bad k _ hk0 he.symm H6 a6 out6 _ hs6
        · rw [hk2] at he
          exact nx a6 out6 H6 _ (storedM_adv hk2) he hs6
      · rw [if_neg h0, if_pos h1] at he
        refine c24 fun p1 c1 q1 c2 H6 hs6 => ⟨_, _, _, _, _, _, rfl, ?_⟩
        have hs6 := hs5.call hs6
        refine newDecR (hs6.is 1 rfl) (fun hn => absurd fixL_ok hn) fun _ H7 d1 P1 F1 hs7 => ⟨_, _, rfl, ?_⟩
        have hs7 := hs6.call hs7
        refine newDecR (hs7.is 1 rfl) (fun hn => absurd fixD_ok hn) fun _ H8 d2 P2 F2 hs8 => ⟨_, _, rfl, ?_⟩
        have hs8 := (hs7.call hs8).front 4 rfl
        refine c26 hs8 (j1 := 1) (j2 := 0) rfl rfl (fun k hk0 hk2 H9 a9 out9 hs9 => ⟨rfl, ?_⟩) (fun a9 out9 hk2 H9 hs9 => ⟨rfl, ?_⟩)
        · rw [hk2] at he
          exact bad k _ hk0 he.symm H9 a9 out9 _ hs9
        · rw [hk2] at he
          exact nx a9 out9 H9 _ (symsM_adv _ _ _ hk2) he hs9
      · rw [if_neg h0, if_neg h1, if_pos h2] at he
        rcases hT with hT | ⟨rfl, hne⟩
        · refine hT hs5 (fun k hk0 hk2 H6 a6 d1 d2 τ hs6 => ⟨_, _, rfl, ?_⟩) (fun a6 ll dl hk2 ha6 H6 b1 b2 P1 F1 P2 F2 τ hs6 => ⟨_, _, rfl, ?_⟩)
          · rw [hk2] at he
            exact symbols_e hs6 hk0 ⟨rfl, bad k _ hk0 he.symm H6 a6 out _ hs6⟩
          · rw [hk2] at he
            refine c26 hs6 (j1 := 0) (j2 := 1) rfl rfl (fun k hk0 hk2 H9 a9 out9 hs9 => ⟨rfl, ?_⟩) (fun a9 out9 hk2 H9 hs9 => ⟨rfl, ?_⟩)
            · simp only at he
              rw [hk2] at he
              exact bad k _ hk0 he.symm H9 a9 out9 _ hs9
            · simp only at he
              rw [hk2] at he
              have := symsM_adv _ _ _ hk2
              exact nx a9 out9 H9 _ (by omega) he hs9
        · exact absurd (by rw [← he]; rfl) hne
      · rw [if_neg h0, if_neg h1, if_neg h2] at he
        refine c28 hs5 fun H6 hs6 => ⟨rfl, ?_⟩
        rw [if_pos rfl] at hs6
        exact bad 25 _ (by decide) he.symm H6 _ _ _ hs6
  exact loop _ 0 [] H2 (by omega) hX0 hs

theorem c14 {H : Heap} {R : Value → Heap → Prop} {p q : Option Addr} {l c l2 c2 : Nat} {xs ys : List Int} (h1 : IS H p l (kints .u8 xs)) (h2 : IS H q l2 (kints .u8 ys)) (hl : l ≤ 1000000000000) (hR : R (.bool (decide (xs = ys))) H) :
    CallsH Try.prog 14 #[.slice p l c, .slice q l2 c2] H R := by
  have e1 := h1.length
  have e2 := h2.length
  refine Try.s14 (br_ne (fun hne => ?_) (fun he => ?_))
  · rw [show decide (xs = ys) = false from decide_eq_false fun h => hne (by subst h; omega)] at hR
    exact hR
  intro X hX
  have go : ∀ k, k ≤ l → xs.take k = ys.take k → X [.int .i64 (k : Nat)] H := upto fun k hk ih heq => by
    refine hX _ H (br_dec (fun hlt => ?_) (fun hge => ?_))
    · have hlt : k < l := by omega
      obtain ⟨x, hx⟩ := h1.get' hlt
      obtain ⟨y, hy⟩ := h2.get' (i := k) (by omega)
      refine h1.rd (by omega) (by omega) (by rw [Int.toNat_natCast]; exact hx) (h2.rd (by omega) (by omega) (by rw [Int.toNat_natCast]; exact hy) (br_ne (fun hne => ?_) (fun he => ?_)))
      · rw [show decide (xs = ys) = false from decide_eq_false fun h => hne (by subst h; rw [hx] at hy; exact Option.some.inj hy)] at hR
        exact hR
      · rw [wrap_id (by omega) (by omega)]
        refine ih hlt ?_
        rw [List.take_add_one, List.take_add_one, heq, hx, hy, he]
    · have : k = l := by omega
      subst this
      rw [List.take_of_length_le (by omega), List.take_of_length_le (by omega)] at heq
      rw [show decide (xs = ys) = true from decide_eq_true heq] at hR
      exact hR
  exact go 0 (by omega) rfl

end Go.Proofs
