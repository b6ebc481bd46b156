/-
  OWN WORK. Package flate over heaps: copies, a block's symbols.
-/
import Derived.Test.YtdigjlhobhpfpaaFlH
set_option linter.unusedVariables false
set_option linter.unusedSimpArgs false
namespace Go.Proofs
open Go.Sh
variable {H0 H : Heap} {σ : List Rs} {R : Value → Heap → Prop}

theorem lenK : ∀ x : Fin 29, (IntKind.wrap .i64 (((257 + x.val : Nat) : Int) - 257) < 8 → IntKind.wrap .i64 (3 + IntKind.wrap .i64 (((257 + x.val : Nat) : Int) - 257)) = ((lenB (257 + x.val)).1 : Int) ∧ (0 : Int) = ((lenB (257 + x.val)).2 : Int)) ∧
    (¬ IntKind.wrap .i64 (((257 + x.val : Nat) : Int) - 257) < 8 → IntKind.wrap .i64 (((257 + x.val : Nat) : Int) - 257) = 28 → (258 : Int) = ((lenB (257 + x.val)).1 : Int) ∧ (0 : Int) = ((lenB (257 + x.val)).2 : Int)) ∧
    (¬ IntKind.wrap .i64 (((257 + x.val : Nat) : Int) - 257) < 8 → IntKind.wrap .i64 (((257 + x.val : Nat) : Int) - 257) ≠ 28 → 0 ≤ (IntKind.wrap .i64 ((IntKind.wrap .i64 (Int.tdiv (IntKind.wrap .i64 (((257 + x.val : Nat) : Int) - (257 : Int))) (4 : Int))) - (1 : Int))) ∧
      (IntKind.wrap .i64 ((3 : Int) + (shlI .i64 (IntKind.wrap .i64 ((4 : Int) + (Int.tmod (IntKind.wrap .i64 (((257 + x.val : Nat) : Int) - (257 : Int))) (4 : Int)))) (IntKind.wrap .i64 ((IntKind.wrap .i64 (Int.tdiv (IntKind.wrap .i64 (((257 + x.val : Nat) : Int) - (257 : Int))) (4 : Int))) - (1 : Int)))))) = ((lenB (257 + x.val)).1 : Int) ∧
      (IntKind.wrap .i64 ((IntKind.wrap .i64 (Int.tdiv (IntKind.wrap .i64 (((257 + x.val : Nat) : Int) - (257 : Int))) (4 : Int))) - (1 : Int))) = ((lenB (257 + x.val)).2 : Int)) ∧ (lenB (257 + x.val)).2 ≤ 5 ∧ (lenB (257 + x.val)).1 ≤ 258 := by decide +kernel
theorem dstK : ∀ x : Fin 30, (((x.val : Nat) : Int) < 4 → IntKind.wrap .i64 (1 + ((x.val : Nat) : Int)) = ((dstB x.val).1 : Int) ∧ (0 : Int) = ((dstB x.val).2 : Int)) ∧
    (¬ ((x.val : Nat) : Int) < 4 → 0 ≤ (IntKind.wrap .i64 ((IntKind.wrap .i64 (Int.tdiv ((x.val : Nat) : Int) (2 : Int))) - (1 : Int))) ∧
      (IntKind.wrap .i64 ((1 : Int) + (shlI .i64 (IntKind.wrap .i64 ((2 : Int) + (Int.tmod ((x.val : Nat) : Int) (2 : Int)))) (IntKind.wrap .i64 ((IntKind.wrap .i64 (Int.tdiv ((x.val : Nat) : Int) (2 : Int))) - (1 : Int)))))) = ((dstB x.val).1 : Int) ∧
      (IntKind.wrap .i64 ((IntKind.wrap .i64 (Int.tdiv ((x.val : Nat) : Int) (2 : Int))) - (1 : Int))) = ((dstB x.val).2 : Int)) ∧ (dstB x.val).2 ≤ 13 ∧ (dstB x.val).1 ≤ 32768 ∧ 1 ≤ (dstB x.val).1 := by decide +kernel
theorem lenB_le {s : Nat} (h : 257 ≤ s ∧ s ≤ 285) : (lenB s).2 ≤ 5 ∧ (lenB s).1 ≤ 258 := by
  have := (lenK ⟨s - 257, by omega⟩).2.2.2
  simp only [show 257 + (s - 257) = s from by omega] at this
  exact this
theorem dstB_le {s : Nat} (h : s ≤ 29) : (dstB s).2 ≤ 13 ∧ (dstB s).1 ≤ 32768 ∧ 1 ≤ (dstB s).1 := (dstK ⟨s, by omega⟩).2.2

theorem c46 {s : Nat} (h : 257 ≤ s ∧ s ≤ 285) (hR : R (.tuple #[.int .i64 ((lenB s).1 : Nat), .int .i64 ((lenB s).2 : Nat)]) H) : CallsH Try.prog 46 #[.int .i64 (s : Nat)] H R := by
  have k := lenK ⟨s - 257, by omega⟩
  simp only [show 257 + (s - 257) = s from by omega] at k
  obtain ⟨k1, k2, k3, _⟩ := k
  refine Try.s46 (br_dec (fun h1 => ?_) (fun h1 => br_eq (fun h2 => ?_) (fun h2 => ⟨by decide, by decide, (k3 h1 h2).1, ?_⟩)))
  · rw [(k1 h1).1, (k1 h1).2]; exact hR
  · rw [(k2 h1 h2).1, (k2 h1 h2).2]; exact hR
  · rw [(k3 h1 h2).2.1, (k3 h1 h2).2.2]; exact hR
theorem c47 {s : Nat} (h : s ≤ 29) (hR : R (.tuple #[.int .i64 ((dstB s).1 : Nat), .int .i64 ((dstB s).2 : Nat)]) H) : CallsH Try.prog 47 #[.int .i64 (s : Nat)] H R := by
  obtain ⟨k1, k2, _⟩ := dstK ⟨s, by omega⟩
  refine Try.s47 (br_dec (fun h1 => ?_) (fun h1 => ⟨by decide, by decide, (k2 h1).1, ?_⟩))
  · rw [(k1 h1).1, (k1 h1).2]; exact hR
  · rw [(k2 h1).2.1, (k2 h1).2.2]; exact hR

section
variable {f a most : Nat} {B out : List Int}

theorem c39 (hs : St H0 H (flR f B a most out 0 :: σ)) {j d : Nat} {dl F : List Int} {P : List (Nat × Int)} (hj : σ[j]? = some (decR d dl P F)) {s : Nat} (hs257 : 257 ≤ s ∧ s ≤ 1000)
    (hbad : ∀ k, k ≠ 0 → copiesM B most dl s a out = .error k → ∀ H' a', St H0 H' (flR f B a' most out k :: σ) → R (.tuple #[]) H')
    (hR : ∀ a' out', copiesM B most dl s a out = .ok (a', out') → ∀ H', St H0 H' (flR f B a' most out' 0 :: σ) → R (.tuple #[]) H') :
    CallsH Try.prog 39 #[.pointer (some ⟨f, 0, none⟩), .int .i64 (s : Nat), .pointer (some ⟨d, 0, none⟩)] H R := by
  have key : copiesM B most dl s a out = copiesM B most dl s a out := rfl
  conv at key => lhs; unfold copiesM
  refine Try.s39 (br_dec (fun h => c28 hs fun H1 hs => ⟨rfl, ?_⟩) (fun h => ?_))
  · rw [if_pos (by omega)] at key
    exact hbad 25 (by decide) key.symm H1 _ hs
  rw [if_neg (by omega)] at key
  have hb := lenB_le (s := s) (by omega)
  refine c46 (by omega) ⟨_, _, rfl, c22 hs (by omega) (fun hlt H1 hs => ?_) (fun hle H1 hs => ?_)⟩
  · rw [Int.toNat_natCast] at hlt
    unfold getM at key
    rw [if_neg (by omega)] at key
    rw [if_pos rfl] at hs
    exact ⟨_, rfl, symbol_e hs (by decide) fun H2 a2 hs => ⟨_, rfl, _, rfl, _, flR_e hs, br_t rfl (hbad 20 (by decide) key.symm H2 _ hs)⟩⟩
  rw [Int.toNat_natCast] at hle hs ⊢
  rw [show getM B (lenB s).2 a = .ok (numB false B a (lenB s).2, a + (lenB s).2) from by unfold getM; rw [if_pos hle]] at key
  have hx := numB_rng false B a (lenB s).2
  have hx2 : (2 : Int) ^ (lenB s).2 ≤ 2 ^ 5 := pow_le hb.1
  generalize numB false B a (lenB s).2 = x at *
  simp only at key
  refine ⟨_, rfl, c38 hs hj (fun k hk hsy H2 a2 hs => ?_) (fun t a2 hsy H2 hs => ?_)⟩
  · rw [hsy] at key
    exact ⟨_, rfl, _, rfl, _, flR_e hs, br_ne (fun _ => hbad k hk key.symm H2 _ hs) (fun h => absurd h hk)⟩
  rw [hsy] at key
  simp only at key
  refine ⟨_, rfl, _, rfl, _, flR_e hs, br_f rfl (br_dec (fun h29 => c28 hs fun H3 hs => ⟨rfl, ?_⟩) (fun h29 => ?_))⟩
  · rw [if_pos (by omega)] at key
    exact hbad 25 (by decide) key.symm H3 _ hs
  rw [if_neg (by omega)] at key
  have hd := dstB_le (s := t) (by omega)
  refine c47 (by omega) ⟨_, _, rfl, c22 hs (by omega) (fun hlt H3 hs => ?_) (fun hle H3 hs => ?_)⟩
  · rw [Int.toNat_natCast] at hlt
    rw [show getM B (dstB t).2 a2 = .error 20 from by unfold getM; rw [if_neg (by omega)]] at key
    rw [if_pos rfl] at hs
    exact ⟨_, rfl, _, rfl, _, flR_e hs, br_t rfl (hbad 20 (by decide) key.symm H3 _ hs)⟩
  rw [Int.toNat_natCast] at hle hs ⊢
  rw [show getM B (dstB t).2 a2 = .ok (numB false B a2 (dstB t).2, a2 + (dstB t).2) from by unfold getM; rw [if_pos hle]] at key
  have hy := numB_rng false B a2 (dstB t).2
  have hy2 : (2 : Int) ^ (dstB t).2 ≤ 2 ^ 13 := pow_le hd.1
  generalize numB false B a2 (dstB t).2 = y at *
  simp only at key
  obtain ⟨rb, p, c, h1, h2, h3, hs'⟩ := flR_op hs
  have e5 : (2 : Int) ^ 5 = 32 := by decide
  have e13 : (2 : Int) ^ 13 = 8192 := by decide
  have w1 : IntKind.wrap .i64 ((((dstB t).1 : Nat) : Int) + y) = ((dstB t).1 : Nat) + y := wrap_id (by omega) (by omega)
  have w2 : IntKind.wrap .i64 ((((lenB s).1 : Nat) : Int) + x) = ((lenB s).1 : Nat) + x := wrap_id (by omega) (by omega)
  have w3 : IntKind.wrap .i64 ((most : Int) - (out.length : Nat)) = (most : Int) - (out.length : Nat) := wrap_id (by omega) (by omega)
  refine ⟨_, rfl, _, rfl, _, flR_e hs, br_f rfl ⟨_, rfl, _, _, _, hs'.get 2 (j := 1) rfl rfl, ?_⟩⟩
  rw [w1, w2]
  refine br_dec (fun hgt => c28 hs fun H4 hs => ⟨rfl, ?_⟩) (fun hgt => ⟨_, rfl, _, hs'.get 2 (j := 2) rfl rfl, _, rfl, _, _, _, hs'.get 2 (j := 1) rfl rfl, ?_⟩)
  · rw [if_pos hgt] at key
    exact hbad 22 (by decide) key.symm H4 _ hs
  rw [if_neg hgt] at key
  rw [w3]
  refine br_dec (fun hg2 => c28 hs fun H4 hs => ⟨rfl, ?_⟩) (fun hg2 => ?_)
  · rw [if_pos hg2] at key
    exact hbad 24 (by decide) key.symm H4 _ hs
  rw [if_neg hg2] at key
  have hR := hR _ _ key.symm
  clear key hbad w1 w2 w3 hs' p c rb
  obtain ⟨D, hD⟩ := Int.eq_ofNat_of_zero_le (show 0 ≤ (((dstB t).1 : Nat) : Int) + y by omega)
  obtain ⟨N, hN⟩ := Int.eq_ofNat_of_zero_le (show 0 ≤ (((lenB s).1 : Nat) : Int) + x by omega)
  rw [show (dstB t).1 + y.toNat = D from by omega, show (lenB s).1 + x.toNat = N from by omega] at hR
  rw [hD, hN]
  intro X hX
  have loop : ∀ (m k : Nat) (out1 : List Int) (H4 : Heap), k + m = N → out1.length = out.length + k → copyM D m out1 = copyM D N out → St H0 H4 (flR f B (a2 + (dstB t).2) most out1 0 :: σ) → X [.int .i64 k] H4 := by
    intro m
    induction m with
    | zero =>
      intro k out1 H4 hk hl hc hs
      refine hX _ H4 (br_n (by omega) (hR H4 ?_))
      rw [← hc]; exact hs
    | succ m ih =>
      intro k out1 H4 hk hl hc hs
      obtain ⟨rb, p, c, h1, h2, h3, hs'⟩ := flR_op hs
      have w1 : IntKind.wrap .i64 (((out1.length : Nat) : Int) - (D : Int)) = ((out1.length - D : Nat) : Int) := by rw [wrap_id (by omega) (by omega)]; omega
      have wk : IntKind.wrap .i64 ((k : Int) + 1) = ((k + 1 : Nat) : Int) := by rw [wrap_id (by omega) (by omega)]; omega
      refine hX _ H4 (br_y (by omega) ⟨_, rfl, _, _, _, hs'.get 2 (j := 1) rfl rfl, _, rfl, _, _, _, hs'.get 2 (j := 1) rfl rfl, _, rfl, _, _, _, hs'.get 2 (j := 1) rfl rfl, ?_⟩)
      rw [w1, wk]
      have hv := get_gD out1 0 (i := out1.length - D) (by omega)
      have hvr := h3 _ (List.mem_of_getElem? hv)
      rw [copyM] at hc
      generalize out1.getD (out1.length - D) 0 = v at hv hvr hc
      refine (hs'.is 1 rfl).rd (by omega) (by omega) (by rw [Int.toNat_natCast]; exact hv) ?_
      refine hs'.alcE fun b H5 he hs5 => ⟨.inl he, ?_⟩
      refine hs5.appC 2 0 (el := 5) (k := 1) rfl rfl rfl (one1 rfl) (by decide) rfl (by omega) (by omega) fun p' c' H6 hs6 => ⟨_, rfl, ?_⟩
      refine hs6.put 3 (j := 1) rfl (by simp) rfl fun H7 hs7 => ?_
      refine ih (k + 1) (out1 ++ [v]) H7 (by omega) (by simp; omega) hc ?_
      refine flR_mk (rb := rb) (p := p') (c := c') (by simp; omega) h2 (fun z hz => ?_) ?_
      · rcases List.mem_append.1 hz with hz | hz
        · exact h3 z hz
        · rw [List.mem_singleton.1 hz]; exact hvr
      · rw [kints_append, List.length_append, List.length_singleton]
        exact hs7.tail
  exact loop N 0 out H3 (by omega) (by omega) rfl hs

end
end Go.Proofs
