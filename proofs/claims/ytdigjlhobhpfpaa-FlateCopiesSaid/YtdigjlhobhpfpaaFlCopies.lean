/-
  OWN WORK. FlateCopies over heaps.
-/
import Derived.Test.YtdigjlhobhpfpaaFlL
set_option linter.unusedVariables false
set_option linter.unusedSimpArgs false
namespace Go.Proofs
open Go.Sh
variable {H0 H : Heap} {σ : List Rs} {R : Value → Heap → Prop}

theorem reps_one (v : Value) : ∀ n, reps n [v] = List.replicate n v
  | 0 => rfl
  | n + 1 => by rw [reps, reps_one v n, List.replicate_succ]; rfl
theorem ints_zeros (n : Nat) : reps n [Value.int .i64 0] = ints (List.replicate n 0) := by rw [reps_one]; simp [ints]
/-- Filled up to s. -/
theorem fill_set {L : List Int} {s : Nat} (h : s < L.length) : (L.take s ++ List.replicate (L.length - s) 0).set s (L.getD s 0) = L.take (s + 1) ++ List.replicate (L.length - (s + 1)) 0 := by
  rw [take_get h, List.set_append_right _ _ (by rw [List.length_take]; omega), List.length_take, Nat.min_eq_left (by omega), Nat.sub_self, show L.length - s = (L.length - (s + 1)) + 1 from by omega, List.replicate_succ, List.set_cons_zero, List.append_assoc]
  rfl
theorem fill_len {L : List Int} {s : Nat} (h : s ≤ L.length) : (L.take s ++ List.replicate (L.length - s) (0 : Int)).length = L.length := by simp; omega

theorem c17 {p : Option Addr} {l c : Nat} {ls : List Int} (h : IS H p l (ints ls)) (ok : OkC ls) (hR : ∀ b H', St H H' [.sl (some ⟨b, 0, none⟩) l l 3 1 (ints (codesM ls))] → R (.agg #[.slice p l c, .slice (some ⟨b, 0, none⟩) l l, .int .i64 (wtM ls), .bool true]) H') :
    CallsH Try.prog 17 #[.slice p l c] H R := by
  refine Try.s17 ?_
  unfold Try.S17
  refine (St.nil H).alc fun b2 H1 hs1 => ?_
  refine c32 (h.ext hs1.ext) (fun hn => absurd ok.w hn) fun _ => ⟨_, _, rfl, ?_⟩
  refine c33 (h.ext hs1.ext) (fun hn => absurd ok hn) fun _ H2 b f2 e2 => ⟨_, _, _, _, rfl, rfl, ?_⟩
  have hs2 := hs1.newSl e2 f2
  refine hs2.putAll 1 rfl (by simp) (by simp [Value.oneCell']) fun H3 hs3 => ?_
  exact ⟨_, rfl, rowIn_whole (hs3.block 1 rfl), hR b H3 (hs3.take 1)⟩

theorem c7 (hR : ∀ p q bp bq H', St H H' [.sl (some ⟨bp, 0, none⟩) 288 288 3 1 (ints (codesM fixL)), .sl p 288 288 3 1 (ints fixL), .sl (some ⟨bq, 0, none⟩) 32 32 3 1 (ints (codesM fixD)), .sl q 32 32 3 1 (ints fixD)] →
      R (.tuple #[.agg #[.slice p 288 288, .slice (some ⟨bp, 0, none⟩) 288 288, .int .i64 (wtM fixL), .bool true], .agg #[.slice q 32 32, .slice (some ⟨bq, 0, none⟩) 32 32, .int .i64 (wtM fixD), .bool true]]) H') :
    CallsH Try.prog 7 #[] H R := by
  refine Try.s7 (_u := ()) ?_
  unfold Try.S7
  refine (St.nil H).alc fun b1 H1 hs1 => hs1.alc fun b3 H2 hs2 => ⟨by decide, by decide, by decide, by decide, hs2.alc fun b5 H3 hs3 => ?_⟩
  have hs3 : St H H3 [.sl (some ⟨b5, 0, none⟩) 288 288 3 1 (ints (List.replicate 288 0)), .cell b3 _ _, .cell b1 _ _] := hs3.toSl 0 rfl (by simp [reps_length]) (by show reps 288 [Value.int .i64 0] = _; exact ints_zeros 288) (ints_one _)
  intro X hX
  have two : ∀ H4, St H H4 [.sl (some ⟨b5, 0, none⟩) 288 288 3 1 (ints fixL), .cell b3 #[Value.slice none 0 0, Value.slice none 0 0, Value.int .i64 0, Value.bool false] 27, .cell b1 #[Value.slice none 0 0, Value.slice none 0 0, Value.int .i64 0, Value.bool false] 27] → X [.int .i64 ((288 : Nat) : Int)] H4 := fun H4 hs4 => by
    refine hX _ H4 (br_n (by omega) ⟨by decide, by decide, by decide, by decide, hs4.alc fun b22 H5 hs5 => ?_⟩)
    have hs5 : St H H5 [.sl (some ⟨b22, 0, none⟩) 32 32 3 1 (ints (List.replicate 32 0)), .sl (some ⟨b5, 0, none⟩) 288 288 3 1 (ints fixL), .cell b3 _ _, .cell b1 _ _] := hs5.toSl 0 rfl (by simp [reps_length]) (by show reps 32 [Value.int .i64 0] = _; exact ints_zeros 32) (ints_one _)
    intro Y hY
    have go : ∀ k, k ≤ 32 → ∀ H6, St H H6 [.sl (some ⟨b22, 0, none⟩) 32 32 3 1 (ints (fixD.take k ++ List.replicate (fixD.length - k) 0)), .sl (some ⟨b5, 0, none⟩) 288 288 3 1 (ints fixL), .cell b3 #[Value.slice none 0 0, Value.slice none 0 0, Value.int .i64 0, Value.bool false] 27, .cell b1 #[Value.slice none 0 0, Value.slice none 0 0, Value.int .i64 0, Value.bool false] 27] → Y [.int .i64 (k : Nat)] H6 := upto fun k hk ih H6 hs6 => by
      have hDl := fixD_len
      refine hY _ H6 (br_dec (fun hlt => ?_) (fun hge => ?_))
      · have hlt : k < 32 := by omega
        refine ⟨_, rfl, by omega, by omega, ?_⟩
        rw [add_none, Nat.zero_add, Int.toNat_natCast, Nat.mul_one, wrap_id (by omega) (by omega)]
        refine hs6.slPut 0 rfl (by rw [ints_len, fill_len (L := fixD) (s := k) (by omega)]; omega) rfl fun H7 hs7 => ih hlt H7 ?_
        rw [ints_set, ← fixD_get ⟨k, hlt⟩, fill_set (L := fixD) (s := k) (by omega)] at hs7
        exact hs7
      · have : k = 32 := by omega
        subst this
        rw [List.take_of_length_le (by omega), hDl, Nat.sub_self, List.replicate_zero, List.append_nil] at hs6
        refine c17 (hs6.is 1 rfl) fixL_ok fun bp H7 hs7 => ⟨_, rfl, ?_⟩
        have hs7 := hs6.call hs7
        refine c17 (hs7.is 1 rfl) fixD_ok fun bq H8 hs8 => ⟨_, rfl, rfl, ?_⟩
        have hs8 := hs7.call hs8
        refine hs8.putAll 5 rfl (by simp) (by simp [Value.oneCell']) fun H9 hs9 => ⟨rfl, ?_⟩
        refine hs9.putAll 4 rfl (by simp) (by simp [Value.oneCell']) fun H10 hs10 => ?_
        refine ⟨_, rfl, rowIn_whole (hs10.block 5 rfl), _, rfl, rowIn_whole (hs10.block 4 rfl), ?_⟩
        refine hR _ _ bp bq H10 ?_
        have h4 := hs10.take 4
        exact (h4.front 3 rfl).front 2 rfl
    exact go 0 (by omega) H5 (by rw [List.take_zero, List.nil_append, Nat.sub_zero, fixD_len]; exact hs5)
  have go : ∀ k, k ≤ 288 → ∀ H6, St H H6 [.sl (some ⟨b5, 0, none⟩) 288 288 3 1 (ints (fixL.take k ++ List.replicate (fixL.length - k) 0)), .cell b3 #[Value.slice none 0 0, Value.slice none 0 0, Value.int .i64 0, Value.bool false] 27, .cell b1 #[Value.slice none 0 0, Value.slice none 0 0, Value.int .i64 0, Value.bool false] 27] → X [.int .i64 (k : Nat)] H6 := upto fun k hk ih H6 hs6 => by
    have hLl := fixL_len
    by_cases hlt : k < 288
    · refine hX _ H6 (br_y (by omega) ⟨_, rfl, by omega, by omega, ?_⟩)
      simp only [add_none, Nat.zero_add, Int.toNat_natCast, Nat.mul_one]
      rw [wrap_id (n := (k : Int) + 1) (by omega) (by omega)]
      have hfl := fill_len (L := fixL) (s := k) (by omega)
      obtain ⟨k1, k2, k3⟩ := fixK ⟨k, hlt⟩
      simp only at k1 k2 k3
      refine hs6.slPut 0 rfl (by rw [ints_len]; omega) rfl fun H7 hs7 => ?_
      rw [ints_set] at hs7
      intro J hJ
      have nx1 : ∀ v H8, (k < 256 → v = fixL.getD k 0) → St H H8 [.sl (some ⟨b5, 0, none⟩) 288 288 3 1 (ints ((fixL.take k ++ List.replicate (fixL.length - k) 0).set k v)), .cell b3 #[Value.slice none 0 0, Value.slice none 0 0, Value.int .i64 0, Value.bool false] 27, .cell b1 #[Value.slice none 0 0, Value.slice none 0 0, Value.int .i64 0, Value.bool false] 27] → J [] H8 := fun v H8 hv hs8 => by
        refine hJ H8 ?_
        intro J2 hJ2
        have nx2 : ∀ v H9, (k < 280 → v = fixL.getD k 0) → St H H9 [.sl (some ⟨b5, 0, none⟩) 288 288 3 1 (ints ((fixL.take k ++ List.replicate (fixL.length - k) 0).set k v)), .cell b3 #[Value.slice none 0 0, Value.slice none 0 0, Value.int .i64 0, Value.bool false] 27, .cell b1 #[Value.slice none 0 0, Value.slice none 0 0, Value.int .i64 0, Value.bool false] 27] → J2 [] H9 := fun v H9 hv hs9 => by
          refine hJ2 H9 (br_dec (fun h280 => ⟨_, rfl, by omega, by omega, ?_⟩) (fun h280 => ?_))
          · simp only [add_none, Nat.zero_add, Int.toNat_natCast, Nat.mul_one]
            refine hs9.slPut 0 (fs := ints ((fixL.take k ++ List.replicate (fixL.length - k) 0).set k v)) rfl (by rw [ints_len, List.length_set]; omega) rfl fun H10 hs10 => ih hlt H10 ?_
            rw [ints_set] at hs10
            simp only [List.set_cons_zero, List.set_set] at hs10
            rw [← k3 (by omega) (by omega), fill_set (L := fixL) (s := k) (by omega)] at hs10
            exact hs10
          · refine ih hlt H9 ?_
            rw [hv (by omega), fill_set (L := fixL) (s := k) (by omega)] at hs9
            exact hs9
        refine br_dec (fun h256 => ⟨_, rfl, by omega, by omega, ?_⟩) (fun h256 => nx2 v H8 (fun _ => hv (by omega)) hs8)
        simp only [add_none, Nat.zero_add, Int.toNat_natCast, Nat.mul_one]
        refine hs8.slPut 0 (fs := ints ((fixL.take k ++ List.replicate (fixL.length - k) 0).set k v)) rfl (by rw [ints_len, List.length_set]; omega) rfl fun H9 hs9 => nx2 7 H9 (fun h => (k2 (by omega)).symm) ?_
        rw [ints_set] at hs9
        simp only [List.set_cons_zero, List.set_set] at hs9
        exact hs9
      refine br_dec (fun h144 => ⟨_, rfl, by omega, by omega, ?_⟩) (fun h144 => nx1 8 H7 (fun _ => (k3 (by omega) (by omega)).symm) hs7)
      simp only [add_none, Nat.zero_add, Int.toNat_natCast, Nat.mul_one]
      refine hs7.slPut 0 (fs := ints ((fixL.take k ++ List.replicate (fixL.length - k) 0).set k 8)) rfl (by rw [ints_len, List.length_set]; omega) rfl fun H8 hs8 => nx1 9 H8 (fun h => (k1 (by omega)).symm) ?_
      rw [ints_set] at hs8
      simp only [List.set_cons_zero, List.set_set] at hs8
      exact hs8
    · have : k = 288 := by omega
      subst this
      rw [List.take_of_length_le (by omega), hLl, Nat.sub_self, List.replicate_zero, List.append_nil] at hs6
      exact two H6 hs6
  exact go 0 (by omega) H3 (by rw [List.take_zero, List.nil_append, Nat.sub_zero, fixL_len]; exact hs3)

/-! ### lengths and distances -/

theorem extraK : ∀ x : Fin 29, (((257 + x.val : Nat) : Int) < 265 → (0 : Int) = ((lenB (257 + x.val)).2 : Int)) ∧ (¬ ((257 + x.val : Nat) : Int) < 265 → x.val ≠ 28 → IntKind.wrap .i64 (Int.tdiv (IntKind.wrap .i64 (((257 + x.val : Nat) : Int) - 261)) 4) = ((lenB (257 + x.val)).2 : Int)) ∧
    (x.val < 27 → IntKind.wrap .i64 (((lenB (257 + x.val)).1 : Int) + shlI .i64 1 ((lenB (257 + x.val)).2 : Int)) = ((lenB (257 + x.val + 1)).1 : Int)) := by decide +kernel
theorem farK : ∀ x : Fin 30, ((x.val : Int) < 4 → (0 : Int) = ((dstB x.val).2 : Int)) ∧ (¬ (x.val : Int) < 4 → IntKind.wrap .i64 (Int.tdiv (IntKind.wrap .i64 ((x.val : Int) - 2)) 2) = ((dstB x.val).2 : Int)) ∧
    (x.val < 29 → IntKind.wrap .i64 (((dstB x.val).1 : Int) + shlI .i64 1 ((dstB x.val).2 : Int)) = ((dstB (x.val + 1)).1 : Int)) := by decide +kernel

theorem c19 {s : Nat} (h : 257 ≤ s ∧ s ≤ 284) (hR : R (.int .i64 ((lenB s).2 : Nat)) H) : CallsH Try.prog 19 #[.int .i64 (s : Nat)] H R := by
  have k := extraK ⟨s - 257, by omega⟩
  simp only [show 257 + (s - 257) = s from by omega] at k
  obtain ⟨k1, k2, _⟩ := k
  refine Try.s19 (br_dec (fun h1 => ?_) (fun h1 => ⟨by decide, ?_⟩))
  · rw [k1 h1]; exact hR
  · rw [k2 h1 (by omega)]; exact hR
theorem c10 {s : Nat} (h : 257 ≤ s ∧ s ≤ 285) (hR : R (.tuple #[.int .i64 ((lenB s).1 : Nat), .int .i64 ((lenB s).2 : Nat)]) H) : CallsH Try.prog 10 #[.int .i64 (s : Nat)] H R := by
  refine Try.s10 (br_eq (fun h1 => ?_) (fun h1 => ?_))
  · have : s = 285 := by omega
    subst this; exact hR
  intro X hX
  have go : ∀ m k, s - k = m → 257 ≤ k → k ≤ s → X [.int .i64 ((lenB k).1 : Nat), .int .i64 (k : Nat)] H := by
    intro m
    induction m with
    | zero =>
      intro k hm h0 hk
      have : k = s := by omega
      subst this
      exact hX _ _ H (br_n (by omega) (c19 (by omega) ⟨_, rfl, hR⟩))
    | succ m ih =>
      intro k hm h0 hk
      have e := (extraK ⟨k - 257, by omega⟩).2.2 (by simp; omega)
      simp only [show 257 + (k - 257) = k from by omega] at e
      refine hX _ _ H (br_y (by omega) (c19 (by omega) ⟨_, rfl, by omega, ?_⟩))
      rw [e, wrap_id (by omega) (by omega)]
      exact ih (k + 1) (by omega) (by omega) (by omega)
  exact go _ 257 rfl (by omega) h.1
theorem c20 {s : Nat} (h : s ≤ 29) (hR : R (.int .i64 ((dstB s).2 : Nat)) H) : CallsH Try.prog 20 #[.int .i64 (s : Nat)] H R := by
  obtain ⟨k1, k2, _⟩ := farK ⟨s, by omega⟩
  refine Try.s20 (br_dec (fun h1 => ?_) (fun h1 => ⟨by decide, ?_⟩))
  · rw [k1 h1]; exact hR
  · rw [k2 h1]; exact hR
theorem c11 {s : Nat} (h : s ≤ 29) (hR : R (.tuple #[.int .i64 ((dstB s).1 : Nat), .int .i64 ((dstB s).2 : Nat)]) H) : CallsH Try.prog 11 #[.int .i64 (s : Nat)] H R := by
  refine Try.s11 ?_
  intro X hX
  have go : ∀ m k, s - k = m → k ≤ s → X [.int .i64 ((dstB k).1 : Nat), .int .i64 (k : Nat)] H := by
    intro m
    induction m with
    | zero =>
      intro k hm hk
      have : k = s := by omega
      subst this
      exact hX _ _ H (br_n (by omega) (c20 (by omega) ⟨_, rfl, hR⟩))
    | succ m ih =>
      intro k hm hk
      have e := (farK ⟨k, by omega⟩).2.2 (by simp; omega)
      simp only at e
      refine hX _ _ H (br_y (by omega) (c20 (by omega) ⟨_, rfl, by omega, ?_⟩))
      rw [e, wrap_id (by omega) (by omega)]
      exact ih (k + 1) (by omega) (by omega)
  exact go _ 0 rfl (by omega)

/-! ### a code is written -/

theorem set_same {i m : Nat} {x : Rs} (h : i ≠ m) : (σ.set i x)[m]? = σ[m]? := List.getElem?_set_ne h

theorem c8 (hs : St H0 H σ) {i m n1 n2 b bw l lc cc : Nat} {ws ls : List Int} {W : Int} {B : Bool} {Lp Cp : Option Addr} {ty : TypeId} (hi : σ[i]? = some (wrR b false ws)) (hm : σ[m]? = some (.cell bw #[.pointer (some ⟨b, 0, none⟩)] ty))
    (h1 : σ[n1]? = some (.sl Lp l lc 3 1 (ints ls))) (h2 : σ[n2]? = some (.sl Cp l cc 3 1 (ints (codesM ls)))) (hne : i ≠ m ∧ i ≠ n1 ∧ i ≠ n2) (ok : OkC ls) {s : Nat} (hsl : s < ls.length) (hl : ws.length + 16 ≤ 1000000000)
    (hR : ∀ H', St H0 H' (σ.set i (wrR b false (ws ++ symBits ls s))) → R (.tuple #[]) H') : CallsH Try.prog 8 #[.agg #[.slice Lp l lc, .slice Cp l cc, .int .i64 W, .bool B], .int .i64 (s : Nat), .pointer (some ⟨bw, 0, none⟩)] H R := by
  have hll : ls.length = l := by have := (hs.is n1 h1).len; rwa [ints_len] at this
  have hg := get_gD ls 0 hsl
  have hr := ok.w.rng _ (List.mem_of_getElem? hg)
  generalize hN : ls.getD s 0 = n at hg hr
  obtain ⟨N, rfl⟩ := Int.eq_ofNat_of_zero_le hr.1
  have hsb : symBits ls s = bitsOf true (codeM ls s) N := by unfold symBits; rw [hN, Int.toNat_natCast]
  refine Try.s8 ?_
  unfold Try.S8
  refine hs.alc fun b4 H1 hs1 => ⟨_, _, _, hs1.get 0 (j := 0) rfl rfl, ?_⟩
  refine (hs1.is (n1 + 1) (by rw [List.getElem?_cons_succ]; exact h1)).rd (k := .i64) (by omega) (by omega) (by rw [Int.toNat_natCast]; exact hg) ?_
  intro X hX
  have go : ∀ k, k ≤ N → ∀ H2, St H0 H2 (.cell b4 #[.slice Lp l lc, .slice Cp l cc, .int .i64 W, .bool B] 27 :: σ.set i (wrR b false (ws ++ (symBits ls s).take k))) → X [.int .i64 ((N : Int) - 1 - (k : Nat))] H2 := upto fun k hk ih H2 hs2 => by
    refine hX _ H2 (br_dec (fun hge => ?_) (fun hlt => ?_))
    · have hlt : k < N := by omega
      have hcg := codesM_get (ls := ls) (i := s) hsl
      have hm' : (σ.set i (wrR b false (ws ++ (symBits ls s).take k)))[m]? = some (.cell bw #[.pointer (some ⟨b, 0, none⟩)] ty) := by rw [set_same hne.1]; exact hm
      have h2' : (σ.set i (wrR b false (ws ++ (symBits ls s).take k)))[n2]? = some (.sl Cp l cc 3 1 (ints (codesM ls))) := by rw [set_same hne.2.2]; exact h2
      refine ⟨_, hs2.get (m + 1) (j := 0) (by simpa using hm') rfl, _, _, _, hs2.get 0 (j := 1) rfl rfl, ?_⟩
      refine (hs2.is (n2 + 1) (by rw [List.getElem?_cons_succ]; exact h2')).rd (k := .i64) (by omega) (by omega) (by rw [Int.toNat_natCast]; exact hcg) ⟨by omega, ?_⟩
      have hsh : andI .i64 (shrI .i64 (codeM ls s) ((N : Int) - 1 - (k : Nat))) (1 : Int) = codeM ls s / 2 ^ (N - 1 - k) % 2 := by
        rw [show (N : Int) - 1 - (k : Nat) = ((N - 1 - k : Nat) : Int) from by omega, shr_of _ (by omega), andI_1]
      rw [hsh]
      generalize hv : codeM ls s / 2 ^ (N - 1 - k) % 2 = v
      have hv2 : v = 0 ∨ v = 1 := by omega
      have hwl : (ws ++ (symBits ls s).take k).length ≤ ws.length + 16 := by rw [List.length_append, List.length_take]; omega
      refine c9 hs2 (i := i + 1) (by rw [List.getElem?_cons_succ]; exact setget hi _) (by rw [show Int.toNat 1 = 1 from rfl, List.length_append, List.length_take]; omega) (fun hb => absurd (by constructor; decide; constructor; decide; constructor; omega; simp; omega) hb) (fun _ H3 hs3 => ⟨_, rfl, ?_⟩)
      rw [wrap_id (by omega) (by omega), show (N : Int) - 1 - (k : Nat) - 1 = (N : Int) - 1 - ((k + 1 : Nat) : Int) from by omega]
      refine ih hlt H3 ?_
      rw [List.set_cons_succ, setset] at hs3
      have e : (symBits ls s).take (k + 1) = (symBits ls s).take k ++ bitsOf false v (Int.toNat 1) := by
        rw [take_get (by rw [hsb, bitsOf_len]; exact hlt)]
        congr 1
        rw [hsb, bitsOf_get hlt, if_pos rfl, hv]
        simp [bitsOf]
        omega
      rw [e, ← List.append_assoc]
      exact hs3
    · have : k = N := by omega
      subst this
      refine hR H2 ?_
      rw [List.take_of_length_le (by rw [hsb, bitsOf_len]; exact Nat.le_refl _)] at hs2
      exact hs2.tail
  have := go 0 (by omega) H1 (by
    rw [List.take_zero, List.append_nil]
    obtain ⟨q1, q2⟩ := List.getElem?_eq_some_iff.1 hi
    rw [← q2, List.set_getElem_self]; exact hs1)
  rw [wrap_id (by omega) (by omega)]
  rw [show (N : Int) - 1 - ((0 : Nat) : Int) = (N : Int) - 1 from by omega] at this
  exact this

/-! ### the symbol of a length -/

theorem len_fits {s n : Nat} (h : 257 ≤ s ∧ s ≤ 285) (h1 : (lenB s).1 ≤ n) (h2 : s = 285 ∨ n < (lenB (s + 1)).1) (h3 : n ≤ 258) : (n : Int) - ((lenB s).1 : Nat) < 2 ^ (lenB s).2 := by
  have k : ∀ x : Fin 29, (x.val = 28 ∧ (lenB (257 + x.val)).1 = 258 ∧ (lenB (257 + x.val)).2 = 0) ∨ (x.val < 28 ∧ (lenB (257 + x.val + 1)).1 ≤ (lenB (257 + x.val)).1 + 2 ^ (lenB (257 + x.val)).2) := by decide +kernel
  have := k ⟨s - 257, by omega⟩
  simp only [show 257 + (s - 257) = s from by omega] at this
  rcases this with ⟨_, k1, k2⟩ | ⟨k1, k2⟩
  · rw [k2]; simp; omega
  · have hp := pow_cast (lenB s).2
    omega
theorem dst_fits {s n : Nat} (h : s ≤ 29) (h1 : (dstB s).1 ≤ n) (h2 : s = 29 ∨ n < (dstB (s + 1)).1) (h3 : n ≤ 1000) : (n : Int) - ((dstB s).1 : Nat) < 2 ^ (dstB s).2 := by
  have k : ∀ x : Fin 30, (x.val = 29 ∧ 1000 < (dstB x.val).1) ∨ (x.val < 29 ∧ (dstB (x.val + 1)).1 ≤ (dstB x.val).1 + 2 ^ (dstB x.val).2) := by decide +kernel
  have := k ⟨s, by omega⟩
  simp only at this
  rcases this with ⟨_, k1⟩ | ⟨k1, k2⟩
  · omega
  · have hp := pow_cast (dstB s).2
    omega

abbrev coS (b bw b20 b22 bp bq : Nat) (p q pw : Option Addr) (cw : Nat) (want ws : List Int) : List Rs :=
  [.sl pw want.length cw 5 1 (kints .u8 want), .cell b22 #[.slice q 32 32, .slice (some ⟨bq, 0, none⟩) 32 32, .int .i64 (wtM fixD), .bool true] 27, .cell b20 #[.slice p 288 288, .slice (some ⟨bp, 0, none⟩) 288 288, .int .i64 (wtM fixL), .bool true] 27,
   .sl (some ⟨bp, 0, none⟩) 288 288 3 1 (ints (codesM fixL)), .sl p 288 288 3 1 (ints fixL), .sl (some ⟨bq, 0, none⟩) 32 32 3 1 (ints (codesM fixD)), .sl q 32 32 3 1 (ints fixD), .cell bw #[.pointer (some ⟨b, 0, none⟩)] 23, wrR b false ws]
def leadL (k : Nat) : List Nat := (List.range k).map (· % 251)
theorem leadL_succ (k : Nat) : leadL (k + 1) = leadL k ++ [k % 251] := by simp [leadL, List.range_succ]
theorem leadL_lt {k : Nat} : ∀ s ∈ leadL k, s < 256 := fun s hs => by
  obtain ⟨x, _, rfl⟩ := List.mem_map.1 hs
  omega
theorem leadL_len (k : Nat) : (leadL k).length = k := by simp [leadL]
theorem lead_bits : ∀ (l : List Nat), (∀ s ∈ l, s < 256) → (l.flatMap (symBits fixL)).length ≤ 16 * l.length
  | [], _ => by simp
  | s :: l, h => by
    have := lead_bits l fun x hx => h x (List.mem_cons_of_mem _ hx)
    have hs := h s (List.mem_cons_self ..)
    have hr := fixL_ok.w.rng _ (List.mem_of_getElem? (get_gD fixL 0 (i := s) (by rw [fixL_len]; omega)))
    simp only [List.flatMap_cons, List.length_append, symBits_len, List.length_cons]; omega
theorem symL_len {s : Nat} : (symBits fixL s).length ≤ 16 := by
  rw [symBits_len]
  rcases Nat.lt_or_ge s fixL.length with h | h
  · have hr := fixL_ok.w.rng _ (List.mem_of_getElem? (get_gD fixL 0 h)); omega
  · rw [gD_none _ _ h]; decide
theorem symD_len {s : Nat} : (symBits fixD s).length ≤ 16 := by
  rw [symBits_len]
  rcases Nat.lt_or_ge s fixD.length with h | h
  · have hr := fixD_ok.w.rng _ (List.mem_of_getElem? (get_gD fixD 0 h)); omega
  · rw [gD_none _ _ h]; decide

set_option maxHeartbeats 1000000 in
theorem lawCopies {H : Heap} {length distance lead : Int} (b0 : -9223372036854775808 ≤ length ∧ length ≤ 9223372036854775807) (b1 : -9223372036854775808 ≤ distance ∧ distance ≤ 9223372036854775807) (b2 : -9223372036854775808 ≤ lead ∧ lead ≤ 9223372036854775807) :
    CallsH Try.prog 3 #[.int .i64 length, .int .i64 distance, .int .i64 lead] H (fun u H' => u = .bool true ∧ Ext H H') := by
  refine Try.s3 ?_
  generalize hRd : (fun (u : Value) (H' : Heap) => u = Value.bool true ∧ Ext H H') = R
  have R1 : ∀ H', Ext H H' → R (.bool true) H' := fun H' e => by subst hRd; exact ⟨rfl, e⟩
  clear hRd
  unfold Try.S3
  refine c5 fun H1 e1 => ⟨_, rfl, br_f rfl ?_⟩
  intro J hJ
  refine br_dec (fun _ => R1 H1 e1) (fun l3 => br_dec (fun _ => R1 H1 e1) (fun l258 => br_dec (fun _ => R1 H1 e1) (fun d1 => br_dec (fun _ => R1 H1 e1) (fun d1000 => br_dec (fun _ => R1 H1 e1) (fun k0 => br_dec (fun _ => R1 H1 e1) (fun k1000 => hJ H1 ?_))))))
  obtain ⟨N, rfl⟩ := Int.eq_ofNat_of_zero_le (show 0 ≤ length by omega)
  obtain ⟨D, rfl⟩ := Int.eq_ofNat_of_zero_le (show 0 ≤ distance by omega)
  obtain ⟨K, rfl⟩ := Int.eq_ofNat_of_zero_le (show 0 ≤ lead by omega)
  refine c6 (St.of_ext e1) fun b H2 hs2 => ⟨_, rfl, hs2.alc fun bw H3 hs3 => ?_⟩
  refine hs3.putAll 0 rfl (by simp) (by simp [Value.oneCell']) fun H4 hs4 => ⟨_, hs4.get 0 (j := 0) rfl rfl, br_f rfl ?_⟩
  refine c7 fun p q bp bq H5 hs5 => ⟨_, _, rfl, ?_⟩
  have hs5 := hs4.call hs5
  refine hs5.alc fun b20 H6 hs6 => hs6.alc fun b22 H7 hs7 => ⟨rfl, ?_⟩
  refine hs7.putAll 1 rfl (by simp) (by simp [Value.oneCell']) fun H8 hs8 => ⟨rfl, ?_⟩
  refine hs8.putAll 0 rfl (by simp) (by simp [Value.oneCell']) fun H9 hs9 => ⟨_, hs9.get 6 (j := 0) rfl rfl, ?_⟩
  refine c9 hs9 (i := 7) rfl (by decide) (fun hb => absurd (by decide) hb) (fun _ H10 hs10 => ⟨_, rfl, ?_⟩)
  rw [List.nil_append, show Int.toNat 3 = 3 from rfl] at hs10
  have hs10 : St H H10 (coS b bw b20 b22 bp bq p q none 0 [] (bitsOf false 3 3)) := hs10.nilSl 5 1
  clear hs9 hs8 hs7 hs6 hs5 hs4 hs3 hs2
  have e33 : (bitsOf false 3 3).length = 3 := bitsOf_len _ _ _
  intro X hX
  have fits : ∀ (k : Nat), (k : Int).tmod 251 = ((k % 251 : Nat) : Int) := fun k => by rw [Int.tmod_eq_emod_of_nonneg (by omega)]; omega
  -- the rest, behind the lead
  have rest : ∀ pw cw H11, St H H11 (coS b bw b20 b22 bp bq p q pw cw ((leadL K).map Int.ofNat) (bitsOf false 3 3 ++ (leadL K).flatMap (symBits fixL))) → X [.slice pw K cw, .int .i64 (K : Nat)] H11 := fun pw cw H11 hs11 => by
    have hll := lead_bits (leadL K) leadL_lt
    rw [leadL_len] at hll
    refine hX _ _ _ _ H11 (br_n (by omega) ?_)
    refine c10 (s := 285) (by omega) ⟨_, _, rfl, ?_⟩
    intro Y hY
    have search : ∀ s : Nat, 257 ≤ s ∧ s ≤ 285 → (s = 285 ∨ N < (lenB (s + 1)).1) → Y [.int .i64 (s : Nat), .int .i64 ((lenB s).1 : Nat), .int .i64 ((lenB s).2 : Nat)] H11 := downto (fun s => s) fun s ih hs hb => by
      refine hY _ _ _ H11 (br_dec (fun hgt => ?_) (fun hle => ?_))
      · have h3 : (lenB 257).1 = 3 := by decide
        have hs2 : s ≠ 257 := fun hh => by subst hh; omega
        rw [wrap_id (n := (s : Int) - 1) (by omega) (by omega), show (s : Int) - 1 = ((s - 1 : Nat) : Int) from by omega]
        refine c10 (s := s - 1) (by omega) ⟨_, _, rfl, ih (s - 1) (by omega) (by omega) (.inr ?_)⟩
        rw [show s - 1 + 1 = s from by omega]; omega
      have hle : (lenB s).1 ≤ N := by omega
      have hfit := len_fits hs hle hb (by omega)
      have hb5 := lenB_le hs
      have h16 := symL_len (s := s)
      refine ⟨_, rfl, rowIn_whole (hs11.block 2 rfl), c8 hs11 (i := 8) (m := 7) (n1 := 4) (n2 := 3) rfl rfl rfl rfl (by decide) fixL_ok (by rw [fixL_len]; omega) (by rw [List.length_append]; omega) fun H12 hs12 => ⟨rfl, _, hs12.get 7 (j := 0) rfl rfl, ?_⟩⟩
      rw [wrap_id (n := (N : Int) - ((lenB s).1 : Nat)) (by omega) (by omega)]
      refine c9 hs12 (i := 8) rfl (by rw [Int.toNat_natCast]; simp only [List.length_append]; omega) (fun hb => absurd (by rw [Int.toNat_natCast]; omega) hb) (fun _ H13 hs13 => ⟨_, rfl, ?_⟩)
      rw [Int.toNat_natCast] at hs13
      refine c11 (s := 29) (by omega) ⟨_, _, rfl, ?_⟩
      intro Z hZ
      have hbo := bitsOf_len false ((N : Int) - ((lenB s).1 : Nat)) (lenB s).2
      have search2 : ∀ u : Nat, u ≤ 29 → (u = 29 ∨ D < (dstB (u + 1)).1) → Z [.int .i64 (u : Nat), .int .i64 ((dstB u).1 : Nat), .int .i64 ((dstB u).2 : Nat)] H13 := downto (fun s => s) fun u ih2 hu hbu => by
        refine hZ _ _ _ H13 (br_dec (fun hgt => ?_) (fun hle2 => ?_))
        · have h3 : (dstB 0).1 = 1 := by decide
          have hs2 : u ≠ 0 := fun hh => by subst hh; omega
          rw [wrap_id (n := (u : Int) - 1) (by omega) (by omega), show (u : Int) - 1 = ((u - 1 : Nat) : Int) from by omega]
          refine c11 (s := u - 1) (by omega) ⟨_, _, rfl, ih2 (u - 1) (by omega) (by omega) (.inr ?_)⟩
          rw [show u - 1 + 1 = u from by omega]; omega
        have hle2 : (dstB u).1 ≤ D := by omega
        have hfit2 := dst_fits hu hle2 hbu (by omega)
        have hb13 := dstB_le hu
        have h16d := symD_len (s := u)
        have hbo2 := bitsOf_len false ((D : Int) - ((dstB u).1 : Nat)) (dstB u).2
        have h16e := symL_len (s := 256)
        refine ⟨_, rfl, rowIn_whole (hs13.block 1 rfl), c8 hs13 (i := 8) (m := 7) (n1 := 6) (n2 := 5) rfl rfl rfl rfl (by decide) fixD_ok (by rw [fixD_len]; omega) (by simp only [List.length_append]; omega) fun H14 hs14 => ⟨rfl, _, hs14.get 7 (j := 0) rfl rfl, ?_⟩⟩
        rw [wrap_id (n := (D : Int) - ((dstB u).1 : Nat)) (by omega) (by omega)]
        refine c9 hs14 (i := 8) rfl (by rw [Int.toNat_natCast]; simp only [List.length_append]; omega) (fun hb => absurd (by rw [Int.toNat_natCast]; omega) hb) (fun _ H15 hs15 => ⟨_, rfl, ?_⟩)
        rw [Int.toNat_natCast] at hs15
        refine ⟨_, rfl, rowIn_whole (hs15.block 2 rfl), c8 (s := 256) hs15 (i := 8) (m := 7) (n1 := 4) (n2 := 3) rfl rfl rfl rfl (by decide) fixL_ok (by rw [fixL_len]; omega) (by simp only [List.length_append]; omega) fun H16 hs16 => ⟨rfl, _, hs16.get 7 (j := 0) rfl rfl, ?_⟩⟩
        refine c13 hs16 (i := 8) rfl fun q2 l2 m2 B H17 ok hl2 hs17 => ⟨_, _, _, rfl, ?_⟩
        subst hl2
        have hB := ok.len
        simp only [List.length_append] at hB
        obtain ⟨far, near⟩ := infl_copies (T := noT) (l := leadL K) (s := s) (n := N) (t := u) (d := D) ok leadL_lt (by rw [leadL_len]; omega) hs ⟨hle, hfit⟩ (by omega) hu ⟨hle2, hfit2⟩
        rw [leadL_len] at far near
        by_cases hDK : K < D
        · have far := far hDK
          refine inflate_of (T := noT) (hs17.is 0 rfl) (by omega) ok.rng (by decide) (.inr ⟨rfl, by rw [far]; exact fun h => by cases h⟩) (fun k hk h H18 e18 => ⟨_, _, _, _, _, rfl, br_y (by omega) ?_⟩) (fun out n h => by rw [far] at h; cases h)
          rw [far] at h
          cases h
          exact br_t rfl (R1 H18 (hs17.ext.trans e18))
        · obtain ⟨used, near⟩ := near (by omega)
          refine inflate_of (T := noT) (hs17.is 0 rfl) (by omega) ok.rng (by decide) (.inr ⟨rfl, by rw [near]; exact fun h => by cases h⟩) (fun k hk h => by rw [near] at h; cases h) (fun out n h H18 q5 m5 hy hs18 => ⟨_, _, _, _, _, rfl, br_n (by omega) ?_⟩)
          rw [near] at h
          cases h
          have hs18 := ((hs17.call hs18).front 2 rfl).take 2
          intro V hV
          have hlk : ((leadL K).map Int.ofNat).length = K := by rw [List.length_map, leadL_len]
          have fin : ∀ (m k : Nat) (want : List Int) (pw : Option Addr) (cw : Nat) (H19 : Heap), k + m = N → want.length = K + k → copyM D m want = copyM D N ((leadL K).map Int.ofNat) →
              St H H19 [.sl pw want.length cw 5 1 (kints .u8 want), .sl q5 (copyM D N ((leadL K).map Int.ofNat)).length m5 5 1 (kints .u8 (copyM D N ((leadL K).map Int.ofNat)))] → V [.slice pw want.length cw, .int .i64 (k : Nat)] H19 := by
            intro m
            induction m with
            | zero =>
              intro k want pw cw H19 hk hl hc hs19
              refine hV _ _ _ _ H19 (br_n (by omega) (br_t rfl (c14 (hs19.is 1 rfl) (hs19.is 0 rfl) (by rw [copyM_len, hlk]; omega) ⟨_, rfl, ?_⟩)))
              rw [copyM] at hc
              rw [← hc, decide_eq_true rfl]
              exact R1 H19 hs19.ext
            | succ m ih3 =>
              intro k want pw cw H19 hk hl hc hs19
              have w1 : IntKind.wrap .i64 (((want.length : Nat) : Int) - (D : Int)) = ((want.length - D : Nat) : Int) := by rw [wrap_id (by omega) (by omega)]; omega
              have wk : IntKind.wrap .i64 ((k : Int) + 1) = ((k + 1 : Nat) : Int) := by rw [wrap_id (by omega) (by omega)]; omega
              refine hV _ _ _ _ H19 (br_y (by omega) ?_)
              rw [w1, wk]
              have hv := get_gD want 0 (i := want.length - D) (by omega)
              rw [copyM] at hc
              generalize want.getD (want.length - D) 0 = v at hv hc
              refine (hs19.is 0 rfl).rd (by omega) (by omega) (by rw [Int.toNat_natCast]; exact hv) ?_
              refine hs19.alc fun b99 H20 hs20 => ?_
              refine hs20.appC 1 0 (el := 5) (k := 1) rfl rfl rfl (one1 rfl) (by decide) rfl (by omega) (by omega) fun p' c' H21 hs21 => ?_
              have := ih3 (k + 1) (want ++ [v]) p' c' H21 (by omega) (by simp; omega) hc (by
                rw [kints_append, List.length_append, List.length_singleton]
                exact hs21.tail)
              rw [List.length_append, List.length_singleton] at this
              exact this
          have := fin N 0 _ pw cw H18 (by omega) (by rw [hlk]; rfl) rfl hs18
          rw [hlk] at this
          exact this
      exact search2 29 (by omega) (.inl rfl)
    exact search 285 (by omega) (.inl rfl)
  have go : ∀ k, k ≤ K → ∀ pw cw H11, St H H11 (coS b bw b20 b22 bp bq p q pw cw ((leadL k).map Int.ofNat) (bitsOf false 3 3 ++ (leadL k).flatMap (symBits fixL))) → X [.slice pw k cw, .int .i64 (k : Nat)] H11 := upto fun k hk ih pw cw H11 hs11 => by
    by_cases hlt : k < K
    · refine hX _ _ _ _ H11 (br_y (by omega) ⟨_, rfl, rowIn_whole (hs11.block 2 rfl), by decide, ?_⟩)
      rw [fits, wrap_id (n := (k : Int) + 1) (by omega) (by omega), wrap_u8 (by omega) (by omega)]
      have hll := lead_bits (leadL k) leadL_lt
      rw [leadL_len] at hll
      refine c8 hs11 (i := 8) (m := 7) (n1 := 4) (n2 := 3) rfl rfl rfl rfl (by decide) fixL_ok (by rw [fixL_len]; omega) (by rw [List.length_append]; omega) fun H12 hs12 => ⟨rfl, by decide, ?_⟩
      refine hs12.alc fun b37 H13 hs13 => ?_
      have hlk : ((leadL k).map Int.ofNat).length = k := by rw [List.length_map, leadL_len]
      unfold coS at hs13
      rw [hlk] at hs13
      refine hs13.appC 1 0 (el := 5) (k := 1) (l := k) rfl rfl rfl (one1 rfl) (by decide) rfl (by omega) (by omega) fun p' c' H14 hs14 => ?_
      refine ih hlt p' c' H14 ?_
      have hl2 : ((leadL (k + 1)).map Int.ofNat).length = k + 1 := by rw [List.length_map, leadL_len]
      unfold coS
      rw [hl2, leadL_succ, List.map_append, List.flatMap_append, kints_append, ← List.append_assoc]
      rw [show [k % 251].map Int.ofNat = [((k % 251 : Nat) : Int)] from rfl, show [k % 251].flatMap (symBits fixL) = symBits fixL (k % 251) from by simp]
      exact hs14.tail
    · have : k = K := by omega
      subst this
      exact rest pw cw H11 hs11
  exact go 0 (by omega) none 0 H10 (by rw [show leadL 0 = [] from rfl, List.map_nil, List.flatMap_nil, List.append_nil]; exact hs10)

end Go.Proofs
