/-
  OWN WORK. FlateStored over heaps.
-/
import Derived.Test.YtdigjlhobhpfpaaFlL
import Derived.Test.YtdigjlhobhpfpaaFlStP
import Derived.Test.YtdigjlhobhpfpaaOpParts
set_option linter.unusedVariables false
set_option linter.unusedSimpArgs false
namespace Go.Proofs
open Go.Sh

theorem SS.ext {H H' : Heap} {p : Option Addr} {l : Nat} {ps : List (List Int)} (h : SS H p l ps) (he : Ext H H') : SS H' p l ps :=
  ⟨h.len, fun i x hx => let ⟨a, q, n, c, h1, h2, h3, h4⟩ := h.get i x hx; ⟨a, q, n, c, h1, he.cell h2, h3.ext he, h4⟩⟩

theorem fillM_mod (ws : List Int) (v : Int) : fillM ws (v % 2) = fillM ws v := by unfold fillM; rw [Int.emod_emod]

theorem lawStored {H : Heap} {p : Option Addr} {l c : Nat} {ps : List (List Int)} (h : SS H p l ps) : CallsH Try.prog 4 #[.slice p l c] H (fun u H' => u = .bool true ∧ Ext H H') := by
  have hl := h.len
  refine Try.s4 ?_
  generalize hRd : (fun (u : Value) (H' : Heap) => u = Value.bool true ∧ Ext H H') = R
  have R1 : ∀ H', Ext H H' → R (.bool true) H' := fun H' e => by subst hRd; exact ⟨rfl, e⟩
  clear hRd
  unfold Try.S4
  refine c5 fun H1 e1 => ⟨_, rfl, br_f rfl ?_⟩
  intro J hJ
  refine br_dec (fun _ => R1 H1 e1) (fun l1 => br_dec (fun _ => R1 H1 e1) (fun l30 => hJ H1 ?_))
  refine c6 (St.of_ext e1) fun b H2 hs2 => ⟨_, rfl, br_f rfl ?_⟩
  intro X hX
  have loop : ∀ (m i : Nat) (ws : List Int) (q : Option Addr) (k : Nat) (H3 : Heap), l - i = m → i ≤ l → ws.length ≤ 8100 * i → (ps.take i).flatten.length ≤ 1000 * i → (∀ x ∈ ps.take i, x.length ≤ 1000 ∧ ∀ y ∈ x, 0 ≤ y ∧ y < 256) → partsW (ps.drop i) i ws = partsW ps 0 [] →
      St H H3 [wrR b false ws, .sl q (ps.take i).flatten.length k 5 1 (kints .u8 (ps.take i).flatten)] → X [.slice q (ps.take i).flatten.length k, .int .i64 i] H3 := by
    intro m
    induction m with
    | zero =>
      intro i ws q k H3 hm hi hw hal hr hpw hs3
      have : i = ps.length := by omega
      subst this
      rw [List.drop_length, partsW] at hpw
      rw [List.take_length] at hs3 hr hal ⊢
      subst hpw
      refine hX _ _ _ _ H3 (br_n (by omega) ?_)
      refine c13 hs3 (i := 0) rfl fun q2 l2 m2 B H4 ok hl2 hs4 => ⟨_, _, _, rfl, ?_⟩
      subst hl2
      have hB := ok.len
      have hne : ps ≠ [] := fun hh => by subst hh; simp at hl; omega
      have hi := infl_parts (T := noT) hne ok hr
      refine inflate_of (T := noT) (hs4.is 0 rfl) (by omega) ok.rng (by omega) (.inr ⟨rfl, by rw [hi]; exact fun h => by cases h⟩) (fun k _ h => by rw [hi] at h; cases h) (fun out n hh H5 q5 m5 hy hs5 => ⟨_, _, _, _, _, rfl, br_t rfl ?_⟩)
      rw [hi] at hh
      cases hh
      have hs5 := hs4.call hs5
      refine br_t (by simp) ?_
      refine c14 (hs5.is 0 rfl) (hs5.is 3 rfl) (by omega) ⟨_, rfl, ?_⟩
      rw [decide_eq_true rfl]
      exact R1 H5 hs5.ext
    | succ m ih =>
      intro i ws q k H3 hm hi hw hal hr hpw hs3
      obtain ⟨x, hx⟩ : ∃ x, ps[i]? = some x := ⟨_, List.getElem?_eq_getElem (by omega)⟩
      obtain ⟨a, qp, n, cp, hp, hc, his, hxr⟩ := h.get i x hx
      have hc := hs3.ext.cell hc
      have hn := his.length
      have hdrop : ps.drop i = x :: ps.drop (i + 1) := by
        rw [List.drop_eq_getElem_cons (by omega)]
        rw [List.getElem?_eq_getElem (by omega)] at hx
        rw [Option.some.inj hx]
      have htake : ps.take (i + 1) = ps.take i ++ [x] := by rw [List.take_add_one, hx]; rfl
      rw [hdrop, partsW] at hpw
      refine hX _ _ _ _ H3 (br_y (by omega) ⟨a, hp, by omega, by omega, qp, n, cp, by simpa using hc, br_dec (fun _ => R1 H3 hs3.ext) (fun hn1000 => ?_)⟩)
      intro J2 hJ2
      have wi : IntKind.wrap .i64 ((i : Int) + 1) = ((i + 1 : Nat) : Int) := by rw [wrap_id (by omega) (by omega)]; omega
      have e1' : (2 : Int) ^ 1 = 2 := by decide
      have e2' : (2 : Int) ^ 2 = 4 := by decide
      have e8' : (2 : Int) ^ 8 = 256 := by decide
      have e16' : (2 : Int) ^ 16 = 65536 := by decide
      have nx : ∀ last : Int, last = (if ps.drop (i + 1) = [] then 1 else 0) → J2 [.int .i64 last] H3 := fun last hlast => by
        have hl01 : last = 0 ∨ last = 1 := by rw [hlast]; split <;> simp
        rw [← hlast] at hpw
        refine hJ2 _ H3 ?_
        refine c9 hs3 (i := 0) rfl (by simp; omega) (fun hb => absurd (by constructor; decide; constructor; decide; constructor; omega; simp; omega) hb) (fun _ H4 hs4 => ⟨_, rfl, ?_⟩)
        refine c9 hs4 (i := 0) rfl (by simp [bitsOf_len]; omega) (fun hb => absurd (by decide) hb) (fun _ H5 hs5 => ⟨_, rfl, ?_⟩)
        refine c15 hs5 (i := 0) rfl (by simp [bitsOf_len]; omega) fun H6 hs6 => ⟨rfl, ?_⟩
        rw [andI_1, fillM_mod] at hs6
        have hlen6 : (fillM (ws ++ bitsOf false last (Int.toNat 1) ++ bitsOf false 0 (Int.toNat 2)) (i : Int)).length ≤ ws.length + 20 := by
          unfold fillM; simp [bitsOf_len]; omega
        generalize hF : fillM (ws ++ bitsOf false last (Int.toNat 1) ++ bitsOf false 0 (Int.toNat 2)) (i : Int) = F at hs6 hlen6
        refine c9 hs6 (i := 0) rfl (by simp; omega) (fun hb => absurd (by constructor; decide; constructor; decide; constructor; omega; simp; omega) hb) (fun _ H7 hs7 => ⟨_, rfl, ?_⟩)
        rw [wrap_id (n := (65535 : Int) - n) (by omega) (by omega)]
        refine c9 hs7 (i := 0) rfl (by simp [bitsOf_len]; omega) (fun hb => absurd (by constructor; decide; constructor; decide; constructor; omega; simp; omega) hb) (fun _ H8 hs8 => ⟨_, rfl, ?_⟩)
        simp only [List.set_cons_zero] at hs8
        intro Y hY
        generalize hW : (F ++ bitsOf false (n : Int) (Int.toNat 16) ++ bitsOf false (65535 - (n : Int)) (Int.toNat 16)) = W at hs8
        have hWl : W.length ≤ ws.length + 52 := by rw [← hW]; simp [bitsOf_len] at *; omega
        have go : ∀ t, t ≤ n → ∀ H9, St H H9 [wrR b false (W ++ byteBits (x.take t)), .sl q (ps.take i).flatten.length k 5 1 (kints .u8 (ps.take i).flatten)] → Y [.int .i64 (t : Nat)] H9 := upto fun t ht iht H9 hs9 => by
          refine hY _ H9 (br_dec (fun hlt => ?_) (fun hge => ?_))
          · have hlt : t < n := by omega
            have his9 := his.ext hs9.ext
            obtain ⟨y, hy⟩ := his9.get' hlt
            have hyr := hxr y (List.mem_of_getElem? hy)
            refine his9.rd (by omega) (by omega) (by rw [Int.toNat_natCast]; exact hy) ?_
            rw [wrap_id (by omega) (by omega)]
            have hbl : (byteBits (x.take t)).length ≤ 8000 := by rw [byteBits_len, List.length_take]; omega
            refine c9 hs9 (i := 0) rfl (by simp; omega) (fun hb => absurd (by constructor; decide; constructor; decide; constructor; omega; simp; omega) hb) (fun _ H10 hs10 => ⟨_, rfl, ?_⟩)
            rw [wrap_id (by omega) (by omega)]
            refine iht hlt H10 ?_
            rw [List.take_add_one, hy, Option.toList_some, byteBits_snoc, ← List.append_assoc]
            exact hs10
          · have : t = n := by omega
            subst this
            rw [List.take_of_length_le (by omega)] at hs9
            refine hs9.appI 1 rfl (his.ext hs9.ext) (kints_one _ _) rfl (by omega) (by omega) fun q' c' H11 hs11 => ?_
            rw [wi]
            have hfl : (ps.take (i + 1)).flatten = (ps.take i).flatten ++ x := by rw [htake, List.flatten_append]; simp
            have hW2 : W ++ byteBits x = partW ws last i x := by
              rw [← hW, ← hF]; unfold partW; rw [hn]; rfl
            have hpl := partW_len ws last i x
            have := ih (i + 1) (partW ws last i x) q' c' H11 (by omega) (by omega) (by omega) (by rw [hfl, List.length_append]; omega) (fun z hz => ?_) hpw ?_
            · rw [hfl, List.length_append, hn] at this
              exact this
            · rw [htake] at hz
              rcases List.mem_append.1 hz with hz | hz
              · exact hr z hz
              · rw [List.mem_singleton.1 hz]; exact ⟨by omega, hxr⟩
            · rw [hfl, List.length_append, hn, ← hW2, kints_append]
              exact hs11
        refine go 0 (by omega) H8 ?_
        simpa [byteBits] using hs8
      refine br_eq (fun he => nx 1 ?_) (fun hne => nx 0 ?_)
      · rw [wrap_id (by omega) (by omega)] at he
        rw [if_pos (List.drop_eq_nil_of_le (by omega))]
      · rw [wrap_id (by omega) (by omega)] at hne
        rw [if_neg (fun hh => by have := List.drop_eq_nil_iff.1 hh; omega)]
  exact loop l 0 [] none 0 H2 (by omega) (by omega) (by simp) (by simp) (by simp) rfl (by
    have := hs2.nilSl 5 1
    exact this.swap)

end Go.Proofs
