/-
  OWN WORK. Package flate over heaps: its inflater: bits, symbols.
-/
import Derived.Test.YtdigjlhobhpfpaaFlG
import Derived.Test.YtdigjlhobhpfpaaFlC
set_option linter.unusedVariables false
set_option linter.unusedSimpArgs false
namespace Go.Proofs
open Go.Sh
variable {H0 H : Heap} {σ : List Rs} {R : Value → Heap → Prop}

/-- A decoder. -/
def decR (d : Nat) (ls : List Int) (P : List (Nat × Int)) (F : List Int) : Rs :=
  .ex fun (x : Option Addr × Nat) => .pu (OkC ls ∧ P.length ≤ 5000 ∧ Trie ls (· < ls.length) (· < ls.length) P F) (.star (.cell d #[.slice x.1 P.length x.2] 78) (.sl x.1 P.length x.2 79 2 (ints F)))
theorem decR_use {d : Nat} {ls F : List Int} {P : List (Nat × Int)} (hs : St H0 H σ) {j : Nat} (hj : σ[j]? = some (decR d ls P F)) : ∃ q k, OkC ls ∧ P.length ≤ 5000 ∧ Trie ls (· < ls.length) (· < ls.length) P F ∧ H[d]? = some (.cells #[.slice q P.length k] 78) ∧ RS H q P.length 79 2 (ints F) := by
  obtain ⟨⟨q, k⟩, hs⟩ := (hs.front j hj).unex
  obtain ⟨⟨h1, h2, h3⟩, hs⟩ := hs.fact
  have hs := hs.cut
  exact ⟨q, k, h1, h2, h3, hs.block 0 rfl, hs.rs 1 rfl⟩
theorem newDecR {p : Option Addr} {l c : Nat} {ls : List Int} (h : IS H p l (ints ls)) (hbad : ¬ OkC ls → R (.tuple #[.pointer none, .bool false]) H)
    (hgood : OkC ls → ∀ H' b P F, St H H' [decR b ls P F] → R (.tuple #[.pointer (some ⟨b, 0, none⟩), .bool true]) H') : CallsH Try.prog 25 #[.slice p l c] H R :=
  newDec h hbad fun ok H' b q L k P F hb hd fs hP hL t e => hgood ok H' b P F (by
    subst hP
    have hs : St H H' [.sl q P.length k 79 2 (ints F)] := (St.nil H).newSl e fs
    have hs2 : St H H' [.cell b #[.slice q P.length k] 78, .sl q P.length k 79 2 (ints F)] := by
      obtain ⟨he, fps, hl, hn, hbb⟩ := hs
      match fps, hl with
      | fp :: [], hl =>
        refine ⟨he, [b] :: fp :: [], ⟨⟨rfl, hd⟩, hl⟩, ?_, ?_⟩
        · simp only [List.flatten_cons, List.flatten_nil, List.append_nil, List.singleton_append, List.nodup_cons] at hn ⊢
          refine ⟨fun hm => ?_, hn⟩
          rcases hl.1.2 with ⟨_, h2⟩ | ⟨blk, h1, h2⟩
          · rw [h2] at hm; cases hm
          · rw [h2, List.mem_singleton] at hm
            subst hm
            rcases hl.1.1.at_ with ⟨h3, _⟩ | ⟨blk', cs, h3, _, h4, _⟩
            · rw [h1] at h3; cases h3
            · rw [h1] at h3; cases h3; rw [hd] at h4; cases h4
        · intro x hx
          simp only [List.flatten_cons, List.flatten_nil, List.append_nil, List.singleton_append, List.mem_cons] at hx hbb
          rcases hx with rfl | hx
          · exact hb
          · exact hbb x hx
    exact St.inex (f := fun (x : Option Addr × Nat) => .pu (OkC ls ∧ P.length ≤ 5000 ∧ Trie ls (· < ls.length) (· < ls.length) P F) (.star (.cell b #[.slice x.1 P.length x.2] 78) (.sl x.1 P.length x.2 79 2 (ints F)))) (q, k) (St.with ⟨ok, hL, t⟩ hs2.cat))

/-- An inflater. -/
def flR (f : Nat) (B : List Int) (a most : Nat) (out : List Int) (e : Int) : Rs :=
  .ex fun (x : Nat × Option Addr × Nat) => .pu (out.length ≤ most ∧ most ≤ 1000000000 ∧ ∀ y ∈ out, 0 ≤ y ∧ y < 256)
    (.star (.star (rdR x.1 B a false) (.sl x.2.1 out.length x.2.2 5 1 (kints .u8 out))) (.cell f #[.pointer (some ⟨x.1, 0, none⟩), .slice x.2.1 out.length x.2.2, .int .i64 most, .int .i64 e] 54))
theorem flR_op {f a most : Nat} {B out : List Int} {e : Int} (hs : St H0 H (flR f B a most out e :: σ)) : ∃ rb p c, out.length ≤ most ∧ most ≤ 1000000000 ∧ (∀ y ∈ out, 0 ≤ y ∧ y < 256) ∧
    St H0 H (rdR rb B a false :: .sl p out.length c 5 1 (kints .u8 out) :: .cell f #[.pointer (some ⟨rb, 0, none⟩), .slice p out.length c, .int .i64 most, .int .i64 e] 54 :: σ) := by
  obtain ⟨⟨rb, p, c⟩, hs⟩ := hs.unex
  obtain ⟨⟨h1, h2, h3⟩, hs⟩ := hs.fact
  exact ⟨rb, p, c, h1, h2, h3, hs.cut.cut⟩
theorem flR_mk {f a most rb c : Nat} {p : Option Addr} {B out : List Int} {e : Int} (h1 : out.length ≤ most) (h2 : most ≤ 1000000000) (h3 : ∀ y ∈ out, 0 ≤ y ∧ y < 256)
    (hs : St H0 H (rdR rb B a false :: .sl p out.length c 5 1 (kints .u8 out) :: .cell f #[.pointer (some ⟨rb, 0, none⟩), .slice p out.length c, .int .i64 most, .int .i64 e] 54 :: σ)) : St H0 H (flR f B a most out e :: σ) :=
  St.inex (f := fun (x : Nat × Option Addr × Nat) => .pu (out.length ≤ most ∧ most ≤ 1000000000 ∧ ∀ y ∈ out, 0 ≤ y ∧ y < 256)
    (.star (.star (rdR x.1 B a false) (.sl x.2.1 out.length x.2.2 5 1 (kints .u8 out))) (.cell f #[.pointer (some ⟨x.1, 0, none⟩), .slice x.2.1 out.length x.2.2, .int .i64 most, .int .i64 e] 54))) (rb, p, c) (St.with ⟨h1, h2, h3⟩ hs.cat.cat)

section
variable {f a most : Nat} {B out : List Int} {e : Int}

theorem flR_rd (hs : St H0 H (flR f B a most out e :: σ)) : a ≤ 8 * B.length ∧ B.length ≤ 1000000000 ∧ ∀ x ∈ B, 0 ≤ x ∧ x < 256 := by
  obtain ⟨rb, p, c, _, _, _, hs⟩ := flR_op hs
  obtain ⟨_, _, h1, h2, h3, _⟩ := rdR_op hs
  exact ⟨h1, h2, h3⟩
theorem flR_e (hs : St H0 H (flR f B a most out e :: σ)) : cell H ⟨f, 3, none⟩ = some (.int .i64 e) := by
  obtain ⟨rb, p, c, _, _, _, hs⟩ := flR_op hs
  exact hs.get 2 (j := 3) rfl rfl

abbrev flO (rb f : Nat) (p : Option Addr) (c : Nat) (B : List Int) (a most : Nat) (out : List Int) (e : Int) : List Rs :=
  [rdR rb B a false, .sl p out.length c 5 1 (kints .u8 out), .cell f #[.pointer (some ⟨rb, 0, none⟩), .slice p out.length c, .int .i64 most, .int .i64 e] 54]

theorem failO {rb c : Nat} {p : Option Addr} (hs : St H0 H (flO rb f p c B a most out e ++ σ)) {k : Int} (hR : ∀ H', St H0 H' (flO rb f p c B a most out (if e = 0 then k else e) ++ σ) → R (.tuple #[]) H') : CallsH Try.prog 28 #[.pointer (some ⟨f, 0, none⟩), .int .i64 k] H R := by
  refine Try.s28 ⟨_, rfl, e, hs.get 2 (j := 3) rfl rfl, br_eq (fun h => ⟨_, rfl, ?_⟩) (fun h => ?_)⟩
  · refine hs.put 2 (j := 3) rfl (by simp) rfl fun H' hs2 => hR H' ?_
    rw [if_pos h]; exact hs2
  · rw [if_neg h] at hR; exact hR H hs
theorem c28 (hs : St H0 H (flR f B a most out e :: σ)) {k : Int} (hR : ∀ H', St H0 H' (flR f B a most out (if e = 0 then k else e) :: σ) → R (.tuple #[]) H') : CallsH Try.prog 28 #[.pointer (some ⟨f, 0, none⟩), .int .i64 k] H R := by
  obtain ⟨rb, p, c, h1, h2, h3, hs'⟩ := flR_op hs
  exact failO hs' fun H' hs2 => hR H' (flR_mk h1 h2 h3 hs2)

theorem getO {rb c : Nat} {p : Option Addr} (hs : St H0 H (flO rb f p c B a most out e ++ σ)) {n : Int} (hn : 0 ≤ n ∧ n ≤ 24)
    (hbad : 8 * B.length < a + n.toNat → ∀ H', St H0 H' (flO rb f p c B a most out (if e = 0 then 20 else e) ++ σ) → R (.int .i64 0) H')
    (hR : a + n.toNat ≤ 8 * B.length → ∀ H', St H0 H' (flO rb f p c B (a + n.toNat) most out e ++ σ) → R (.int .i64 (numB false B a n.toNat)) H') : CallsH Try.prog 22 #[.pointer (some ⟨f, 0, none⟩), .int .i64 n] H R := by
  refine Try.s22 ⟨_, rfl, _, hs.get 2 (j := 0) rfl rfl, c35 hs (i := 0) rfl (fun hb => ⟨_, _, rfl, br_t rfl ?_⟩) (fun hg H' hs2 => ⟨_, _, rfl, br_f rfl ?_⟩)⟩
  · exact failO hs fun H' hs3 => ⟨rfl, hbad (by omega) H' hs3⟩
  · exact hR (by omega) H' hs2
theorem c22 (hs : St H0 H (flR f B a most out e :: σ)) {n : Int} (hn : 0 ≤ n ∧ n ≤ 24)
    (hbad : 8 * B.length < a + n.toNat → ∀ H', St H0 H' (flR f B a most out (if e = 0 then 20 else e) :: σ) → R (.int .i64 0) H')
    (hR : a + n.toNat ≤ 8 * B.length → ∀ H', St H0 H' (flR f B (a + n.toNat) most out e :: σ) → R (.int .i64 (numB false B a n.toNat)) H') : CallsH Try.prog 22 #[.pointer (some ⟨f, 0, none⟩), .int .i64 n] H R := by
  obtain ⟨rb, p, c, h1, h2, h3, hs'⟩ := flR_op hs
  exact getO hs' hn (fun hb H' hs2 => hbad hb H' (flR_mk h1 h2 h3 hs2)) (fun hg H' hs2 => hR hg H' (flR_mk h1 h2 h3 hs2))

theorem symG_adv {ls : List Int} : ∀ (g n : Nat) (v : Int) (a : Nat) {s a' : Nat}, symG ls B g n v a = .ok (s, a') → a < a' ∧ a' ≤ 8 * B.length ∧ s < ls.length
  | 0, _, _, _, _, _, h => by cases h
  | g + 1, n, v, a, s, a', h => by
    unfold symG getM at h
    split at h
    · cases h
    · rename_i b at' hg
      split at hg
      · cases hg
        split at h
        · rename_i t ht
          cases h
          have := (List.getElem?_eq_some_iff.1 (findM_some ht).1).1
          exact ⟨by omega, by omega, this⟩
        · split at h
          · obtain ⟨h1, h2⟩ := symG_adv g _ _ _ h
            exact ⟨by omega, h2⟩
          · cases h
      · cases hg
theorem symM_adv {ls : List Int} {s a' : Nat} (h : symM ls B a = .ok (s, a')) : a < a' ∧ a' ≤ 8 * B.length ∧ s < ls.length := symG_adv _ _ _ _ h

/-- With an error it goes nowhere. -/
theorem symbol_e (hs : St H0 H (flR f B a most out e :: σ)) (he : e ≠ 0) {d : Option Addr} (hR : ∀ H' a', St H0 H' (flR f B a' most out e :: σ) → R (.int .i64 0) H') :
    CallsH Try.prog 38 #[.pointer (some ⟨f, 0, none⟩), .pointer d] H R := by
  refine Try.s38 ?_
  unfold Try.S38
  intro X hX
  refine hX _ H (c22 hs (by omega) (fun _ H' hs => ⟨_, rfl, _, rfl, e, ?_, br_ne (fun _ => ?_) (fun h => absurd h he)⟩) (fun _ H' hs => ⟨_, rfl, _, rfl, e, flR_e hs, br_ne (fun _ => hR H' _ hs) (fun h => absurd h he)⟩))
  · rw [if_neg he] at hs; exact flR_e hs
  · rw [if_neg he] at hs; exact hR H' _ hs

theorem c38 (hs : St H0 H (flR f B a most out 0 :: σ)) {j d : Nat} {ls F : List Int} {P : List (Nat × Int)} (hj : σ[j]? = some (decR d ls P F))
    (hbad : ∀ k, k ≠ 0 → symM ls B a = .error k → ∀ H' a', St H0 H' (flR f B a' most out k :: σ) → R (.int .i64 0) H')
    (hR : ∀ s a', symM ls B a = .ok (s, a') → ∀ H', St H0 H' (flR f B a' most out 0 :: σ) → R (.int .i64 (s : Nat)) H') :
    CallsH Try.prog 38 #[.pointer (some ⟨f, 0, none⟩), .pointer (some ⟨d, 0, none⟩)] H R := by
  refine Try.s38 ?_
  unfold Try.S38
  intro X hX
  obtain ⟨_, _, ok, hL, t, _, _⟩ := decR_use hs (j := j + 1) (by simpa using hj)
  have loop : ∀ (g : Nat) (st n : Nat) (v : Int) (a1 : Nat) (H1 : Heap), 17 - n ≤ g → n ≤ 16 → P[st]? = some (n, v) → symG ls B (17 - n) n v a1 = symM ls B a → St H0 H1 (flR f B a1 most out 0 :: σ) → X [.int .i64 st] H1 := by
    intro g
    induction g with
    | zero => intro st n v a1 H1 h1 h2; omega
    | succ g ih =>
      intro st n v a1 H1 hg hn hst heq hs1
      have h17 : 17 - n = 16 - n + 1 := by omega
      rw [h17, symG] at heq
      refine hX _ H1 (c22 hs1 (by omega) (fun hb H2 hs2 => ?_) (fun hb H2 hs2 => ?_))
      · rw [if_pos rfl] at hs2
        have : getM B 1 a1 = .error 20 := by unfold getM; rw [if_neg (by simp at hb; omega)]
        rw [this] at heq
        exact ⟨_, rfl, _, rfl, _, flR_e hs2, br_t rfl (hbad 20 (by decide) heq.symm H2 _ hs2)⟩
      · simp only [Int.toNat_one] at hs2 hb ⊢
        have hg1 : getM B 1 a1 = .ok (numB false B a1 1, a1 + 1) := by unfold getM; rw [if_pos hb]
        have hb01 : numB false B a1 1 % 2 = numB false B a1 1 := by have := numB_rng false B a1 1; omega
        rw [hg1] at heq
        simp only at heq
        refine ⟨_, rfl, _, rfl, _, flR_e hs2, br_f rfl ?_⟩
        obtain ⟨q, k, _, _, _, hd, hrs⟩ := decR_use hs2 (j := j + 1) (by simpa using hj)
        refine c45 hd hrs (t.rng2 rfl hL ok.w.len) (by omega) _ _ ⟨_, _, rfl, ?_⟩
        generalize hbit : numB false B a1 1 = b at *
        cases hf : findM ls (n + 1) (2 * v + b) with
        | some s =>
          obtain ⟨f1, f2⟩ := findM_some hf
          have hst2 := step_sym ok rfl t (bit := b) hst f1 (by rw [hb01]; exact f2)
          show br (decide ((stepM F P.length (st : Int) b).1 < 0)) _ _
          rw [hf] at heq
          rw [hst2]
          exact br_n (show ¬ ((0 : Int) < 0) by decide) (br_n (by show ¬ ((s : Int) < 0); omega) (hR s _ heq.symm H2 hs2))
        | none =>
          rw [hf] at heq
          simp only at heq
          cases hbg : begM ls (n + 1) (2 * v + b) with
          | true =>
            obtain ⟨s, m, g1, g2, g3⟩ := begM_true ok.w.rng hbg
            obtain ⟨i, i0, hst2, hp⟩ := step_on ok rfl t (bit := b) hst g1 g2 (by rw [hb01]; exact g3)
            rw [hb01] at hp
            rw [hbg] at heq
            simp only [if_true] at heq
            rw [hst2]
            have hm := ok.w.rng _ (List.mem_of_getElem? g1)
            refine br_n (by show ¬ ((i : Int) < 0); omega) (br_y (show (-1 : Int) < 0 by decide) (ih i (n + 1) _ _ H2 (by omega) (by omega) hp ?_ hs2))
            rw [show 17 - (n + 1) = 16 - n from by omega]
            exact heq
          | false =>
            rw [hbg] at heq
            simp only [Bool.false_eq_true, if_false] at heq
            have hst2 := step_off (bit := b) rfl t hst (fun s h1 h2 => findM_none hf h1 (by rw [hb01] at h2; exact h2)) (fun s m h1 h2 h3 => begM_false hbg h1 h2 (by rw [hb01] at h3; exact h3))
            rw [hst2]
            refine br_y (by decide) (c28 hs2 fun H3 hs3 => ⟨rfl, ?_⟩)
            rw [if_pos rfl] at hs3
            exact hbad 21 (by decide) heq.symm H3 _ hs3
  exact loop 17 0 0 0 a H (by omega) (by omega) t.root rfl hs

end
end Go.Proofs
