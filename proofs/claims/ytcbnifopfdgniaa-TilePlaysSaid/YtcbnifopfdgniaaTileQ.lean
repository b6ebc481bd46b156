/-
  OWN WORK. The tiles' plain model: painting many pixels: what it takes, what is seen behind it.
-/
import Derived.Test.YtcbnifopfdgniaaTileP
set_option linter.unusedSimpArgs false
set_option linter.unusedVariables false
namespace Go.Tile

theorem needs_false {s : St} {p : Pl} {x y : Int} (h : needs s p x y = false) : ∃ t, tileOf p.en x y = some t ∧ refs s.pls t = 1 := by
  unfold needs at h
  split at h
  · rename_i t ht; exact ⟨t, ht, by simpa using h⟩
  · cases h

/-- Of two keys of a plane the tiles are two. -/
theorem tile_inj {cap : Int} {s : St} (h : Ok cap s) {p : Pl} (hp : p ∈ s.pls) {x y x' y' : Int} {t : Nat} (h1 : tileOf p.en x y = some t) (h2 : tileOf p.en x' y' = some t) : x = x' ∧ y = y' := by
  obtain ⟨e, he, hat, het⟩ := tileOf_mem h1
  obtain ⟨f, hf, hft, hftt⟩ := tileOf_mem h2
  have a1 := at_iff.1 hat
  have a2 := at_iff.1 hft
  by_cases hef : e = f
  · subst hef; exact ⟨a1.1.trans a2.1.symm, a1.2.trans a2.2.symm⟩
  · have := countP_two (f := fun e : En => e.t == t) he hf hef (by simp [het]) (by simp [hftt])
    have := h.one p hp t
    omega

/-- One write: what becomes of the plane. -/
structure Step (s : St) (k : Nat) (p : Pl) (x y v : Int) (s' : St) (p' : Pl) : Prop where
  pk : s'.pls[k]? = some p'
  oth : ∀ j, j ≠ k → s'.pls[j]? = s.pls[j]?
  like : Like p p'
  free : s'.free = s.free - if needs s p (x / 16) (y / 16) = true then 1 else 0
  need : ∀ K L, needs s' p' K L = (needs s p K L && !(K == x / 16 && L == y / 16))
  tile : ∃ n, (needs s p (x / 16) (y / 16) = true → n ∉ s.ts.map (·.1)) ∧ ∀ K L, tileOf p'.en K L = if needs s p (x / 16) (y / 16) = true ∧ K = x / 16 ∧ L = y / 16 then some n else tileOf p.en K L
  keys : ∀ t, t ∈ s.ts.map (·.1) → t ∈ s'.ts.map (·.1)

theorem wrote_step {cap : Int} {s : St} (h : Ok cap s) {k : Nat} {p : Pl} (hk : s.pls[k]? = some p) {x y v : Int} {s' : St} (hw : Wrote s k p x y v s') : ∃ p', Step s k p x y v s' p' := by
  have hp : p ∈ s.pls := List.mem_of_getElem? hk
  rcases hw with ⟨hnd, t, ht, h1, rfl⟩ | ⟨hneed, hfree, n, hn, rfl⟩
  · refine ⟨p, hk, fun j _ => rfl, Like.refl p, by simp [hnd, wrS], fun K L => ?_, ⟨0, by simp [hnd], fun K L => by simp [hnd]⟩, fun t ht => by show t ∈ (wrTs s.ts _ _ _).map (·.1); rwa [wrTs_keys]⟩
    have e1 : needs (wrS s t (idx x y) v) p K L = needs s p K L := rfl
    rw [e1]
    by_cases hKL : K = x / 16 ∧ L = y / 16
    · rw [hKL.1, hKL.2, hnd]; rfl
    · have : (K == x / 16 && L == y / 16) = false := by
        rw [← Bool.not_eq_true, Bool.and_eq_true, beq_iff_eq, beq_iff_eq]; exact hKL
      rw [this]; simp
  · have hnt : ∀ q ∈ s.pls, ∀ e ∈ q.en, e.t ≠ n := fun q hq e he heq => by
      have := (h.live e.t).1 (refs_pos hq he)
      rw [heq] at this
      exact hn this
    obtain ⟨r1, r2⟩ := refs_own hk (x := x / 16) (y := y / 16) hnt
    have htl : ∀ K L, tileOf (p.own (x / 16) (y / 16) n).en K L = if K = x / 16 ∧ L = y / 16 then some n else tileOf p.en K L := fun K L => tileOf_set _ _ _ _ _ _ _
    refine ⟨p.own (x / 16) (y / 16) n, ?_, fun j hj => ?_, ⟨rfl, rfl, rfl, rfl⟩, ?_, fun K L => ?_, ⟨n, fun _ => hn, fun K L => ?_⟩, fun t ht => ?_⟩
    · show (ownS s k p (x / 16) (y / 16) n).pls[k]? = _
      rw [own_pls _ _ _ hk, if_pos rfl]
    · show (ownS s k p (x / 16) (y / 16) n).pls[j]? = _
      rw [own_pls _ _ _ hk, if_neg hj]
    · rw [if_pos hneed]; rfl
    · have e1 : needs (wrS (ownS s k p (x / 16) (y / 16) n) n (idx x y) v) (p.own (x / 16) (y / 16) n) K L = needs (ownS s k p (x / 16) (y / 16) n) (p.own (x / 16) (y / 16) n) K L := rfl
      rw [e1]
      unfold needs
      rw [htl]
      by_cases hKL : K = x / 16 ∧ L = y / 16
      · rw [if_pos hKL, hKL.1, hKL.2]
        simp [r1]
      · have hb : (K == x / 16 && L == y / 16) = false := by
          rw [← Bool.not_eq_true, Bool.and_eq_true, beq_iff_eq, beq_iff_eq]; exact hKL
        rw [if_neg hKL, hb]
        cases ht : tileOf p.en K L with
        | none => rfl
        | some t =>
          have htn : t ≠ n := fun h' => hn (h' ▸ (refs_of_tile h hp ht).2)
          have := r2 t htn
          have hne : ¬ tileOf p.en (x / 16) (y / 16) = some t := fun h' => hKL (tile_inj h hp ht h')
          rw [if_neg hne] at this
          simp only [Nat.add_zero] at this
          simp only []
          rw [this]; simp
    · show tileOf (p.own (x / 16) (y / 16) n).en K L = _
      rw [htl, hneed]; simp
    · show t ∈ (wrTs _ _ _ _).map (·.1)
      rw [wrTs_keys]
      exact List.mem_cons_of_mem _ ht

theorem wrote_ok {cap : Int} {s : St} (h : Ok cap s) {k : Nat} {p : Pl} (hk : s.pls[k]? = some p) {x y v : Int} (hv : 0 ≤ v ∧ v < 4294967296) {s' : St} (hw : Wrote s k p x y v s') : Ok cap s' := by
  rcases hw with ⟨_, t, _, _, rfl⟩ | ⟨hneed, hfree, n, hn, rfl⟩
  · exact wrS_ok h _ _ hv.1 hv.2
  · exact wrS_ok (ownS_ok h hk hneed hfree hn) _ _ hv.1 hv.2

/-! ### the keys that are taken -/

def hit (s : St) (p : Pl) (v : Int) (c : Int × Int) : Prop := pxAt s p c.1 c.2 ≠ v ∧ needs s p (c.1 / 16) (c.2 / 16) = true

theorem mem_needKeys (s : St) (p : Pl) (v : Int) : ∀ (cs ks : List (Int × Int)) (K : Int × Int), K ∈ needKeys s p v cs ks ↔ K ∈ ks ∨ ∃ c ∈ cs, hit s p v c ∧ K = (c.1 / 16, c.2 / 16)
  | [], ks, K => by simp [needKeys]
  | c :: r, ks, K => by
    unfold needKeys
    rw [mem_needKeys s p v r]
    by_cases hc : pxAt s p c.1 c.2 ≠ v ∧ needs s p (c.1 / 16) (c.2 / 16) = true
    · rw [if_pos hc]
      by_cases hm : (c.1 / 16, c.2 / 16) ∈ ks
      · rw [if_pos hm]
        constructor
        · rintro (h | ⟨c', h1, h2, h3⟩)
          · exact .inl h
          · exact .inr ⟨c', List.mem_cons_of_mem _ h1, h2, h3⟩
        · rintro (h | ⟨c', h1, h2, h3⟩)
          · exact .inl h
          · rcases List.mem_cons.1 h1 with rfl | h1
            · exact .inl (h3 ▸ hm)
            · exact .inr ⟨c', h1, h2, h3⟩
      · rw [if_neg hm]
        constructor
        · rintro (h | ⟨c', h1, h2, h3⟩)
          · rcases List.mem_append.1 h with h | h
            · exact .inl h
            · exact .inr ⟨c, List.mem_cons_self, hc, by simpa using h⟩
          · exact .inr ⟨c', List.mem_cons_of_mem _ h1, h2, h3⟩
        · rintro (h | ⟨c', h1, h2, h3⟩)
          · exact .inl (List.mem_append_left _ h)
          · rcases List.mem_cons.1 h1 with rfl | h1
            · exact .inl (List.mem_append_right _ (by simp [h3]))
            · exact .inr ⟨c', h1, h2, h3⟩
    · rw [if_neg hc]
      constructor
      · rintro (h | ⟨c', h1, h2, h3⟩)
        · exact .inl h
        · exact .inr ⟨c', List.mem_cons_of_mem _ h1, h2, h3⟩
      · rintro (h | ⟨c', h1, h2, h3⟩)
        · exact .inl h
        · rcases List.mem_cons.1 h1 with rfl | h1
          · exact absurd h2 hc
          · exact .inr ⟨c', h1, h2, h3⟩

theorem nodup_needKeys (s : St) (p : Pl) (v : Int) : ∀ (cs ks : List (Int × Int)), ks.Nodup → (needKeys s p v cs ks).Nodup
  | [], ks, h => h
  | c :: r, ks, h => by
    unfold needKeys
    refine nodup_needKeys s p v r _ ?_
    split
    · split
      · exact h
      · rename_i hm
        rw [List.nodup_append]
        exact ⟨h, by simp, fun a ha b hb => by simp at hb; subst hb; intro heq; exact hm (heq ▸ ha)⟩
    · exact h

theorem nodup_length_le {α : Type} [DecidableEq α] : ∀ {l m : List α}, l.Nodup → (∀ a ∈ l, a ∈ m) → l.length ≤ m.length
  | [], _, _, _ => by simp
  | a :: r, m, h, hs => by
    have ha := hs a List.mem_cons_self
    have h1 := List.nodup_cons.1 h
    have := nodup_length_le (m := m.erase a) h1.2 fun b hb => by
      have hne : b ≠ a := fun he => h1.1 (he ▸ hb)
      exact (List.mem_erase_of_ne hne).2 (hs b (List.mem_cons_of_mem _ hb))
    rw [List.length_erase_of_mem ha] at this
    have hpos : 0 < m.length := List.length_pos_of_mem ha
    simp only [List.length_cons]
    omega

/-- One write takes its key out. -/
theorem needKeys_step {cap : Int} {s : St} (h : Ok cap s) {k : Nat} {p : Pl} (hk : s.pls[k]? = some p) {x y v : Int} (hin : p.has x y = true) (hne : pxAt s p x y ≠ v) {s' : St} (hw : Wrote s k p x y v s') {p' : Pl}
    (hp' : s'.pls[k]? = some p') (r : List (Int × Int)) :
    (needKeys s' p' v r []).length + (if needs s p (x / 16) (y / 16) = true then 1 else 0) = (needKeys s p v ((x, y) :: r) []).length := by
  obtain ⟨p1, st⟩ := wrote_step h hk hw
  have : p1 = p' := by have := st.pk; rw [hp'] at this; exact (Option.some.inj this).symm
  subst this
  have hv := wrote_views h hk hin hw
  obtain ⟨q', hq', _, hpx⟩ := hv.pl k p hk
  rw [hp'] at hq'; cases hq'
  have hhit : ∀ c, hit s' p1 v c ↔ (hit s p v c ∧ ¬ ((c.1 / 16, c.2 / 16) = (x / 16, y / 16))) := by
    intro c
    unfold hit
    rw [hpx, st.need]
    simp only [put1, Bool.and_eq_true, Bool.not_eq_true', Prod.mk.injEq]
    have hb : (c.1 / 16 == x / 16 && c.2 / 16 == y / 16) = false ↔ ¬ (c.1 / 16 = x / 16 ∧ c.2 / 16 = y / 16) := by
      rw [← Bool.not_eq_true, Bool.and_eq_true, beq_iff_eq, beq_iff_eq]
    rw [hb]
    by_cases hc : c.1 = x ∧ c.2 = y
    · rw [if_pos ⟨trivial, hc.1, hc.2⟩, hc.1, hc.2]
      simp
    · rw [if_neg (fun h => hc ⟨h.2.1, h.2.2⟩)]
      constructor
      · rintro ⟨a, b, c⟩; exact ⟨⟨a, b⟩, c⟩
      · rintro ⟨⟨a, b⟩, c⟩; exact ⟨a, b, c⟩
  have n1 := nodup_needKeys s' p1 v r [] List.nodup_nil
  have n2 := nodup_needKeys s p v ((x, y) :: r) [] List.nodup_nil
  have m1 := mem_needKeys s' p1 v r []
  have m2 := mem_needKeys s p v ((x, y) :: r) []
  have hsub : ∀ K ∈ needKeys s' p1 v r [], K ∈ needKeys s p v ((x, y) :: r) [] ∧ K ≠ (x / 16, y / 16) := by
    intro K hK
    rcases (m1 K).1 hK with h' | ⟨c, hc, hh, rfl⟩
    · cases h'
    · have := (hhit c).1 hh
      exact ⟨(m2 _).2 (.inr ⟨c, List.mem_cons_of_mem _ hc, this.1, rfl⟩), this.2⟩
  have hsup : ∀ K ∈ needKeys s p v ((x, y) :: r) [], K ≠ (x / 16, y / 16) → K ∈ needKeys s' p1 v r [] := by
    intro K hK hne'
    rcases (m2 K).1 hK with h' | ⟨c, hc, hh, rfl⟩
    · cases h'
    · rcases List.mem_cons.1 hc with rfl | hc
      · exact absurd rfl hne'
      · exact (m1 _).2 (.inr ⟨c, hc, (hhit c).2 ⟨hh, hne'⟩, rfl⟩)
  by_cases hnd : needs s p (x / 16) (y / 16) = true
  · rw [if_pos hnd]
    have hmem : (x / 16, y / 16) ∈ needKeys s p v ((x, y) :: r) [] := (m2 _).2 (.inr ⟨(x, y), List.mem_cons_self, ⟨hne, hnd⟩, rfl⟩)
    have l1 := nodup_length_le (l := (x / 16, y / 16) :: needKeys s' p1 v r []) (m := needKeys s p v ((x, y) :: r) []) (List.nodup_cons.2 ⟨fun hh => (hsub _ hh).2 rfl, n1⟩) (fun K hK => by
      rcases List.mem_cons.1 hK with rfl | hK
      · exact hmem
      · exact (hsub K hK).1)
    have l2 := nodup_length_le (l := needKeys s p v ((x, y) :: r) []) (m := (x / 16, y / 16) :: needKeys s' p1 v r []) n2 (fun K hK => by
      by_cases hKe : K = (x / 16, y / 16)
      · exact hKe ▸ List.mem_cons_self
      · exact List.mem_cons_of_mem _ (hsup K hK hKe))
    simp only [List.length_cons] at l1 l2
    omega
  · rw [if_neg hnd]
    have hno : (x / 16, y / 16) ∉ needKeys s p v ((x, y) :: r) [] := fun hh => by
      rcases (m2 _).1 hh with h' | ⟨c, hc, hh, heq⟩
      · cases h'
      · simp only [Prod.mk.injEq] at heq
        have := hh.2
        rw [← heq.1, ← heq.2] at this
        exact hnd this
    have l1 := nodup_length_le n1 fun K hK => (hsub K hK).1
    have l2 := nodup_length_le n2 fun K hK => hsup K hK (fun he => hno (he ▸ hK))
    omega

end Go.Tile
