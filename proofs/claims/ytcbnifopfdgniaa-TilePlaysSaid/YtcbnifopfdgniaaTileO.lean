/-
  OWN WORK. The tiles' plain model: what is seen of a plane.
-/
import Derived.Test.YtcbnifopfdgniaaTileN
set_option linter.unusedSimpArgs false
set_option linter.unusedVariables false
namespace Go.Tile

theorem countP_two {α : Type} {f : α → Bool} {l : List α} {a b : α} (ha : a ∈ l) (hb : b ∈ l) (hab : a ≠ b) (fa : f a = true) (fb : f b = true) : 2 ≤ l.countP f := by
  induction l with
  | nil => cases ha
  | cons c r ih =>
    rw [List.countP_cons]
    rcases List.mem_cons.1 ha with rfl | ha'
    · rcases List.mem_cons.1 hb with rfl | hb'
      · exact absurd rfl hab
      · have : 0 < r.countP f := List.countP_pos_iff.2 ⟨b, hb', fb⟩
        rw [if_pos fa]; omega
    · rcases List.mem_cons.1 hb with rfl | hb'
      · have : 0 < r.countP f := List.countP_pos_iff.2 ⟨a, ha', fa⟩
        rw [if_pos fb]; omega
      · have := ih ha' hb'; omega

theorem refs_two {pls : List Pl} {j k : Nat} (hjk : j ≠ k) {p q : Pl} (hp : pls[k]? = some p) (hq : pls[j]? = some q) (t : Nat) : p.en.countP (·.t == t) + q.en.countP (·.t == t) ≤ refs pls t := by
  induction pls generalizing j k with
  | nil => cases hp
  | cons r l ih =>
    unfold refs
    cases k with
    | zero =>
      cases j with
      | zero => exact absurd rfl hjk
      | succ j =>
        simp at hp hq; subst hp
        have := refs_ge (List.mem_of_getElem? hq) t
        omega
    | succ k =>
      cases j with
      | zero =>
        simp at hp hq; subst hq
        have := refs_ge (List.mem_of_getElem? hp) t
        omega
      | succ j =>
        simp at hp hq
        have := ih (fun h => hjk (by rw [h])) hp hq
        omega

/-- A tile with one user has one place. -/
theorem only_user {s : St} {t : Nat} (h1 : refs s.pls t = 1) {j k : Nat} {p q : Pl} (hp : s.pls[k]? = some p) (hq : s.pls[j]? = some q) {e f : En} (he : e ∈ p.en) (het : e.t = t) (hf : f ∈ q.en) (hft : f.t = t) :
    j = k ∧ e = f := by
  have fe : (e.t == t) = true := by simp [het]
  have ff : (f.t == t) = true := by simp [hft]
  by_cases hjk : j = k
  · subst hjk
    rw [hp] at hq; cases hq
    refine ⟨rfl, ?_⟩
    by_cases hef : e = f
    · exact hef
    · have := countP_two (f := fun e : En => e.t == t) he hf hef fe ff
      have := refs_ge (List.mem_of_getElem? hp) t
      omega
  · have h2 := refs_two hjk hp hq t
    have h3 : 0 < p.en.countP (·.t == t) := List.countP_pos_iff.2 ⟨e, he, fe⟩
    have h4 : 0 < q.en.countP (·.t == t) := List.countP_pos_iff.2 ⟨f, hf, ff⟩
    omega

theorem own_pls {s : St} {k : Nat} {p : Pl} (x y : Int) (n : Nat) (hk : s.pls[k]? = some p) (j : Nat) : (ownS s k p x y n).pls[j]? = if j = k then some (p.own x y n) else s.pls[j]? := by
  obtain ⟨hlen, _⟩ := List.getElem?_eq_some_iff.1 hk
  show (s.pls.set k _)[j]? = _
  rw [List.getElem?_set]
  by_cases h : j = k
  · subst h; simp [hlen]
  · have : ¬ k = j := fun h' => h h'.symm
    rw [if_neg this, if_neg h]

/-- Taking a tile for one's own is not seen. -/
theorem px_own {cap : Int} {s : St} (h : Ok cap s) {k : Nat} {p : Pl} (hk : s.pls[k]? = some p) (x y : Int) {n : Nat} (hn : n ∉ s.ts.map (·.1)) {q : Pl} (hq : q ∈ s.pls) (X Y : Int) :
    pxAt (ownS s k p x y n) q X Y = pxAt s q X Y ∧ pxAt (ownS s k p x y n) (p.own x y n) X Y = pxAt s p X Y := by
  have hother : ∀ (q : Pl), q ∈ s.pls → ∀ a b t, tileOf q.en a b = some t → pxOf ((n, oldPx s p x y) :: s.ts) t = pxOf s.ts t := fun q hq a b t ht => by
    have := (refs_of_tile h hq ht).2
    rw [pxOf_cons, if_neg (fun heq => hn (by rw [show n = t from heq]; exact this))]
  have hp : p ∈ s.pls := List.mem_of_getElem? hk
  constructor
  · unfold pxAt
    cases q.has X Y with
    | false => rfl
    | true =>
      cases ht : tileOf q.en (X / 16) (Y / 16) with
      | none => rfl
      | some t =>
        show (match pxOf ((n, oldPx s p x y) :: s.ts) t with | some l => l.getD (idx X Y) 0 | none => 0) = _
        rw [hother q hq _ _ t ht]
        rfl
  · unfold pxAt
    have hh : (p.own x y n).has X Y = p.has X Y := rfl
    rw [hh]
    cases p.has X Y with
    | false => rfl
    | true =>
      have h1 : tileOf (p.own x y n).en (X / 16) (Y / 16) = if X / 16 = x ∧ Y / 16 = y then some n else tileOf p.en (X / 16) (Y / 16) := tileOf_set _ _ _ _ _ _ _
      rw [h1]
      by_cases hxy : X / 16 = x ∧ Y / 16 = y
      · rw [if_pos hxy]
        show (match pxOf ((n, oldPx s p x y) :: s.ts) n with | some l => l.getD (idx X Y) 0 | none => 0) = _
        rw [pxOf_cons, if_pos rfl, hxy.1, hxy.2]
        show (oldPx s p x y).getD (idx X Y) 0 = _
        unfold oldPx
        cases ht : tileOf p.en x y with
        | none =>
          show zeros.getD (idx X Y) 0 = 0
          rw [List.getD_eq_getElem?_getD]
          unfold zeros
          rw [List.getElem?_replicate, if_pos (idx_lt X Y)]
          rfl
        | some t =>
          obtain ⟨l, hl, _⟩ := h.px_of hp ht
          simp only [hl, Option.getD_some]
      · rw [if_neg hxy]
        cases ht : tileOf p.en (X / 16) (Y / 16) with
        | none => rfl
        | some t =>
          show (match pxOf ((n, oldPx s p x y) :: s.ts) t with | some l => l.getD (idx X Y) 0 | none => 0) = _
          rw [hother p hp _ _ t ht]
          rfl

theorem idx_inj {x y X Y : Int} (hx : X / 16 = x / 16) (hy : Y / 16 = y / 16) (hi : idx X Y = idx x y) : X = x ∧ Y = y := by
  unfold idx at hi
  omega

/-- A pixel is written in a tile that the plane alone has. -/
theorem px_wr {cap : Int} {s : St} (h : Ok cap s) {k : Nat} {p : Pl} (hk : s.pls[k]? = some p) {x y : Int} (hin : p.has x y = true) {t : Nat} (ht : tileOf p.en (x / 16) (y / 16) = some t) (h1 : refs s.pls t = 1)
    (v : Int) {j : Nat} {q : Pl} (hq : s.pls[j]? = some q) (X Y : Int) :
    pxAt (wrS s t (idx x y) v) q X Y = if j = k ∧ X = x ∧ Y = y then v else pxAt s q X Y := by
  obtain ⟨e, he, heat, het⟩ := tileOf_mem ht
  have hp : p ∈ s.pls := List.mem_of_getElem? hk
  have hqm : q ∈ s.pls := List.mem_of_getElem? hq
  obtain ⟨l, hl, _, hlen, _⟩ := h.px_of hp ht
  have hwr : ∀ u, pxOf (wrS s t (idx x y) v).ts u = if u = t then some (l.set (idx x y) v) else pxOf s.ts u := fun u => by
    show pxOf (wrTs s.ts t (idx x y) v) u = _
    rw [pxOf_wr, hl]; rfl
  by_cases hc : j = k ∧ X = x ∧ Y = y
  · rw [if_pos hc]
    obtain ⟨rfl, rfl, rfl⟩ := hc
    rw [hk] at hq; cases hq
    unfold pxAt
    rw [hin]
    simp only [ht, hwr, if_true]
    rw [List.getD_eq_getElem?_getD, List.getElem?_set, if_pos rfl, if_pos (by rw [hlen]; exact idx_lt X Y)]
    rfl
  · rw [if_neg hc]
    unfold pxAt
    cases hqh : q.has X Y with
    | false => rfl
    | true =>
      simp only []
      cases hu : tileOf q.en (X / 16) (Y / 16) with
      | none => rfl
      | some u =>
        simp only [hwr]
        by_cases hut : u = t
        · subst hut
          obtain ⟨f, hf, hfat, hft⟩ := tileOf_mem hu
          obtain ⟨hjk, hef⟩ := only_user h1 hk hq he het hf hft
          subst hef
          have a1 := at_iff.1 heat
          have a2 := at_iff.1 hfat
          rw [if_pos rfl, hl]
          simp only []
          have hne : idx x y ≠ idx X Y := fun hi => hc ⟨hjk, idx_inj (by omega) (by omega) hi.symm⟩
          rw [List.getD_eq_getElem?_getD, List.getElem?_set, if_neg hne, ← List.getD_eq_getElem?_getD]
        · rw [if_neg hut]

end Go.Tile
