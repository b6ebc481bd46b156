/-
  OWN WORK. The tiles' plain model: what is seen behind a snapshot, behind a drop; how many tiles there are.
-/
import Derived.Test.YtcbnifopfdgniaaTileV
import Derived.Test.YtcbnifopfdgniaaTileR
set_option linter.unusedVariables false
set_option linter.unusedSimpArgs false
namespace Go.Proofs
open Go.Sh Go.Tile

theorem px_of_tile {s s' : St} {p q : Pl} {X Y : Int} (hh : q.has X Y = p.has X Y) (ht : tileOf q.en (X / 16) (Y / 16) = tileOf p.en (X / 16) (Y / 16)) (hp : ∀ t, tileOf p.en (X / 16) (Y / 16) = some t → pxOf s'.ts t = pxOf s.ts t) :
    pxAt s' q X Y = pxAt s p X Y := by
  unfold pxAt
  rw [hh, ht]
  cases p.has X Y with
  | false => rfl
  | true =>
    cases h : tileOf p.en (X / 16) (Y / 16) with
    | none => rfl
    | some t => simp only [hp t h]

theorem snap_px {s : St} {p : Pl} {b m : Nat} {done : List En} (pok : PlOk p) (hs : Same done p.en) (X Y : Int) : pxAt (snapS s (snapPl p b m done)) (snapPl p b m done) X Y = pxAt s p X Y :=
  px_of_tile rfl (by show tileOf (cp done) _ _ = _; rw [tileOf_cp, same_tileOf hs pok.keys]) (fun _ _ => rfl)

theorem snap_len {p : Pl} {b m : Nat} {done : List En} (pok : PlOk p) (hs : Same done p.en) : (snapPl p b m done).en.length = p.en.length := by
  show (cp done).length = _
  rw [cp_len]
  exact (hs.perm (nodup_of_map pok.born)).length_eq

theorem needs_snap {cap : Int} {s : St} {p : Pl} {b m : Nat} {done : List En} (hok : Ok cap s) (hp : p ∈ s.pls) (hs : Same done p.en) {q : Pl} (hq : q.en = p.en ∨ q = snapPl p b m done) (K L : Int) : needs (snapS s (snapPl p b m done)) q K L = true := by
  have pok := hok.pl p hp
  have ht : tileOf q.en K L = tileOf p.en K L := by
    rcases hq with hq | rfl
    · rw [hq]
    · show tileOf (cp done) _ _ = _
      rw [tileOf_cp, same_tileOf hs pok.keys]
  unfold needs
  rw [ht]
  cases h : tileOf p.en K L with
  | none => rfl
  | some t =>
    obtain ⟨e, he, _, rfl⟩ := tileOf_mem h
    have h1 := refs_pos hp he
    have h2 := refs_snap s p b m done e.t
    have h3 : 0 < done.countP (·.t == e.t) := List.countP_pos_iff.2 ⟨e, hs.all e he, by simp⟩
    have : refs (snapS s (snapPl p b m done)).pls e.t ≠ 1 := by omega
    simp [this]

theorem pxOf_filter {f : Nat × List Int → Bool} {t : Nat} : ∀ {ts : List (Nat × List Int)}, (∀ z ∈ ts, z.1 = t → f z = true) → pxOf (ts.filter f) t = pxOf ts t
  | [], _ => rfl
  | z :: r, h => by
    have ih := pxOf_filter (f := f) (t := t) fun z' hz' => h z' (List.mem_cons_of_mem _ hz')
    rw [List.filter_cons]
    split
    · rw [pxOf_cons, pxOf_cons, ih]
    · rename_i hf
      rw [pxOf_cons, ih, if_neg (fun hz => hf (h z List.mem_cons_self hz))]

theorem drop_px {cap : Int} {s : St} (hok : Ok cap s) {k : Nat} {p : Pl} (hk : s.pls[k]? = some p) {q : Pl} (hq : q ∈ (dropS s k p).pls) (X Y : Int) : pxAt (dropS s k p) q X Y = pxAt s q X Y := by
  refine px_of_tile rfl rfl fun t ht => ?_
  obtain ⟨e, he, _, rfl⟩ := tileOf_mem ht
  have := refs_pos hq he
  refine pxOf_filter fun z _ hz => ?_
  rw [hz]
  have h2 : refs (dropL s k p) e.t ≠ 0 := by
    have h3 : 0 < refs (dropL s k p) e.t := this
    omega
  simp [h2]

theorem bare_px (s : St) (p : Pl) (X Y : Int) : pxAt s (bare p) X Y = 0 := by
  unfold pxAt
  cases (bare p).has X Y <;> rfl

theorem drop_pls {s : St} {k : Nat} {p : Pl} (hk : s.pls[k]? = some p) (j : Nat) : (dropS s k p).pls[j]? = if j = k then some (bare p) else s.pls[j]? := by
  show (s.pls.set k (bare p))[j]? = _
  rw [List.getElem?_set]
  by_cases h : k = j
  · subst h
    have := (List.getElem?_eq_some_iff.1 hk).1
    simp [this]
  · rw [if_neg h, if_neg (fun hh => h hh.symm)]

theorem refs_bare : ∀ {pls : List Pl}, (∀ q ∈ pls, q.en = []) → ∀ t, refs pls t = 0
  | [], _, _ => rfl
  | q :: r, h, t => by
    unfold refs
    rw [h q List.mem_cons_self, refs_bare fun q' hq' => h q' (List.mem_cons_of_mem _ hq')]
    rfl

/-- All are empty: all is free. -/
theorem all_free {cap : Int} {s : St} (hok : Ok cap s) (h : ∀ q ∈ s.pls, q.en = []) : s.free = cap := by
  have h0 : s.ts = [] := by
    rcases hts : s.ts with _ | ⟨z, r⟩
    · rfl
    · have h1 := (hok.live z.1).2 (by rw [hts]; exact List.mem_map.2 ⟨z, List.mem_cons_self, rfl⟩)
      rw [refs_bare h] at h1
      cases h1
  have := hok.count
  rw [h0] at this
  simpa using this

theorem tiles_nodup : ∀ {en : List En}, (∀ t, en.countP (·.t == t) ≤ 1) → (en.map (·.t)).Nodup
  | [], _ => List.nodup_nil
  | e :: r, h => by
    rw [List.map_cons, List.nodup_cons]
    refine ⟨fun hm => ?_, tiles_nodup fun t => ?_⟩
    · obtain ⟨f, hf, hft⟩ := List.mem_map.1 hm
      have h1 := h e.t
      rw [List.countP_cons] at h1
      have h2 : 0 < r.countP (·.t == e.t) := List.countP_pos_iff.2 ⟨f, hf, by simpa using hft⟩
      rw [if_pos (by simp)] at h1
      omega
    · have h1 := h t
      rw [List.countP_cons] at h1
      omega

/-- One plane alone has tiles. -/
theorem alone_free {cap : Int} {s : St} (hok : Ok cap s) {p : Pl} (hp : p ∈ s.pls) (h : ∀ t, refs s.pls t = p.en.countP (·.t == t)) : s.free + p.en.length = cap := by
  have hc := hok.count
  have h1 := tiles_nodup (hok.one p hp)
  have hmem : ∀ t, t ∈ p.en.map (·.t) ↔ t ∈ s.ts.map (·.1) := fun t => by
    rw [← hok.live t, h t, List.countP_pos_iff]
    constructor
    · intro hm; obtain ⟨e, he, het⟩ := List.mem_map.1 hm; exact ⟨e, he, by simpa using het⟩
    · rintro ⟨e, he, het⟩; exact List.mem_map.2 ⟨e, he, by simpa using het⟩
  have h2 := nodup_length_le h1 fun t ht => (hmem t).1 ht
  have h3 := nodup_length_le hok.ts fun t ht => (hmem t).2 ht
  simp only [List.length_map] at h2 h3
  omega

theorem en_length {p : Pl} (pok : PlOk p) {l : List (Int × Int)} (hl : l.Nodup) (h : ∀ K L, (K, L) ∈ l ↔ tileOf p.en K L ≠ none) : p.en.length = l.length := by
  have hmem : ∀ c, c ∈ l ↔ c ∈ p.en.map fun e => (e.x, e.y) := fun c => by
    obtain ⟨K, L⟩ := c
    rw [h, ne_eq, tileOf_none_iff, Classical.not_not]
  have h2 := nodup_length_le hl fun c hc => (hmem c).1 hc
  have h3 := nodup_length_le pok.keys fun c hc => (hmem c).2 hc
  simp only [List.length_map] at h2 h3
  omega

end Go.Proofs
