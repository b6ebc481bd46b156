/-
  OWN WORK. The book's 'used': how many numbers its planes have.
-/
import Derived.Test.YtcbnifopfdgniaaTileBk
set_option linter.unusedVariables false
set_option linter.unusedSimpArgs false
namespace Go.Proofs
open Go.Sh Go.Tile

def seenL (D : List Int) (m : Nat) : List Value := (List.range m).map fun t : Nat => Value.bool (decide ((t : Int) ∈ D))
def seenO (D : List Int) (m : Nat) : Obj := .cells (seenL D m).toArray 4

theorem seenL_get (D : List Int) {m t : Nat} (h : t < m) : (seenL D m)[t]? = some (Value.bool (decide ((t : Int) ∈ D))) := by simp [seenL, h]

theorem seenL_set (D : List Int) (m t : Nat) : (seenL D m).set t (.bool true) = seenL (D ++ [(t : Int)]) m := by
  apply List.ext_getElem?
  intro i
  rw [List.getElem?_set]
  by_cases hi : i < m
  · rw [seenL_get _ hi, seenL_get _ hi]
    by_cases h : t = i
    · subst h
      have : t < (seenL D m).length := by simp [seenL, hi]
      simp [this]
    · have h' : ¬ (i : Int) = (t : Int) := fun hh => h (by omega)
      simp [h, h']
  · have h1 : (seenL D m)[i]? = none := List.getElem?_eq_none_iff.2 (by simp [seenL]; omega)
    have h2 : (seenL (D ++ [(t : Int)]) m)[i]? = none := List.getElem?_eq_none_iff.2 (by simp [seenL]; omega)
    rw [h1, h2]
    split
    · rename_i hti
      subst hti
      have : ¬ t < (seenL D m).length := by simp [seenL]; omega
      simp [this]
    · rfl

theorem seenL_nil (m : Nat) : reps m [Value.bool false] = seenL [] m := by
  apply List.ext_getElem?
  intro i
  by_cases hi : i < m
  · rw [seenL_get _ hi, reps_get [Value.bool false] (by decide) m i (by simpa using hi)]
    simp [Nat.mod_one]
  · rw [List.getElem?_eq_none_iff.2 (by rw [reps_length]; simp; omega), List.getElem?_eq_none_iff.2 (by simp [seenL]; omega)]

set_option maxHeartbeats 1000000 in
theorem c31 {H : Heap} {k : Bk} (h : BIn H k) (hn0 : 0 ≤ k.next) (hn1 : k.next ≤ 100000000) (hlen : k.pl.length ≤ 1000) (htl : ∀ p ∈ k.pl, p.tl.length ≤ 100000 ∧ ∀ t ∈ p.tl, t ≤ k.next) {R : Value → Heap → Prop}
    (hR : ∀ H' (D : List Int), Ext H H' → D.Nodup → (∀ t, t ∈ D ↔ 0 < t ∧ ∃ p ∈ k.pl, t ∈ p.tl) → R (.int .i64 D.length) H') : CallsH Try.prog 31 #[.pointer (some ⟨k.B, 0, none⟩)] H R := by
  refine Try.s31 ?_
  unfold Try.S31 alc
  obtain ⟨_, _, _, _, b4, _⟩ := h.cells
  have ew1 : IntKind.wrap .i64 (k.next + 1) = k.next + 1 := wrap_id (by omega) (by omega)
  refine ⟨_, rfl, k.next, by simpa using b4, ?_⟩
  rw [ew1]
  refine ⟨by omega, by omega, by simp; omega, by omega, ?_⟩
  generalize hm : (k.next + 1).toNat = M
  have hb : ∀ D : List Int, D.Nodup → (∀ t ∈ D, 0 < t ∧ t ≤ k.next) → D.length ≤ M := fun D hD hDt => by
    have := nodup_length_le (m := (List.range M).map fun i : Nat => (i : Int)) hD fun t ht => by
      have := hDt t ht
      exact List.mem_map.2 ⟨t.toNat, List.mem_range.2 (by omega), by omega⟩
    simpa using this
  have e0 := seenL_nil M
  have e0' : List.toArray (reps M (Array.toList #[Value.bool false])) = (seenL [] M).toArray := by rw [← e0]
  rw [e0']
  generalize hH1 : H.push _ = H1
  have e1 : Ext H H1 := by subst hH1; exact Ext.push _ _
  have s1 : H1[H.size]? = some (seenO [] M) := by subst hH1; exact get_push_self _ _
  obtain ⟨_, _, _, _, _, b5⟩ := (h.ext e1).cells
  refine ⟨_, rfl, some ⟨k.lb, 0, none⟩, k.pl.length, k.lc, by simpa using b5, ?_⟩
  intro X hX
  have outer : ∀ (m j : Nat) (H2 : Heap) (D : List Int), k.pl.length - j = m → j ≤ k.pl.length → Ext H H2 → H2[H.size]? = some (seenO D M) → D.Nodup → (∀ t, t ∈ D ↔ 0 < t ∧ ∃ (j' : Nat) (p : BPl), j' < j ∧ k.pl[j']? = some p ∧ t ∈ p.tl) →
      X [.int .i64 D.length, .int .i64 j] H2 := by
    intro m
    induction m with
    | zero =>
      intro j H2 D hm2 hj e2 s2 hD hDt
      refine hX _ _ H2 (br_n (by omega) (hR H2 D e2 hD fun t => ?_))
      rw [hDt]
      refine ⟨fun ⟨a, j', p, _, hp, ht⟩ => ⟨a, p, List.mem_of_getElem? hp, ht⟩, fun ⟨a, p, hp, ht⟩ => ?_⟩
      obtain ⟨j', hj'⟩ := List.getElem?_of_mem hp
      have := (List.getElem?_eq_some_iff.1 hj').1
      exact ⟨a, j', p, by omega, hj', ht⟩
    | succ m ih =>
      intro j H2 D hm2 hj e2 s2 hD hDt
      have ewj : IntKind.wrap .i64 ((j : Int) + 1) = ((j + 1 : Nat) : Int) := by rw [wrap_id (by omega) (by omega)]; omega
      obtain ⟨p, hp⟩ : ∃ p, k.pl[j]? = some p := ⟨_, List.getElem?_eq_getElem (by omega)⟩
      have hpm := List.mem_of_getElem? hp
      obtain ⟨hpl, hpt⟩ := htl p hpm
      obtain ⟨_, _, hrow⟩ := (h.ext e2).plane hp
      refine hX _ _ H2 (br_y (by omega) ⟨_, rfl, by omega, by omega, #[p.pxV, p.tlV], rfl, by simpa using hrow, rfl, copy_pl fun H3 e3 hc => ?_⟩)
      refine ⟨some ⟨p.tb, 0, none⟩, p.tl.length, p.tc, by rw [add_none, Nat.zero_add]; exact cell_get hc rfl, ?_⟩
      intro Y hY
      have inner : ∀ (m2 t : Nat) (H4 : Heap) (D : List Int), p.tl.length - t = m2 → t ≤ p.tl.length → Ext H H4 → H4[H.size]? = some (seenO D M) → D.Nodup →
          (∀ u, u ∈ D ↔ 0 < u ∧ ((∃ (j' : Nat) (p : BPl), j' < j ∧ k.pl[j']? = some p ∧ u ∈ p.tl) ∨ u ∈ p.tl.take t)) → Y [.int .i64 D.length, .int .i64 t] H4 := by
        intro m2
        induction m2 with
        | zero =>
          intro t H4 D hm3 ht e4 s4 hD hDt
          refine hY _ _ H4 (br_n (by omega) ?_)
          rw [ewj]
          refine ih (j + 1) H4 D (by omega) (by omega) e4 s4 hD fun u => ?_
          rw [hDt, List.take_of_length_le (by omega)]
          constructor
          · rintro ⟨a, ⟨j', p', h1, h2, h3⟩ | h1⟩
            · exact ⟨a, j', p', by omega, h2, h3⟩
            · exact ⟨a, j, p, by omega, hp, h1⟩
          · rintro ⟨a, j', p', h1, h2, h3⟩
            by_cases hjj : j' = j
            · subst hjj; rw [hp] at h2; cases h2; exact ⟨a, .inr h3⟩
            · exact ⟨a, .inl ⟨j', p', by omega, h2, h3⟩⟩
        | succ m2 ih2 =>
          intro t H4 D hm3 ht e4 s4 hD hDt
          have ewt : IntKind.wrap .i64 ((t : Int) + 1) = ((t + 1 : Nat) : Int) := by rw [wrap_id (by omega) (by omega)]; omega
          have hlt : t < p.tl.length := by omega
          have hv : p.tl[t]? = some p.tl[t] := List.getElem?_eq_getElem hlt
          have hvn := hpt _ (List.getElem_mem hlt)
          have hvc := ((h.ext e4).tl p hpm).cell' (ints_get hv)
          have htake : p.tl.take (t + 1) = p.tl.take t ++ [p.tl[t]] := List.take_succ_eq_append_getElem hlt
          generalize p.tl[t] = v at hv hvn hvc htake
          have hDl := hb D hD fun u hu => by
            have hu' := (hDt u).1 hu
            rcases hu'.2 with ⟨_, p', _, h2, h3⟩ | h3
            · exact ⟨hu'.1, (htl p' (List.mem_of_getElem? h2)).2 u h3⟩
            · exact ⟨hu'.1, hpt u (List.mem_of_mem_take h3)⟩
          refine hY _ _ H4 (br_y (by omega) ?_)
          intro J hJ
          refine ⟨_, rfl, by omega, by omega, v, by simpa using hvc, br_dec (fun hpos => ?_) (fun hneg => hJ _ H4 ?_)⟩
          · have hvm : v.toNat < M := by omega
            have hvi : ((v.toNat : Nat) : Int) = v := by omega
            have hsc : cell H4 ⟨H.size, v.toNat, none⟩ = some (.bool (decide (v ∈ D))) := by
              refine cell_get s4 ?_
              rw [List.getElem?_toArray, seenL_get _ hvm, hvi]
            refine ⟨_, rfl, by omega, by omega, decide (v ∈ D), by simpa using hsc, br_not (fun hnot => ?_) (fun hyes => hJ _ H4 ?_)⟩
            · have hnm : v ∉ D := of_decide_eq_false hnot
              refine ⟨_, rfl, by omega, by omega, ?_⟩
              simp only [add_none, Nat.zero_add, Nat.mul_one]
              refine stAt_one s4 (by simpa [seenL] using hvm) rfl ?_
              have hset : (seenL D M).toArray.setIfInBounds v.toNat (.bool true) = (seenL (D ++ [v]) M).toArray := by
                rw [List.setIfInBounds_toArray, seenL_set, hvi]
              rw [hset]
              have ewn : IntKind.wrap .i64 ((D.length : Int) + 1) = (((D ++ [v]).length : Nat) : Int) := by
                rw [wrap_id (by omega) (by omega)]; simp
              rw [ewn]
              refine hJ _ _ ?_
              rw [ewt]
              refine ih2 (t + 1) _ (D ++ [v]) (by omega) (by omega) (fun b o hb => get_set_ne (Nat.ne_of_gt (lt_of_get hb)) (e4 _ _ hb)) (get_set_self s4) ?_ fun u => ?_
              · rw [List.nodup_append]
                exact ⟨hD, by simp, fun a ha b hb hab => by simp at hb; subst hb; subst hab; exact hnm ha⟩
              · rw [List.mem_append, hDt, List.mem_singleton, htake, List.mem_append, List.mem_singleton]
                constructor
                · rintro (⟨a, h1 | h1⟩ | h1)
                  · exact ⟨a, .inl h1⟩
                  · exact ⟨a, .inr (.inl h1)⟩
                  · exact ⟨by omega, .inr (.inr h1)⟩
                · rintro ⟨a, h1 | h1 | h1⟩
                  · exact .inl ⟨a, .inl h1⟩
                  · exact .inl ⟨a, .inr h1⟩
                  · exact .inr h1
            · rw [ewt]
              have hin : v ∈ D := of_decide_eq_true hyes
              refine ih2 (t + 1) H4 D (by omega) (by omega) e4 s4 hD fun u => ?_
              rw [htake, List.mem_append, List.mem_singleton]
              constructor
              · intro hu
                have := (hDt u).1 hu
                exact ⟨this.1, this.2.elim .inl fun hh => .inr (.inl hh)⟩
              · rintro ⟨a, h1 | h1 | h1⟩
                · exact (hDt u).2 ⟨a, .inl h1⟩
                · exact (hDt u).2 ⟨a, .inr h1⟩
                · rw [h1]; exact hin
          · rw [ewt]
            refine ih2 (t + 1) H4 D (by omega) (by omega) e4 s4 hD fun u => ?_
            rw [hDt, htake, List.mem_append, List.mem_singleton]
            constructor
            · rintro ⟨a, h1 | h1⟩
              · exact ⟨a, .inl h1⟩
              · exact ⟨a, .inr (.inl h1)⟩
            · rintro ⟨a, h1 | h1 | h1⟩
              · exact ⟨a, .inl h1⟩
              · exact ⟨a, .inr h1⟩
              · omega
      refine inner _ 0 H3 D rfl (by omega) (e2.trans e3) (e3 _ _ s2) hD fun u => ?_
      rw [hDt]
      simp
  exact outer _ 0 H1 [] rfl (by omega) e1 s1 List.nodup_nil (fun t => ⟨fun hh => (by cases hh), fun ⟨_, j', _, hj', _⟩ => absurd hj' (by omega)⟩)

end Go.Proofs
