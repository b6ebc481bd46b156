/-
  OWN WORK. The book and the planes are alike: what is taken, what is used.
-/
import Derived.Test.YtcbnifopfdgniaaTileCa
set_option linter.unusedVariables false
set_option linter.unusedSimpArgs false
namespace Go.Proofs
open Go.Sh Go.Tile

def inK (k : Bk) (K L : Int) : Prop := 0 ≤ K ∧ K < k.wide ∧ 0 ≤ L ∧ L < (k.h + 15) / 16
def tlAt (k : Bk) (q : BPl) (K L : Int) : Int := q.tl.getD (L * k.wide + K).toNat 0

structure Rel (s : St) (k : Bk) : Prop where
  len : s.pls.length = k.pl.length
  wh : ∀ p ∈ s.pls, p.w = k.w ∧ p.h = k.h
  px : ∀ (j : Nat) p q, s.pls[j]? = some p → k.pl[j]? = some q → ∀ X Y, 0 ≤ X → X < k.w → 0 ≤ Y → Y < k.h → q.px[(Y * k.w + X).toNat]? = some (pxAt s p X Y)
  keys : ∀ p ∈ s.pls, ∀ K L, tileOf p.en K L ≠ none → inK k K L
  zero : ∀ (j : Nat) p q, s.pls[j]? = some p → k.pl[j]? = some q → ∀ K L, inK k K L → (tlAt k q K L = 0 ↔ tileOf p.en K L = none)
  rng : ∀ q ∈ k.pl, ∀ t ∈ q.tl, 0 ≤ t ∧ t ≤ k.next
  same : ∀ (j : Nat) p q (j' : Nat) p' q', s.pls[j]? = some p → k.pl[j]? = some q → s.pls[j']? = some p' → k.pl[j']? = some q' → ∀ K L K' L', inK k K L → inK k K' L' → tlAt k q K L ≠ 0 →
    (tlAt k q K L = tlAt k q' K' L' ↔ tileOf p.en K L = tileOf p'.en K' L')
  keyed : ∀ p ∈ s.pls, ∀ p' ∈ s.pls, ∀ K L K' L' t, tileOf p.en K L = some t → tileOf p'.en K' L' = some t → K = K' ∧ L = L'

theorem BDim.key {k : Bk} (d : BDim k) {K L : Int} (h : inK k K L) : 0 ≤ L * k.wide + K ∧ L * k.wide + K < k.wide * ((k.h + 15) / 16) := by
  obtain ⟨h0, h1, h2, h3⟩ := h
  obtain ⟨_, _, _, _, s1, s2⟩ := d.size
  generalize (k.h + 15) / 16 = T at *
  have m0 : 0 ≤ L * k.wide := Int.mul_nonneg h2 (by omega)
  have m1 : (L + 1) * k.wide ≤ T * k.wide := Int.mul_le_mul_of_nonneg_right (by omega) (by omega)
  rw [Int.add_mul] at m1
  rw [Int.mul_comm k.wide T]
  omega

theorem BDim.unkey {k : Bk} (d : BDim k) {a : Int} (h0 : 0 ≤ a) (h1 : a < k.wide * ((k.h + 15) / 16)) : inK k (a % k.wide) (a / k.wide) ∧ a / k.wide * k.wide + a % k.wide = a := by
  obtain ⟨_, _, _, _, s1, s2⟩ := d.size
  refine ⟨⟨Int.emod_nonneg _ (by omega), Int.emod_lt_of_pos _ (by omega), Int.ediv_nonneg h0 (by omega), Int.ediv_lt_of_lt_mul (by omega) (by rw [Int.mul_comm]; exact h1)⟩, ?_⟩
  rw [Int.mul_comm]; exact Int.mul_ediv_add_emod a k.wide

theorem BDim.tl_get {k : Bk} (d : BDim k) {q : BPl} (hq : q ∈ k.pl) {K L : Int} (h : inK k K L) : q.tl[(L * k.wide + K).toNat]? = some (tlAt k q K L) := by
  have := d.key h
  have := d.tl q hq
  have hl : (L * k.wide + K).toNat < q.tl.length := by omega
  unfold tlAt
  rw [List.getD_eq_getElem?_getD, List.getElem?_eq_getElem hl]; rfl

theorem BDim.xyk {k : Bk} (d : BDim k) {p : Int} (h0 : 0 ≤ p) (h1 : p < k.w * k.h) : inK k (p % k.w / 16) (p / k.w / 16) ∧ k.at p = p / k.w / 16 * k.wide + p % k.w / 16 ∧ p / k.w * k.w + p % k.w = p := by
  obtain ⟨a, b, c, e⟩ := d.xy h0 h1
  have := d.wd
  refine ⟨⟨by omega, by omega, by omega, by omega⟩, rfl, ?_⟩
  rw [Int.mul_comm]; exact Int.mul_ediv_add_emod p k.w

theorem count_le {α β : Type} (r : α → β → Prop) : ∀ {l : List α} {m : List β}, l.Nodup → (∀ a ∈ l, ∃ b ∈ m, r a b) → (∀ a ∈ l, ∀ a' ∈ l, ∀ b, r a b → r a' b → a = a') → l.length ≤ m.length
  | [], m, _, _, _ => Nat.zero_le _
  | a :: l, m, hn, h, hi => by
    haveI : DecidableEq β := fun a b => Classical.propDecidable (a = b)
    rw [List.nodup_cons] at hn
    obtain ⟨b, hb, hr⟩ := h a List.mem_cons_self
    have := count_le r (m := m.erase b) hn.2 (fun a' ha' => by
      obtain ⟨b', hb', hr'⟩ := h a' (List.mem_cons_of_mem _ ha')
      refine ⟨b', ?_, hr'⟩
      refine (List.mem_erase_of_ne fun hh => ?_).2 hb'
      subst hh
      have := hi a List.mem_cons_self a' (List.mem_cons_of_mem _ ha') b' hr hr'
      subst this
      exact hn.1 ha') (fun a1 h1 a2 h2 => hi a1 (List.mem_cons_of_mem _ h1) a2 (List.mem_cons_of_mem _ h2))
    have hl := List.length_erase_of_mem hb
    have hp : 0 < m.length := List.length_pos_of_mem hb
    rw [List.length_cons]
    omega

theorem refs_ex {pls : List Pl} {t : Nat} (h : 0 < refs pls t) : ∃ p ∈ pls, ∃ e ∈ p.en, e.t = t := by
  induction pls with
  | nil => simp [refs] at h
  | cons q r ih =>
    unfold refs at h
    by_cases hq : 0 < q.en.countP (·.t == t)
    · obtain ⟨e, he, het⟩ := List.countP_pos_iff.1 hq
      exact ⟨q, List.mem_cons_self, e, he, by simpa using het⟩
    · obtain ⟨p, hp, e, he, het⟩ := ih (by omega)
      exact ⟨p, List.mem_cons_of_mem _ hp, e, he, het⟩

theorem refs_other {pls : List Pl} {t i : Nat} {p : Pl} (hp : pls[i]? = some p) (h1 : p.en.countP (·.t == t) ≤ 1) (h : 2 ≤ refs pls t) : ∃ j p', j ≠ i ∧ pls[j]? = some p' ∧ ∃ e ∈ p'.en, e.t = t := by
  have := refs_set (p' := bare p) hp t
  have hb : (bare p).en.countP (·.t == t) = 0 := rfl
  obtain ⟨p', hp', e, he, het⟩ := refs_ex (pls := pls.set i (bare p)) (t := t) (by omega)
  obtain ⟨j, hj⟩ := List.getElem?_of_mem hp'
  rw [List.getElem?_set] at hj
  by_cases hij : i = j
  · subst hij
    rw [if_pos rfl, if_pos (List.getElem?_eq_some_iff.1 hp).1] at hj
    cases hj
    cases he
  · rw [if_neg hij] at hj
    exact ⟨j, p', fun hh => hij hh.symm, hj, e, he, het⟩

section
variable {cap : Int} {s : St} {k : Bk} (d : BDim k) (r : Rel s k) (hok : Ok cap s)
include r
theorem Rel.get {j : Nat} {p : Pl} (hp : s.pls[j]? = some p) : ∃ q, k.pl[j]? = some q := by
  have := (List.getElem?_eq_some_iff.1 hp).1
  exact ⟨_, List.getElem?_eq_getElem (by rw [← r.len]; exact this)⟩
theorem Rel.get' {j : Nat} {q : BPl} (hq : k.pl[j]? = some q) : ∃ p, s.pls[j]? = some p := by
  have := (List.getElem?_eq_some_iff.1 hq).1
  exact ⟨_, List.getElem?_eq_getElem (by rw [r.len]; exact this)⟩
include d hok

theorem Rel.used {D : List Int} (hD : UsedB k D) : D.length = s.ts.length := by
  have hts : (s.ts.map (·.1)).length = s.ts.length := by simp
  have ex1 : ∀ n ∈ D, ∃ t ∈ s.ts.map (·.1), ∃ (j : Nat) (p : Pl) (q : BPl) (K L : Int), s.pls[j]? = some p ∧ k.pl[j]? = some q ∧ inK k K L ∧ tlAt k q K L = n ∧ n ≠ 0 ∧ tileOf p.en K L = some t := by
    intro n hn
    obtain ⟨h0, q, hq, hnq⟩ := (hD.mem n).1 hn
    obtain ⟨j, hj⟩ := List.getElem?_of_mem hq
    obtain ⟨p, hp⟩ := r.get' hj
    obtain ⟨a, ha⟩ := List.getElem?_of_mem hnq
    have hal := (List.getElem?_eq_some_iff.1 ha).1
    have htl := d.tl q hq
    obtain ⟨hin, hk⟩ := d.unkey (a := (a : Int)) (by omega) (by omega)
    have hget := d.tl_get hq hin
    rw [hk, Int.toNat_natCast, ha] at hget
    have hv : tlAt k q (a % k.wide) (a / k.wide) = n := (Option.some.inj hget).symm
    have hz := not_congr (r.zero j p q hp hj _ _ hin)
    rw [hv] at hz
    cases ht : tileOf p.en (a % k.wide) (a / k.wide) with
    | none => exact absurd ht (hz.1 (by omega))
    | some t => exact ⟨t, (refs_of_tile hok (List.mem_of_getElem? hp) ht).2, j, p, q, _, _, hp, hj, hin, hv, by omega, ht⟩
  have ex2 : ∀ t ∈ s.ts.map (·.1), ∃ n ∈ D, ∃ (j : Nat) (p : Pl) (q : BPl) (K L : Int), s.pls[j]? = some p ∧ k.pl[j]? = some q ∧ inK k K L ∧ tlAt k q K L = n ∧ n ≠ 0 ∧ tileOf p.en K L = some t := by
    intro t ht
    obtain ⟨p, hp, e, he, het⟩ := refs_ex ((hok.live t).2 ht)
    obtain ⟨j, hj⟩ := List.getElem?_of_mem hp
    obtain ⟨q, hq⟩ := r.get hj
    have hqm := List.mem_of_getElem? hq
    have hto := tileOf_of_mem (hok.pl p hp).keys he
    have hin := r.keys p hp e.x e.y (by rw [hto]; exact fun hh => by cases hh)
    have hz := (not_congr (r.zero j p q hj hq _ _ hin)).2 (by rw [hto]; exact fun hh => by cases hh)
    have hm := List.mem_of_getElem? (d.tl_get hqm hin)
    have := r.rng q hqm _ hm
    exact ⟨_, (hD.mem _).2 ⟨by omega, q, hqm, hm⟩, j, p, q, _, _, hj, hq, hin, rfl, hz, by rw [hto, het]⟩
  have l1 := count_le _ hD.nd ex1 (fun n hn n' hn' t h h' => by
    obtain ⟨j, p, q, K, L, a1, a2, a3, a4, a5, a6⟩ := h
    obtain ⟨j', p', q', K', L', b1, b2, b3, b4, b5, b6⟩ := h'
    rw [← a4, ← b4]
    exact (r.same j p q j' p' q' a1 a2 b1 b2 K L K' L' a3 b3 (by rw [a4]; exact a5)).2 (by rw [a6, b6]))
  have l2 := count_le _ hok.ts ex2 (fun t ht t' ht' n h h' => by
    obtain ⟨j, p, q, K, L, a1, a2, a3, a4, a5, a6⟩ := h
    obtain ⟨j', p', q', K', L', b1, b2, b3, b4, b5, b6⟩ := h'
    have := (r.same j p q j' p' q' a1 a2 b1 b2 K L K' L' a3 b3 (by rw [a4]; exact a5)).1 (by rw [a4, b4])
    rw [a6, b6] at this
    exact Option.some.inj this)
  omega

theorem Rel.needs {i : Nat} {p : Pl} {q : BPl} (hp : s.pls[i]? = some p) (hq : k.pl[i]? = some q) {K L : Int} (hin : inK k K L) : needsB k i (L * k.wide + K).toNat q ↔ needs s p K L = true := by
  have hqm := List.mem_of_getElem? hq
  have hpm := List.mem_of_getElem? hp
  have hg := d.tl_get hqm hin
  have hz := r.zero i p q hp hq K L hin
  unfold needsB sharedB Go.Tile.needs
  rw [hg]
  cases ht : tileOf p.en K L with
  | none => simp [hz.2 ht]
  | some t =>
    have hnz : tlAt k q K L ≠ 0 := fun hh => by rw [hz.1 hh] at ht; cases ht
    have hone := hok.one p hpm t
    have h1 := (refs_of_tile hok hpm ht).1
    obtain ⟨e, he, _, het⟩ := tileOf_mem ht
    have hc1 : 1 ≤ p.en.countP (·.t == t) := List.countP_pos_iff.2 ⟨e, he, by simp [het]⟩
    constructor
    · rintro (hh | ⟨j, q', hji, hq', hh⟩)
      · exact absurd (Option.some.inj hh) hnz
      · obtain ⟨p', hp'⟩ := r.get' hq'
        rw [d.tl_get (List.mem_of_getElem? hq') hin] at hh
        have := (r.same i p q j p' q' hp hq hp' hq' K L K L hin hin hnz).1 (Option.some.inj hh).symm
        rw [ht] at this
        obtain ⟨e', he', _, het'⟩ := tileOf_mem this.symm
        have hc2 : 1 ≤ p'.en.countP (·.t == t) := List.countP_pos_iff.2 ⟨e', he', by simp [het']⟩
        have := refs_two (Ne.symm (Ne.symm hji)) hp hp' t
        have hne : refs s.pls t ≠ 1 := by omega
        simp [hne]
    · intro hh
      have hne : refs s.pls t ≠ 1 := by simpa using hh
      obtain ⟨j, p', hji, hp', e', he', het'⟩ := refs_other hp hone (t := t) (by omega)
      obtain ⟨q', hq'⟩ := r.get hp'
      have hto := tileOf_of_mem (hok.pl p' (List.mem_of_getElem? hp')).keys he'
      rw [het'] at hto
      obtain ⟨e1, e2⟩ := r.keyed p hpm p' (List.mem_of_getElem? hp') _ _ _ _ t ht hto
      rw [← e1, ← e2] at hto
      refine .inr ⟨j, q', hji, hq', ?_⟩
      rw [d.tl_get (List.mem_of_getElem? hq') hin]
      rw [(r.same i p q j p' q' hp hq hp' hq' K L K L hin hin hnz).2 (by rw [ht, hto])]

theorem Rel.hit {i : Nat} {p : Pl} {q : BPl} (hp : s.pls[i]? = some p) (hq : k.pl[i]? = some q) {v z : Int} (h0 : 0 ≤ z) (h1 : z < k.w * k.h) : hitB k i q v z ↔ hit s p v (z % k.w, z / k.w) := by
  obtain ⟨hin, hat, hz⟩ := d.xyk h0 h1
  obtain ⟨x0, x1, x2, x3⟩ := d.xy h0 h1
  have hpx := r.px i p q hp hq _ _ x2 x3 x0 x1
  rw [hz] at hpx
  unfold hitB Go.Tile.hit
  rw [hpx, hat, r.needs d hok hp hq hin]
  simp

theorem Rel.takes {i : Nat} {p : Pl} {q : BPl} (hp : s.pls[i]? = some p) (hq : k.pl[i]? = some q) {v : Int} {L C : List Int} {cs : List (Int × Int)} (hL : ∀ z ∈ L, 0 ≤ z ∧ z < k.w * k.h)
    (hcs : ∀ X Y, (X, Y) ∈ cs ↔ ∃ z ∈ L, X = z % k.w ∧ Y = z / k.w) (hC : TakesB k i q L v C) :
    (∀ K L, (K, L) ∈ needKeys s p v cs [] ↔ inK k K L ∧ L * k.wide + K ∈ C) ∧ C.length = (needKeys s p v cs []).length := by
  have hm : ∀ K L, (K, L) ∈ needKeys s p v cs [] ↔ inK k K L ∧ L * k.wide + K ∈ C := fun K L' => by
    rw [mem_needKeys, hC.mem]
    constructor
    · rintro (hh | ⟨⟨X, Y⟩, hc, hh, he⟩)
      · cases hh
      · obtain ⟨z, hz, rfl, rfl⟩ := (hcs X Y).1 hc
        obtain ⟨h0, h1⟩ := hL z hz
        obtain ⟨hin, hat, _⟩ := d.xyk h0 h1
        cases he
        exact ⟨hin, z, hz, (r.hit d hok hp hq h0 h1).2 hh, hat.symm⟩
    · rintro ⟨hin, z, hz, hh, he⟩
      obtain ⟨h0, h1⟩ := hL z hz
      obtain ⟨hin', hat, _⟩ := d.xyk h0 h1
      rw [hat] at he
      obtain ⟨rfl, rfl⟩ := d.at_inj ⟨hin.1, hin.2.1⟩ ⟨hin'.1, hin'.2.1⟩ he
      exact .inr ⟨(z % k.w, z / k.w), (hcs _ _).2 ⟨z, hz, rfl, rfl⟩, (r.hit d hok hp hq h0 h1).1 hh, rfl⟩
  refine ⟨hm, Nat.le_antisymm ?_ ?_⟩
  · refine count_le (fun a (c : Int × Int) => inK k c.1 c.2 ∧ a = c.2 * k.wide + c.1) hC.nd (fun a ha => ?_) (fun a _ a' _ b h h' => by rw [h.2, h'.2])
    obtain ⟨z, hz, hh, rfl⟩ := (hC.mem a).1 ha
    obtain ⟨h0, h1⟩ := hL z hz
    obtain ⟨hin, hat, _⟩ := d.xyk h0 h1
    refine ⟨(z % k.w / 16, z / k.w / 16), (hm _ _).2 ⟨hin, ?_⟩, hin, hat⟩
    rw [← hat]; exact ha
  · refine count_le (fun (c : Int × Int) a => inK k c.1 c.2 ∧ a = c.2 * k.wide + c.1) (nodup_needKeys s p v cs [] List.nodup_nil) (fun c hc => ?_) (fun c _ c' _ b h h' => ?_)
    · obtain ⟨hin, ha⟩ := (hm c.1 c.2).1 hc
      exact ⟨_, ha, hin, rfl⟩
    · obtain ⟨e1, e2⟩ := d.at_inj ⟨h.1.1, h.1.2.1⟩ ⟨h'.1.1, h'.1.2.1⟩ (h.2.symm.trans h'.2)
      exact Prod.ext e1 e2

end
end Go.Proofs
