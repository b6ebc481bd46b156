/-
  OWN WORK. The book and the planes stay alike: writes, snapshots, drops.
-/
import Derived.Test.YtcbnifopfdgniaaTileCb
set_option linter.unusedVariables false
set_option linter.unusedSimpArgs false
namespace Go.Proofs
open Go.Sh Go.Tile

theorem wrote_get {k : Bk} {i : Nat} {q : BPl} (hq : k.pl[i]? = some q) {L : List Int} {v : Int} {r : Int × List Int} {j : Nat} {q1 : BPl} (h : (k.wrote i q L v r).pl[j]? = some q1) :
    (j = i ∧ q1 = { q with px := pxAll L v q.px, tl := r.2 }) ∨ (j ≠ i ∧ k.pl[j]? = some q1) := by
  unfold Bk.wrote at h
  simp only at h
  rw [List.getElem?_set] at h
  by_cases hij : i = j
  · rw [if_pos hij] at h
    split at h
    · cases h; exact .inl ⟨hij.symm, rfl⟩
    · cases h
  · rw [if_neg hij] at h; exact .inr ⟨fun hh => hij hh.symm, h⟩

theorem BDim.wrote {k : Bk} (d : BDim k) {i : Nat} {q : BPl} (hq : k.pl[i]? = some q) {L : List Int} {v : Int} {r : Int × List Int} (hr : r.2.length = q.tl.length) : BDim (k.wrote i q L v r) := by
  have hqm := List.mem_of_getElem? hq
  refine ⟨d.w0, d.w1, d.h0, d.h1, d.wd, fun p hp => ?_, fun p hp => ?_⟩ <;>
  · obtain ⟨j, hj⟩ := List.getElem?_of_mem hp
    rcases wrote_get hq hj with ⟨_, rfl⟩ | ⟨_, hj⟩
    · first | exact (by rw [show (pxAll L v q.px).length = q.px.length from pxAll_len _ _ _]; exact d.px q hqm) | exact (by rw [show r.2.length = q.tl.length from hr]; exact d.tl q hqm)
    · first | exact d.px p (List.mem_of_getElem? hj) | exact d.tl p (List.mem_of_getElem? hj)

theorem Apart.wrote {k : Bk} (h : Apart k) {i : Nat} {q : BPl} (hq : k.pl[i]? = some q) (L : List Int) (v : Int) (r : Int × List Int) : Apart (k.wrote i q L v r) :=
  (h.nxt r.1).put (q := q) (q' := { q with px := pxAll L v q.px, tl := r.2 }) (i := i) hq rfl rfl

set_option maxHeartbeats 1000000 in
theorem Rel.wrote {cap : Int} {s s' : St} {k : Bk} (d : BDim k) (r : Rel s k) (hok : Ok cap s) (n0 : 0 ≤ k.next) {i : Nat} {p p' : Pl} {q : BPl} (hp : s.pls[i]? = some p) (hq : k.pl[i]? = some q) {v : Int} {L C : List Int} {cs : List (Int × Int)}
    (hL : ∀ z ∈ L, 0 ≤ z ∧ z < k.w * k.h) (hcs : ∀ X Y, (X, Y) ∈ cs ↔ ∃ z ∈ L, X = z % k.w ∧ Y = z / k.w) (hC : TakesB k i q L v C) (pt : Painted cap i v s p cs s' p') :
    Rel s' (k.wrote i q L v (fillT C q.tl.length (k.next, q.tl))) := by
  have hqm := List.mem_of_getElem? hq
  have hpm := List.mem_of_getElem? hp
  obtain ⟨hm, _⟩ := r.takes d hok hp hq hL hcs hC
  have fo := fillT_ok C k.next q.tl q.tl.length (Nat.le_refl _)
  generalize fillT C q.tl.length (k.next, q.tl) = z at fo
  have gs : ∀ (j : Nat) (p1 : Pl), s'.pls[j]? = some p1 → (j = i ∧ p1 = p') ∨ (j ≠ i ∧ s.pls[j]? = some p1) := fun j p1 h => by
    by_cases hji : j = i
    · subst hji; rw [pt.pk] at h; cases h; exact .inl ⟨rfl, rfl⟩
    · rw [pt.oth j hji] at h; exact .inr ⟨hji, h⟩
  have hlen : s'.pls.length = s.pls.length := pt.views.len
  have main : ∀ (j : Nat) (p1 : Pl) (q1 : BPl), s'.pls[j]? = some p1 → (k.wrote i q L v z).pl[j]? = some q1 → ∀ K L', inK k K L' →
      (∃ p0 q0, s.pls[j]? = some p0 ∧ k.pl[j]? = some q0 ∧ tlAt k q1 K L' = tlAt k q0 K L' ∧ tileOf p1.en K L' = tileOf p0.en K L') ∨
      (j = i ∧ p1 = p' ∧ L' * k.wide + K ∈ C ∧ z.2[(L' * k.wide + K).toNat]? = some (tlAt k q1 K L') ∧ k.next < tlAt k q1 K L' ∧ tlAt k q1 K L' ≤ z.1 ∧ ∃ n, tileOf p1.en K L' = some n ∧ n ∉ s.ts.map (·.1)) := by
    intro j p1 q1 h1 h2 K L' hin
    rcases gs j p1 h1 with ⟨rfl, rfl⟩ | ⟨hji, h1⟩
    · rcases wrote_get hq h2 with ⟨_, rfl⟩ | ⟨hh, _⟩
      · have hkey := d.key hin
        have htl := d.tl q hqm
        have hal : (L' * k.wide + K).toNat < q.tl.length := by omega
        have hcast : ((L' * k.wide + K).toNat : Int) = L' * k.wide + K := by omega
        by_cases hc : L' * k.wide + K ∈ C
        · right
          obtain ⟨m, e1, e2, e3⟩ := fo.new _ hal (by rw [hcast]; exact hc)
          have hv : tlAt k { q with px := pxAll L v q.px, tl := z.2 } K L' = m := by
            unfold tlAt
            rw [List.getD_eq_getElem?_getD, e1]; rfl
          rw [hv]
          exact ⟨rfl, rfl, hc, e1, e2, e3, pt.new K L' ((hm K L').2 ⟨hin, hc⟩)⟩
        · left
          refine ⟨p, q, hp, hq, ?_, pt.keep K L' fun hh => hc ((hm K L').1 hh).2⟩
          unfold tlAt
          rw [List.getD_eq_getElem?_getD, List.getD_eq_getElem?_getD]
          rw [fo.old _ fun hh => hc (by rw [hcast] at hh; exact hh.2)]
      · exact absurd rfl hh
    · rcases wrote_get hq h2 with ⟨hh, _⟩ | ⟨_, h2⟩
      · exact absurd hh hji
      · exact .inl ⟨p1, q1, h1, h2, rfl, rfl⟩
  have outk : ∀ (j : Nat) (p1 : Pl), s'.pls[j]? = some p1 → ∀ K L', ¬ inK k K L' → tileOf p1.en K L' = none := fun j p1 h1 K L' hn => by
    rcases gs j p1 h1 with ⟨rfl, rfl⟩ | ⟨hji, h1⟩
    · rw [pt.keep K L' fun hh => hn ((hm K L').1 hh).1]
      exact Classical.byContradiction fun hh => hn (r.keys p hpm K L' hh)
    · exact Classical.byContradiction fun hh => hn (r.keys p1 (List.mem_of_getElem? h1) K L' hh)
  have old_in : ∀ (j : Nat) (p0 : Pl), s.pls[j]? = some p0 → ∀ K L' t, tileOf p0.en K L' = some t → t ∈ s.ts.map (·.1) := fun j p0 h K L' t ht => (refs_of_tile hok (List.mem_of_getElem? h) ht).2
  have getk : ∀ (j : Nat) (p1 : Pl), s'.pls[j]? = some p1 → ∃ q1, (k.wrote i q L v z).pl[j]? = some q1 := fun j p1 h => by
    have := (List.getElem?_eq_some_iff.1 h).1
    refine ⟨_, List.getElem?_eq_getElem ?_⟩
    show j < (k.pl.set i _).length
    rw [List.length_set, ← r.len, ← hlen]; exact this
  refine ⟨?_, ?_, ?_, ?_, ?_, ?_, ?_, ?_⟩
  · show s'.pls.length = (k.pl.set i _).length
    rw [List.length_set, hlen, r.len]
  · intro p1 hp1
    obtain ⟨j, hj⟩ := List.getElem?_of_mem hp1
    rcases gs j p1 hj with ⟨rfl, rfl⟩ | ⟨_, hj⟩
    · have := r.wh p hpm
      exact ⟨pt.like.w.trans this.1, pt.like.h.trans this.2⟩
    · exact r.wh p1 (List.mem_of_getElem? hj)
  · intro j p1 q1 h1 h2 X Y x0 x1 y0 y1
    replace x1 : X < k.w := x1
    replace y1 : Y < k.h := y1
    have hview : ∀ p0, s.pls[j]? = some p0 → pxAt s' p1 X Y = putAll i cs v j X Y (pxAt s p0 X Y) := fun p0 h0 => by
      obtain ⟨q', e1, _, e2⟩ := pt.views.pl j p0 h0
      rw [h1] at e1; cases e1
      exact e2 X Y
    rcases gs j p1 h1 with ⟨rfl, rfl⟩ | ⟨hji, h1'⟩
    · rcases wrote_get hq h2 with ⟨_, rfl⟩ | ⟨hh, _⟩
      · rw [hview p hp]
        have hpx := r.px j p q hp hq X Y x0 x1 y0 y1
        have hlt := (List.getElem?_eq_some_iff.1 hpx).1
        show (pxAll L v q.px)[(Y * k.w + X).toNat]? = _
        rw [pxAll_get v L q.px _ hlt fun z hz => (hL z hz).1, hpx]
        have hn : 0 ≤ Y * k.w := Int.mul_nonneg y0 (by have := d.w0; omega)
        have hcast : ((Y * k.w + X).toNat : Int) = Y * k.w + X := by omega
        unfold putAll
        rw [hcast]
        have hiff : Y * k.w + X ∈ L ↔ (X, Y) ∈ cs := by
          rw [hcs]
          have hw := d.w0
          constructor
          · intro hin
            refine ⟨_, hin, ?_, ?_⟩
            · rw [Int.add_comm, Int.add_mul_emod_self_right]; exact (Int.emod_eq_of_lt x0 x1).symm
            · rw [Int.add_comm, Int.add_mul_ediv_right _ _ (by omega), Int.ediv_eq_zero_of_lt x0 x1]; omega
          · rintro ⟨u, hu, rfl, rfl⟩
            rw [(d.xyk (hL u hu).1 (hL u hu).2).2.2]; exact hu
        by_cases hin : (X, Y) ∈ cs
        · rw [if_pos (hiff.2 hin), if_pos ⟨rfl, hin⟩]
        · rw [if_neg (fun hh => hin (hiff.1 hh)), if_neg (fun hh => hin hh.2)]
      · exact absurd rfl hh
    · rcases wrote_get hq h2 with ⟨hh, _⟩ | ⟨_, h2⟩
      · exact absurd hh hji
      · rw [hview p1 h1']
        unfold putAll
        rw [if_neg (fun hh => hji hh.1)]
        exact r.px j p1 q1 h1' h2 X Y x0 x1 y0 y1
  · intro p1 hp1 K L' hne
    obtain ⟨j, hj⟩ := List.getElem?_of_mem hp1
    exact Classical.byContradiction fun hh => hne (outk j p1 hj K L' hh)
  · intro j p1 q1 h1 h2 K L' hin
    show tlAt k q1 K L' = 0 ↔ _
    rcases main j p1 q1 h1 h2 K L' hin with ⟨p0, q0, a1, a2, a3, a4⟩ | ⟨_, _, _, _, a1, _, n, a2, _⟩
    · rw [a3, a4]; exact r.zero j p0 q0 a1 a2 K L' hin
    · rw [a2]
      constructor
      · intro hh; omega
      · intro hh; cases hh
  · intro q1 hq1 t ht
    obtain ⟨j, hj⟩ := List.getElem?_of_mem hq1
    have hz := fo.lo
    show 0 ≤ t ∧ t ≤ z.1
    rcases wrote_get hq hj with ⟨_, rfl⟩ | ⟨_, hj⟩
    · obtain ⟨a, ha⟩ := List.getElem?_of_mem ht
      have ha' : z.2[a]? = some t := ha
      by_cases hc : a < q.tl.length ∧ (a : Int) ∈ C
      · obtain ⟨m, e1, e2, e3⟩ := fo.new a hc.1 hc.2
        rw [ha'] at e1; cases e1
        omega
      · rw [fo.old a hc] at ha'
        have := r.rng q hqm t (List.mem_of_getElem? ha')
        omega
    · have := r.rng q1 (List.mem_of_getElem? hj) t ht
      omega
  · intro j p1 q1 j' p2 q2 h1 h2 h3 h4 K L1 K' L2 hin hin' hnz
    show tlAt k q1 K L1 = tlAt k q2 K' L2 ↔ _
    have hnz' : tlAt k q1 K L1 ≠ 0 := hnz
    have oldrng : ∀ (j : Nat) (q0 : BPl), k.pl[j]? = some q0 → ∀ K L', inK k K L' → tlAt k q0 K L' ≤ k.next := fun j q0 h K L' hi =>
      (r.rng q0 (List.mem_of_getElem? h) _ (List.mem_of_getElem? (d.tl_get (List.mem_of_getElem? h) hi))).2
    rcases main j p1 q1 h1 h2 K L1 hin with ⟨p0, q0, a1, a2, a3, a4⟩ | ⟨rfl, rfl, a0, aa, a1, a2, n, a3, a4⟩
    · rcases main j' p2 q2 h3 h4 K' L2 hin' with ⟨p0', q0', b1, b2, b3, b4⟩ | ⟨rfl, rfl, b0, bb, b1, b2, n, b3, b4⟩
      · rw [a3, a4, b3, b4]
        exact r.same j p0 q0 j' p0' q0' a1 a2 b1 b2 K L1 K' L2 hin hin' (by rw [← a3]; exact hnz')
      · rw [a3, a4, b3]
        have := oldrng j q0 a2 K L1 hin
        constructor
        · intro hh; omega
        · intro hh; exact absurd (old_in j p0 a1 K L1 n hh) b4
    · rcases main j' p2 q2 h3 h4 K' L2 hin' with ⟨p0', q0', b1, b2, b3, b4⟩ | ⟨rfl, rfl, b0, bb, b1, b2, n', b3, b4⟩
      · rw [a3, b3, b4]
        have := oldrng j' q0' b2 K' L2 hin'
        constructor
        · intro hh; omega
        · intro hh; exact absurd (old_in j' p0' b1 K' L2 n hh.symm) a4
      · have k1 := d.key hin
        have k2 := d.key hin'
        have htl := d.tl q hqm
        constructor
        · intro hh
          rw [hh, ← bb] at aa
          have := fo.inj _ _ (by omega) (by omega) (by rw [show ((L1 * k.wide + K).toNat : Int) = L1 * k.wide + K by omega]; exact a0) (by rw [show ((L2 * k.wide + K').toNat : Int) = L2 * k.wide + K' by omega]; exact b0) aa
          obtain ⟨rfl, rfl⟩ := d.at_inj ⟨hin.1, hin.2.1⟩ ⟨hin'.1, hin'.2.1⟩ (show L1 * k.wide + K = L2 * k.wide + K' by omega)
          rfl
        · intro hh
          rw [a3] at hh
          obtain ⟨rfl, rfl⟩ := tile_inj pt.ok (List.mem_of_getElem? h1) a3 hh.symm
          rw [h2] at h4; cases h4
          rfl
  · intro p1 hp1 p2 hp2 K L1 K' L2 t ht ht'
    obtain ⟨j, hj⟩ := List.getElem?_of_mem hp1
    obtain ⟨j', hj'⟩ := List.getElem?_of_mem hp2
    obtain ⟨q1, hq1⟩ := getk j p1 hj
    obtain ⟨q2, hq2⟩ := getk j' p2 hj'
    have hin : inK k K L1 := Classical.byContradiction fun hh => by rw [outk j p1 hj K L1 hh] at ht; cases ht
    have hin' : inK k K' L2 := Classical.byContradiction fun hh => by rw [outk j' p2 hj' K' L2 hh] at ht'; cases ht'
    rcases main j p1 q1 hj hq1 K L1 hin with ⟨p0, q0, a1, a2, a3, a4⟩ | ⟨rfl, rfl, a0, aa, a1, a2, n, a3, a4⟩
    · rcases main j' p2 q2 hj' hq2 K' L2 hin' with ⟨p0', q0', b1, b2, b3, b4⟩ | ⟨rfl, rfl, b0, bb, b1, b2, n, b3, b4⟩
      · exact r.keyed p0 (List.mem_of_getElem? a1) p0' (List.mem_of_getElem? b1) K L1 K' L2 t (by rw [← a4]; exact ht) (by rw [← b4]; exact ht')
      · rw [ht'] at b3; cases b3
        exact absurd (old_in j p0 a1 K L1 t (by rw [← a4]; exact ht)) b4
    · rw [ht] at a3; cases a3
      rcases main j' p2 q2 hj' hq2 K' L2 hin' with ⟨p0', q0', b1, b2, b3, b4⟩ | ⟨rfl, rfl, b0, bb, b1, b2, n', b3, b4⟩
      · exact absurd (old_in j' p0' b1 K' L2 t (by rw [← b4]; exact ht')) a4
      · exact tile_inj pt.ok (List.mem_of_getElem? hj) ht ht'

/-- New planes: each is as an old one, or empty. -/
theorem Rel.copy {s s' : St} {k k' : Bk} (r : Rel s k) (hlen : s'.pls.length = k'.pl.length) (hw : k'.w = k.w) (hh : k'.h = k.h) (hwd : k'.wide = k.wide) (hn : k'.next = k.next) (n0 : 0 ≤ k.next)
    (h : ∀ (j : Nat) (p1 : Pl) (q1 : BPl), s'.pls[j]? = some p1 → k'.pl[j]? = some q1 → p1.w = k.w ∧ p1.h = k.h ∧
      ((∃ (j0 : Nat) (p0 : Pl) (q0 : BPl), s.pls[j0]? = some p0 ∧ k.pl[j0]? = some q0 ∧ (∀ K L, tileOf p1.en K L = tileOf p0.en K L) ∧ (∀ X Y, pxAt s' p1 X Y = pxAt s p0 X Y) ∧ q1.px = q0.px ∧ q1.tl = q0.tl) ∨
       ((∀ K L, tileOf p1.en K L = none) ∧ (∀ X Y, pxAt s' p1 X Y = 0) ∧ (∀ X Y, 0 ≤ X → X < k.w → 0 ≤ Y → Y < k.h → q1.px[(Y * k.w + X).toNat]? = some 0) ∧ ∀ t ∈ q1.tl, t = 0))) : Rel s' k' := by
  have getk : ∀ (j : Nat) (p1 : Pl), s'.pls[j]? = some p1 → ∃ q1, k'.pl[j]? = some q1 := fun j p1 h => by
    have := (List.getElem?_eq_some_iff.1 h).1
    exact ⟨_, List.getElem?_eq_getElem (by omega)⟩
  have gets : ∀ (j : Nat) (q1 : BPl), k'.pl[j]? = some q1 → ∃ p1, s'.pls[j]? = some p1 := fun j p1 h => by
    have := (List.getElem?_eq_some_iff.1 h).1
    exact ⟨_, List.getElem?_eq_getElem (by omega)⟩
  have eIn : ∀ K L, inK k' K L = inK k K L := fun K L => by unfold inK; rw [hwd, hh]
  have eTl : ∀ q K L, tlAt k' q K L = tlAt k q K L := fun q K L => by unfold tlAt; rw [hwd]
  have eq0 : ∀ (q1 q0 : BPl) K L, q1.tl = q0.tl → tlAt k q1 K L = tlAt k q0 K L := fun q1 q0 K L e => by unfold tlAt; rw [e]
  have z0 : ∀ (q1 : BPl) K L, (∀ t ∈ q1.tl, t = 0) → tlAt k q1 K L = 0 := fun q1 K L e => by
    unfold tlAt
    rw [List.getD_eq_getElem?_getD]
    cases hg : q1.tl[(L * k.wide + K).toNat]? with
    | none => rfl
    | some t => exact e t (List.mem_of_getElem? hg)
  refine ⟨hlen, fun p1 hp1 => ?_, fun j p1 q1 h1 h2 X Y x0 x1 y0 y1 => ?_, fun p1 hp1 K L hne => ?_, fun j p1 q1 h1 h2 K L hin => ?_, fun q1 hq1 t ht => ?_, fun j p1 q1 j' p2 q2 h1 h2 h3 h4 K L K' L' hin hin' hnz => ?_, fun p1 hp1 p2 hp2 K L K' L' t ht ht' => ?_⟩
  · obtain ⟨j, hj⟩ := List.getElem?_of_mem hp1
    obtain ⟨q1, hq1⟩ := getk j p1 hj
    have := h j p1 q1 hj hq1
    rw [hw, hh]; exact ⟨this.1, this.2.1⟩
  · rw [hw] at x1 ⊢
    rw [hh] at y1
    rcases (h j p1 q1 h1 h2).2.2 with ⟨j0, p0, q0, a1, a2, a3, a4, a5, a6⟩ | ⟨a1, a2, a3, a4⟩
    · rw [a4, a5]; exact r.px j0 p0 q0 a1 a2 X Y x0 x1 y0 y1
    · rw [a2]; exact a3 X Y x0 x1 y0 y1
  · obtain ⟨j, hj⟩ := List.getElem?_of_mem hp1
    obtain ⟨q1, hq1⟩ := getk j p1 hj
    rw [eIn]
    rcases (h j p1 q1 hj hq1).2.2 with ⟨j0, p0, q0, a1, a2, a3, a4, a5, a6⟩ | ⟨a1, a2, a3, a4⟩
    · rw [a3] at hne; exact r.keys p0 (List.mem_of_getElem? a1) K L hne
    · exact absurd (a1 K L) hne
  · rw [eIn] at hin
    rw [eTl]
    rcases (h j p1 q1 h1 h2).2.2 with ⟨j0, p0, q0, a1, a2, a3, a4, a5, a6⟩ | ⟨a1, a2, a3, a4⟩
    · rw [a3, eq0 _ _ K L a6]; exact r.zero j0 p0 q0 a1 a2 K L hin
    · rw [a1, z0 q1 K L a4]; simp
  · obtain ⟨j, hj⟩ := List.getElem?_of_mem hq1
    obtain ⟨p1, hp1⟩ := gets j q1 hj
    rw [hn]
    rcases (h j p1 q1 hp1 hj).2.2 with ⟨j0, p0, q0, a1, a2, a3, a4, a5, a6⟩ | ⟨a1, a2, a3, a4⟩
    · rw [a6] at ht; exact r.rng q0 (List.mem_of_getElem? a2) t ht
    · rw [a4 t ht]; omega
  · rw [eIn] at hin hin'
    rw [eTl] at hnz
    rw [eTl, eTl]
    rcases (h j p1 q1 h1 h2).2.2 with ⟨j0, p0, q0, a1, a2, a3, a4, a5, a6⟩ | ⟨a1, a2, a3, a4⟩
    · rw [eq0 _ _ K L a6] at hnz ⊢
      rcases (h j' p2 q2 h3 h4).2.2 with ⟨j0', p0', q0', b1, b2, b3, b4, b5, b6⟩ | ⟨b1, b2, b3, b4⟩
      · rw [eq0 _ _ K' L' b6, a3, b3]
        exact r.same j0 p0 q0 j0' p0' q0' a1 a2 b1 b2 K L K' L' hin hin' hnz
      · rw [z0 q2 K' L' b4, b1, a3]
        exact r.zero j0 p0 q0 a1 a2 K L hin
    · exact absurd (z0 q1 K L a4) hnz
  · obtain ⟨j, hj⟩ := List.getElem?_of_mem hp1
    obtain ⟨q1, hq1⟩ := getk j p1 hj
    obtain ⟨j', hj'⟩ := List.getElem?_of_mem hp2
    obtain ⟨q2, hq2⟩ := getk j' p2 hj'
    rcases (h j p1 q1 hj hq1).2.2 with ⟨j0, p0, q0, a1, a2, a3, a4, a5, a6⟩ | ⟨a1, a2, a3, a4⟩
    · rcases (h j' p2 q2 hj' hq2).2.2 with ⟨j0', p0', q0', b1, b2, b3, b4, b5, b6⟩ | ⟨b1, b2, b3, b4⟩
      · exact r.keyed p0 (List.mem_of_getElem? a1) p0' (List.mem_of_getElem? b1) K L K' L' t (by rw [← a3]; exact ht) (by rw [← b3]; exact ht')
      · rw [b1] at ht'; cases ht'
    · rw [a1] at ht; cases ht

end Go.Proofs
