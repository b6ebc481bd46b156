/-
  OWN WORK. The statements of the package tile, over heaps: the example that each begins with.
-/
import Derived.Test.YtcbnifopfdgniaaTileS
import Derived.Test.YtcbnifopfdgniaaTileX
set_option linter.unusedVariables false
set_option linter.unusedSimpArgs false
namespace Go.Proofs
open Go.Sh Go.Tile

/-- A model in a heap, all of it laid behind another heap. -/
structure At (cap : Int) (H0 H : Heap) (s : St) : Prop where
  inn : In H s
  ok : Ok cap s
  ext : Ext H0 H
  low : ∀ b, owned s b → H0.size ≤ b

theorem At.goes {cap : Int} {H0 H H' : Heap} {s s' : St} (h : At cap H0 H s) (hg : Goes cap H s H' s') : At cap H0 H' s' := by
  refine ⟨hg.inn, hg.ok, fun b o hb => hg.fr b o (h.ext b o hb) fun ho => ?_, fun b hb => ?_⟩
  · have := h.low b ho
    have := lt_of_get hb
    omega
  · have := h.ext.size
    rcases hg.own b hb with ho | ho
    · exact h.low b ho
    · omega

theorem At.step {cap : Int} {H0 H H' : Heap} {s : St} (h : At cap H0 H s) (he : Ext H H') : At cap H0 H' s := ⟨h.inn.ext he, h.ok, h.ext.trans he, h.low⟩

def newS (A : Nat) (c : Int) (p : Pl) : St := ⟨A, c, [p], []⟩

theorem at_new {H0 H : Heap} (he : Ext H0 H) {c w h : Int} (c0 : 0 ≤ c) (c1 : c ≤ 1048576) (w0 : 0 ≤ w) (w1 : w ≤ 32768) (h0 : 0 ≤ h) (h1 : h ≤ 32768) :
    At c H0 (((H.push (arenaO c)).push (.map #[] 0)).push (planeO H.size (newPl (H.size + 1) (H.size + 2) w h))) (newS H.size c (newPl (H.size + 1) (H.size + 2) w h)) := by
  have hs := he.size
  refine ⟨⟨?_, fun p hp => ?_, fun p hp => ?_, fun z hz => (by cases hz)⟩, ⟨fun p hp => ?_, by simp [newS], by simp [newS], List.nodup_nil, fun z hz => (by cases hz), fun t => ?_, by simp [newS], c0, fun p hp t => ?_, by simp [newS], c1⟩,
    he.trans ((Ext.push _ _).trans ((Ext.push _ _).trans (Ext.push _ _))), fun b hb => ?_⟩
  · exact get_push (get_push (get_push_self _ _))
  · rw [List.mem_singleton.1 hp]
    have := get_push_self ((H.push (arenaO c)).push (.map #[] 0)) (planeO H.size (newPl (H.size + 1) (H.size + 2) w h))
    simp only [Array.size_push] at this
    exact this
  · rw [List.mem_singleton.1 hp]
    have := get_push_self (H.push (arenaO c)) (.map #[] 0)
    simp only [Array.size_push] at this
    exact get_push this
  · rw [List.mem_singleton.1 hp]
    exact ⟨List.nodup_nil, List.nodup_nil, (fun e he => by cases he), w0, w1, h0, h1⟩
  · simp [newS, refs, newPl]
  · rw [List.mem_singleton.1 hp]
    simp [newPl]
  · rcases hb with hb | ⟨q, hq, hb⟩ | hb
    · rw [hb]; exact hs
    · rw [hb, List.mem_singleton.1 hq]
      show H0.size ≤ H.size + 1
      omega
    · simp [newS] at hb

theorem new_px (A : Nat) (c : Int) (m b : Nat) (w h : Int) (X Y : Int) : pxAt (newS A c (newPl m b w h)) (newPl m b w h) X Y = 0 := by
  unfold pxAt
  cases (newPl m b w h).has X Y <;> rfl

theorem new_needs (A : Nat) (c : Int) (m b : Nat) (w h : Int) (K L : Int) : needs (newS A c (newPl m b w h)) (newPl m b w h) K L = true := rfl

/-- Making an arena and a plane. -/
theorem c9_10 {H0 H : Heap} (he : Ext H0 H) {c : Int} (c0 : 0 ≤ c) (c1 : c ≤ 1048576) {R : Value → Heap → Prop} (hR : R (.pointer (some ⟨H.size, 0, none⟩)) (H.push (arenaO c))) : CallsH Try.prog 9 #[.int .i64 c] H R := c9 c0 c1 hR

theorem views_at {s s' : St} {f : Nat → Int → Int → Int → Int} (h : Views s s' f) {j : Nat} {q q' : Pl} (hq : s.pls[j]? = some q) (hq' : s'.pls[j]? = some q') : Like q q' ∧ ∀ X Y, pxAt s' q' X Y = f j X Y (pxAt s q X Y) := by
  obtain ⟨q1, h1, h2, h3⟩ := h.pl j q hq
  rw [hq'] at h1
  cases h1
  exact ⟨h2, h3⟩

set_option maxHeartbeats 1000000 in
theorem c8 {H : Heap} {R : Value → Heap → Prop} (h : ∀ H', Ext H H' → R (.bool true) H') : CallsH Try.prog 8 #[] H R := by
  refine Try.s8 (_u := ()) ?_
  unfold Try.S8
  refine c9 (by decide) (by decide) ⟨_, rfl, br_f rfl ?_⟩
  refine c10 (by decide) (by decide) (by decide) (by decide) ⟨_, _, rfl, ?_⟩
  simp only [Array.size_push]
  have a0 := at_new (Ext.refl H) (c := 2) (w := 32) (h := 16) (by decide) (by decide) (by decide) (by decide) (by decide) (by decide)
  generalize hp0 : newPl (H.size + 1) (H.size + 1 + 1) 32 16 = p0
  have hp0' : newPl (H.size + 1) (H.size + 2) 32 16 = p0 := hp0
  rw [hp0'] at a0
  generalize ((H.push (arenaO 2)).push (.map #[] 0)).push (planeO H.size p0) = H1 at a0 ⊢
  have hb0 : p0.b = H.size + 1 + 1 := by subst hp0; rfl
  have hw0 : p0.w = 32 := by subst hp0; rfl
  have hh0 : p0.h = 16 := by subst hp0; rfl
  have hA : (newS H.size 2 p0).A = H.size := rfl
  have hpx0 : ∀ X Y, pxAt (newS H.size 2 p0) p0 X Y = 0 := by subst hp0; exact new_px _ _ _ _ _ _
  have hn0 : ∀ K L, needs (newS H.size 2 p0) p0 K L = true := by subst hp0; exact new_needs _ _ _ _ _ _
  have ht0 : ∀ K L, tileOf p0.en K L = none := by subst hp0; exact fun _ _ => rfl
  have hf0 : (newS H.size 2 p0).free = 2 := rfl
  have hk0 : (newS H.size 2 p0).pls[0]? = some p0 := rfl
  have hl0 : (newS H.size 2 p0).pls.length = 1 := rfl
  generalize newS H.size 2 p0 = s0 at a0 hA hpx0 hn0 hf0 hk0 hl0
  rw [← hb0]
  intro J hJ
  refine br_f rfl (br_f rfl ?_)
  have hhas : ∀ q : Pl, Like p0 q → ∀ X Y, q.has X Y = decide (0 ≤ X ∧ X < 32 ∧ 0 ≤ Y ∧ Y < 16) := fun q hq X Y => by unfold Pl.has; rw [hq.w, hq.h, hw0, hh0]
  refine c12 a0.inn a0.ok hk0 0 0 5 (fun hf => by rw [hhas _ (Like.refl _)] at hf; exact absurd hf (by decide)) (fun _ hn => absurd (by decide) hn) (fun _ _ hpx => by rw [hpx0] at hpx; exact absurd hpx (by decide)) (fun _ _ _ _ hf => by rw [hf0] at hf; exact absurd hf (by decide))
    (fun h1 _ _ H2 s1 hg1 hw1 => ⟨_, rfl, br_f rfl (hJ H2 ?_)⟩)
  -- the first write
  have a1 := a0.goes hg1
  obtain ⟨p1, st1⟩ := wrote_step a0.ok hk0 hw1
  have v1 := wrote_views a0.ok hk0 h1 hw1
  obtain ⟨n1, _, hT1⟩ := st1.tile
  rw [hn0] at hT1
  have hf1 : s1.free = 1 := by rw [st1.free, hn0, hf0]; decide
  have hl1 : s1.pls.length = 1 := by rw [v1.len, hl0]
  have hp1 : p1 ∈ s1.pls := List.mem_of_getElem? st1.pk
  have lk1 := st1.like
  rw [← lk1.b]
  refine c14 a1.inn a1.ok hp1 (by omega) fun H3 b m done hb hsame hg2 => ⟨_, rfl, ?_⟩
  have a2 := a1.goes hg2
  generalize hq : snapPl p1 b m done = q at hg2 a2
  have hqb : q.b = b := by subst hq; rfl
  have hk2 : (snapS s1 q).pls[0]? = some p1 := by
    show (s1.pls ++ [q])[0]? = _
    rw [List.getElem?_append_left (by omega)]; exact st1.pk
  have hk2q : (snapS s1 q).pls[1]? = some q := by
    show (s1.pls ++ [q])[1]? = _
    rw [List.getElem?_append_right (by omega), hl1]; rfl
  have hf2 : (snapS s1 q).free = 1 := hf1
  have hl2 : (snapS s1 q).pls.length = 2 := by show (s1.pls ++ [q]).length = 2; simp [hl1]
  have hA2 : (snapS s1 q).A = s0.A := v1.A
  have hn2 : ∀ K L, needs (snapS s1 q) p1 K L = true := by subst hq; exact needs_snap a1.ok hp1 hsame (.inl rfl)
  have hpx2 : ∀ X Y, pxAt (snapS s1 q) p1 X Y = put1 0 0 0 5 0 X Y 0 := fun X Y => by
    show pxAt s1 p1 X Y = _
    rw [(views_at v1 hk0 st1.pk).2, hpx0]
  have hpx2q : ∀ X Y, pxAt (snapS s1 q) q X Y = put1 0 0 0 5 0 X Y 0 := fun X Y => by
    have : pxAt (snapS s1 q) q X Y = pxAt s1 p1 X Y := by subst hq; exact snap_px (a1.ok.pl p1 hp1) hsame X Y
    rw [this, (views_at v1 hk0 st1.pk).2, hpx0]
  have hlq : q.w = 32 ∧ q.h = 16 := by subst hq; exact ⟨lk1.w.trans hw0, lk1.h.trans hh0⟩
  generalize snapS s1 q = s2 at hg2 a2 hk2 hk2q hf2 hl2 hA2 hn2 hpx2 hpx2q
  intro J2 hJ2
  refine br_f rfl ?_
  refine c12 a2.inn a2.ok hk2 1 0 6 (fun hf => by rw [hhas _ lk1] at hf; exact absurd hf (by decide)) (fun _ hn => absurd (by decide) hn) (fun _ _ hpx => by rw [hpx2] at hpx; exact absurd hpx (by decide)) (fun _ _ _ _ hf => by rw [hf2] at hf; exact absurd hf (by decide))
    (fun h3 _ _ H4 s3 hg3 hw3 => ⟨_, rfl, br_f rfl ?_⟩)
  -- the second write
  have a3 := a2.goes hg3
  obtain ⟨p3, st3⟩ := wrote_step a2.ok hk2 hw3
  have v3 := wrote_views a2.ok hk2 h3 hw3
  obtain ⟨n3, _, hT3⟩ := st3.tile
  rw [show (1 : Int) / 16 = 0 by decide, show (0 : Int) / 16 = 0 by decide, hn2] at hT3
  have hf3 : s3.free = 0 := by rw [st3.free, hn2, hf2]; decide
  have hl3 : s3.pls.length = 2 := by rw [v3.len, hl2]
  have hA3 : s3.A = H.size := by rw [v3.A, hA2, hA]
  have hp3 : p3 ∈ s3.pls := List.mem_of_getElem? st3.pk
  have hk3q : s3.pls[1]? = some q := by rw [st3.oth 1 (by decide)]; exact hk2q
  have hpx3 : ∀ X Y, pxAt s3 p3 X Y = put1 0 1 0 6 0 X Y (put1 0 0 0 5 0 X Y 0) := fun X Y => by rw [(views_at v3 hk2 st3.pk).2, hpx2]
  have hpx3q : pxAt s3 q 1 0 = 0 := by
    rw [(views_at v3 hk2q hk3q).2, hpx2q]; decide
  have hb3 : p3.b = p1.b := st3.like.b
  rw [← hA3]
  refine c18 a3.inn.arena ⟨_, rfl, ?_⟩
  rw [hf3]
  refine br_f rfl ?_
  rw [← hqb]
  refine c20 a3.inn a3.ok (List.mem_of_getElem? hk3q) 1 0 fun H5 e5 => ⟨_, rfl, ?_⟩
  rw [hpx3q]
  refine br_f rfl ?_
  have a4 := a3.step e5
  have hneed3 : needs s3 p3 1 0 = true := by
    rw [st3.need, hn2]; decide
  rw [← hb3]
  refine c12 a4.inn a4.ok st3.pk 20 0 7 (fun hf => by rw [hhas _ (lk1.trans st3.like)] at hf; exact absurd hf (by decide)) (fun _ hn => absurd (by decide) hn) (fun _ _ hpx => by rw [hpx3] at hpx; exact absurd hpx (by decide))
    (fun _ _ _ _ _ H6 e6 => ⟨_, rfl, br_f rfl (hJ2 H6 ?_)⟩) (fun _ _ _ H6 s6 _ hw6 => ?_)
  · have a6 := a4.step e6
    rw [← hqb]
    refine c17 a6.inn a6.ok hk3q fun H7 hg7 => ⟨rfl, ?_⟩
    have a7 := a6.goes hg7
    have hpl7 := drop_pls hk3q
    have hp7 : (dropS s3 1 q).pls[0]? = some p3 := by rw [hpl7]; exact st3.pk
    have hp7' := List.mem_of_getElem? hp7
    have hfree7 : (dropS s3 1 q).free = 1 := by
      have hal := alone_free a7.ok hp7' (fun t => ?_)
      · have hen : p3.en.length = 1 := en_length (a3.ok.pl p3 hp3) (l := [(0, 0)]) (by simp) fun K L => by
          rw [hT3, hT1]
          by_cases hKL : K = 0 ∧ L = 0
          · simp [hKL]
          · have h' : ¬ (True ∧ K = 0 ∧ L = 0) := fun hh => hKL hh.2
            rw [if_neg (by simpa using hKL), if_neg (by simpa using hKL), ht0]
            simpa using hKL
        rw [hen] at hal
        omega
      · show refs (dropL s3 1 q) t = _
        have : dropL s3 1 q = [p3, bare q] := by
          apply List.ext_getElem?
          intro i
          have := hpl7 i
          rw [show (dropS s3 1 q).pls = dropL s3 1 q from rfl] at this
          rw [this]
          match i with
          | 0 => exact st3.pk
          | 1 => rfl
          | i + 2 => rw [if_neg (by omega)]; simp; omega
        rw [this]
        simp [refs, bare]
    rw [← hA3]
    refine c18 (A := s3.A) a7.inn.arena ⟨_, rfl, ?_⟩
    rw [hfree7]
    refine br_t rfl ?_
    rw [← hb3]
    refine c20 a7.inn a7.ok hp7' 1 0 fun H8 e8 => ⟨_, rfl, ?_⟩
    rw [drop_px a6.ok hk3q hp7', hpx3]
    exact h H8 (a7.step e8).ext
  · exfalso
    rcases hw6 with ⟨hnd, _⟩ | ⟨_, hfr, _⟩
    · rw [show (20 : Int) / 16 = 1 by decide, show (0 : Int) / 16 = 0 by decide, hneed3] at hnd; cases hnd
    · exact hfr hf3

end Go.Proofs
