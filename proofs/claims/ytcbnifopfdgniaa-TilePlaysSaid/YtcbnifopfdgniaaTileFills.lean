/-
  OWN WORK. TileFills over heaps: it answers true, and leaves all that was there.
-/
import Derived.Test.YtcbnifopfdgniaaTileShares
set_option linter.unusedVariables false
set_option linter.unusedSimpArgs false
namespace Go.Tile

theorem Paints.snoc_same {k : Nat} {v : Int} {s s' : St} {cs : List (Int × Int)} (h : Paints k v s cs s') : ∀ {p : Pl} {x y : Int}, s'.pls[k]? = some p → p.has x y = true → pxAt s' p x y = v → Paints k v s (cs ++ [(x, y)]) s' := by
  induction h with
  | nil s => intro p x y h1 h2 h3; exact .same h1 h2 h3 (.nil s)
  | same a b c _ ih => intro p x y h1 h2 h3; exact .same a b c (ih h1 h2 h3)
  | wrote a b c d _ ih => intro p x y h1 h2 h3; exact .wrote a b c d (ih h1 h2 h3)

theorem Paints.snoc_wrote {k : Nat} {v : Int} {s s' : St} {cs : List (Int × Int)} (h : Paints k v s cs s') : ∀ {p : Pl} {x y : Int} {s2 : St}, s'.pls[k]? = some p → p.has x y = true → pxAt s' p x y ≠ v → Wrote s' k p x y v s2 → Paints k v s (cs ++ [(x, y)]) s2 := by
  induction h with
  | nil s => intro p x y s2 h1 h2 h3 h4; exact .wrote h1 h2 h3 h4 (.nil s2)
  | same a b c _ ih => intro p x y s2 h1 h2 h3 h4; exact .same a b c (ih h1 h2 h3 h4)
  | wrote a b c d _ ih => intro p x y s2 h1 h2 h3 h4; exact .wrote a b c d (ih h1 h2 h3 h4)

end Go.Tile
namespace Go.Proofs
open Go.Sh Go.Tile

/-- The keys that a painting of an empty plane takes. -/
theorem fresh_keys {s : St} {p : Pl} {v : Int} {cs : List (Int × Int)} (hpx : ∀ X Y, pxAt s p X Y = 0) (hn : ∀ K L, needs s p K L = true) (K L : Int) :
    (K, L) ∈ needKeys s p v cs [] ↔ 0 ≠ v ∧ ∃ c ∈ cs, (K, L) = (c.1 / 16, c.2 / 16) := by
  rw [mem_needKeys]
  constructor
  · rintro (h | ⟨c, hc, ⟨h1, _⟩, heq⟩)
    · cases h
    · rw [hpx] at h1; exact ⟨h1, c, hc, heq⟩
  · rintro ⟨h1, c, hc, heq⟩
    exact .inr ⟨c, hc, ⟨by rw [hpx]; exact h1, hn _ _⟩, heq⟩

theorem fresh_len {s s' : St} {p p' : Pl} {v : Int} {cs cs' : List (Int × Int)} (hpx : ∀ X Y, pxAt s p X Y = 0) (hn : ∀ K L, needs s p K L = true) (hpx' : ∀ X Y, pxAt s' p' X Y = 0) (hn' : ∀ K L, needs s' p' K L = true)
    (h : ∀ X Y, (X, Y) ∈ cs → (X, Y) ∈ cs') : (needKeys s p v cs []).length ≤ (needKeys s' p' v cs' []).length := by
  refine nodup_length_le (nodup_needKeys s p v cs [] List.nodup_nil) fun c hc => ?_
  obtain ⟨K, L⟩ := c
  obtain ⟨h1, ⟨X, Y⟩, hc2, heq⟩ := (fresh_keys hpx hn K L).1 hc
  exact (fresh_keys hpx' hn' K L).2 ⟨h1, (X, Y), h X Y hc2, heq⟩

theorem fresh_nine {s : St} {p : Pl} {v : Int} {cs : List (Int × Int)} (hpx : ∀ X Y, pxAt s p X Y = 0) (hn : ∀ K L, needs s p K L = true) (hcs : ∀ X Y, (X, Y) ∈ cs → 0 ≤ X ∧ X < 40 ∧ 0 ≤ Y ∧ Y < 40) :
    (needKeys s p v cs []).length ≤ 9 := by
  have : k9.length = 9 := rfl
  rw [← this]
  refine nodup_length_le (nodup_needKeys s p v cs [] List.nodup_nil) fun c hc => ?_
  obtain ⟨K, L⟩ := c
  obtain ⟨h1, ⟨X, Y⟩, hc2, heq⟩ := (fresh_keys hpx hn K L).1 hc
  have := hcs X Y hc2
  rw [mem_k9]
  simp only [Prod.mk.injEq] at heq
  omega

theorem fresh_en {cap : Int} {k : Nat} {s s' : St} {p p' : Pl} {v : Int} {cs : List (Int × Int)} (ht : ∀ K L, tileOf p.en K L = none) (pt : Painted cap k v s p cs s' p') : p'.en.length = (needKeys s p v cs []).length := by
  refine en_length (pt.ok.pl p' (List.mem_of_getElem? pt.pk)) (nodup_needKeys s p v cs [] List.nodup_nil) fun K L => ?_
  constructor
  · intro hm; obtain ⟨t, ht, _⟩ := pt.new K L hm; rw [ht]; exact Option.some_ne_none _
  · intro hm
    refine Classical.byContradiction fun hc => hm ?_
    rw [pt.keep K L hc, ht]

def foot (s : St) (b : Nat) : Prop := owned s b ∨ ∃ p ∈ s.pls, b = p.b

theorem In.lt {H : Heap} {s : St} (h : In H s) {b : Nat} (hb : foot s b) : b < H.size := by
  rcases hb with (rfl | ⟨p, hp, rfl⟩ | hb) | ⟨p, hp, rfl⟩
  · exact lt_of_get h.arena
  · exact lt_of_get (h.map p hp)
  · obtain ⟨z, hz, rfl⟩ := List.mem_map.1 hb; exact lt_of_get (h.tile z hz)
  · exact lt_of_get (h.plane p hp)

theorem In.other {cap : Int} {H H' : Heap} {s s' t : St} (h : In H t) (hd : ∀ b, foot t b → ¬ owned s b) (hg : Goes cap H s H' s') : In H' t ∧ ∀ b, foot t b → ¬ owned s' b := by
  refine ⟨⟨hg.fr _ _ h.arena (hd _ (.inl (.inl rfl))), fun p hp => hg.fr _ _ (h.plane p hp) (hd _ (.inr ⟨p, hp, rfl⟩)), fun p hp => hg.fr _ _ (h.map p hp) (hd _ (.inl (.inr (.inl ⟨p, hp, rfl⟩)))),
    fun z hz => hg.fr _ _ (h.tile z hz) (hd _ (.inl (.inr (.inr (List.mem_map.2 ⟨z, hz, rfl⟩)))))⟩, fun b hb ho => ?_⟩
  rcases hg.own b ho with ho | ho
  · exact hd b hb ho
  · have := h.lt hb; omega

theorem at_fresh {H0 H : Heap} (he : Ext H0 H) {A m b : Nat} {c w h : Int} (c0 : 0 ≤ c) (c1 : c ≤ 1048576) (w0 : 0 ≤ w) (w1 : w ≤ 32768) (h0 : 0 ≤ h) (h1 : h ≤ 32768) (hA : H[A]? = some (arenaO c)) (hm : H[m]? = some (.map #[] 0))
    (hb : H[b]? = some (planeO A (newPl m b w h))) (lA : H0.size ≤ A) (lm : H0.size ≤ m) : At c H0 H (newS A c (newPl m b w h)) := by
  refine ⟨⟨hA, fun p hp => ?_, fun p hp => ?_, fun z hz => (by cases hz)⟩, ⟨fun p hp => ?_, by simp [newS], by simp [newS], List.nodup_nil, fun z hz => (by cases hz), fun t => ?_, by simp [newS], c0, fun p hp t => ?_, by simp [newS], c1⟩, he, fun x hx => ?_⟩
  · rw [List.mem_singleton.1 hp]; exact hb
  · rw [List.mem_singleton.1 hp]; exact hm
  · rw [List.mem_singleton.1 hp]
    exact ⟨List.nodup_nil, List.nodup_nil, (fun e he => by cases he), w0, w1, h0, h1⟩
  · simp [newS, refs, newPl]
  · rw [List.mem_singleton.1 hp]
    simp [newPl]
  · rcases hx with hx | ⟨q, hq, hx⟩ | hx
    · rw [hx]; exact lA
    · rw [hx, List.mem_singleton.1 hq]; exact lm
    · simp [newS] at hx

set_option maxHeartbeats 4000000 in
theorem law5 {H : Heap} {kd nn x y w h v W2 H3 : Int} (bx : -9223372036854775808 ≤ x ∧ x ≤ 9223372036854775807) (by_ : -9223372036854775808 ≤ y ∧ y ≤ 9223372036854775807) (bw : -9223372036854775808 ≤ w ∧ w ≤ 9223372036854775807)
    (bh : -9223372036854775808 ≤ h ∧ h ≤ 9223372036854775807) :
    CallsH Try.prog 5 #[.agg #[.int .i64 kd, .int .i64 nn, .int .i64 x, .int .i64 y, .int .i64 w, .int .i64 h, .int .i64 v], .int .i64 W2, .int .i64 H3] H (fun u H' => u = .bool true ∧ Ext H H') := by
  refine Try.s5 ?_
  unfold Try.S5 alc
  generalize hHb : H.push _ = Hb
  have eb : Ext H Hb := by subst hHb; exact Ext.push _ _
  have hop : Hb[H.size]? = some (.cells #[.int .i64 kd, .int .i64 nn, .int .i64 x, .int .i64 y, .int .i64 w, .int .i64 h, .int .i64 v] 31) := by subst hHb; exact get_push_self _ _
  refine c8 fun H1 e1 => ⟨_, rfl, br_f rfl ?_⟩
  have done : ∀ {H'}, Ext Hb H' → Ext H H' := fun e => eb.trans e
  have rd : ∀ {H' : Heap} {i : Nat} {z : Int}, Ext Hb H' → #[Value.int .i64 kd, .int .i64 nn, .int .i64 x, .int .i64 y, .int .i64 w, .int .i64 h, .int .i64 v][i]? = some (Value.int .i64 z) → cell H' (Addr.add ⟨H.size, 0, none⟩ i) = some (Value.int .i64 z) :=
    fun e hz => by rw [add_none, Nat.zero_add]; exact cell_get (e _ _ hop) hz
  intro J9 hJ9
  refine br_dec (fun _ => ⟨rfl, done e1⟩) (fun w0 => br_dec (fun _ => ⟨rfl, done e1⟩) (fun h0 => br_dec (fun _ => ⟨rfl, done e1⟩) (fun w1 => br_dec (fun _ => ⟨rfl, done e1⟩) (fun h1 => ⟨v, rd e1 rfl, br_dec (fun _ => ⟨rfl, done e1⟩) (fun v0 => ⟨v, rd e1 rfl, br_dec (fun _ => ⟨rfl, done e1⟩) (fun v1 => hJ9 H1 ?_)⟩)⟩))))
  have hv : 0 ≤ v ∧ v < 4294967296 := by omega
  refine c9 (by decide) (by decide) ⟨_, rfl, ?_⟩
  refine c9 (by decide) (by decide) ⟨_, rfl, ?_⟩
  intro J17 hJ17
  refine br_f rfl (br_f rfl (hJ17 _ ?_))
  refine c10 (by omega) (by omega) (by omega) (by omega) ⟨_, _, rfl, ?_⟩
  refine c10 (by omega) (by omega) (by omega) (by omega) ⟨_, _, rfl, ?_⟩
  simp only [Array.size_push]
  generalize hN : H1.size = N
  have pat : ∀ (G : Heap) (o : Obj) (j : Nat), j = G.size → (G.push o)[j]? = some o := fun G o j hj => by rw [hj]; exact get_push_self G o
  have e12 : Ext H1 ((((((H1.push (arenaO 100)).push (arenaO 100)).push (.map #[] 0)).push (planeO N (newPl (N + 1 + 1) (N + 1 + 1 + 1) W2 H3))).push (.map #[] 0)).push (planeO (N + 1) (newPl (N + 1 + 1 + 1 + 1) (N + 1 + 1 + 1 + 1 + 1) W2 H3))) :=
    fun b o hb => get_push (get_push (get_push (get_push (get_push (get_push hb)))))
  generalize hH2 : (((((H1.push (arenaO 100)).push (arenaO 100)).push (.map #[] 0)).push (planeO N (newPl (N + 1 + 1) (N + 1 + 1 + 1) W2 H3))).push (.map #[] 0)).push (planeO (N + 1) (newPl (N + 1 + 1 + 1 + 1) (N + 1 + 1 + 1 + 1 + 1) W2 H3)) = H2 at e12 ⊢
  have g0 : H2[N]? = some (arenaO 100) := by subst hH2; exact get_push (get_push (get_push (get_push (get_push (pat _ _ _ hN.symm)))))
  have g1 : H2[N + 1]? = some (arenaO 100) := by subst hH2; exact get_push (get_push (get_push (get_push (pat _ _ _ (by simp [hN])))))
  have g2 : H2[N + 1 + 1]? = some (.map #[] 0) := by subst hH2; exact get_push (get_push (get_push (pat _ _ _ (by simp [hN]))))
  have g3 : H2[N + 1 + 1 + 1]? = some (planeO N (newPl (N + 1 + 1) (N + 1 + 1 + 1) W2 H3)) := by subst hH2; exact get_push (get_push (pat _ _ _ (by simp [hN])))
  have g4 : H2[N + 1 + 1 + 1 + 1]? = some (.map #[] 0) := by subst hH2; exact get_push (pat _ _ _ (by simp [hN]))
  have g5 : H2[N + 1 + 1 + 1 + 1 + 1]? = some (planeO (N + 1) (newPl (N + 1 + 1 + 1 + 1) (N + 1 + 1 + 1 + 1 + 1) W2 H3)) := by subst hH2; exact pat _ _ _ (by simp [hN])
  have s2 : H2.size = N + 6 := by subst hH2; simp [hN]
  have e2 : Ext Hb H2 := e1.trans e12
  have hNb : Hb.size ≤ N := by rw [← hN]; exact e1.size
  have aP := at_fresh e2 (c := 100) (by decide) (by decide) (show 0 ≤ W2 by omega) (show W2 ≤ 32768 by omega) (show 0 ≤ H3 by omega) (show H3 ≤ 32768 by omega) g0 g2 g3 hNb (by omega)
  have aQ := at_fresh e2 (c := 100) (by decide) (by decide) (show 0 ≤ W2 by omega) (show W2 ≤ 32768 by omega) (show 0 ≤ H3 by omega) (show H3 ≤ 32768 by omega) g1 g4 g5 (by omega) (by omega)
  have pxP := new_px N 100 (N + 1 + 1) (N + 1 + 1 + 1) W2 H3
  have pxQ := new_px (N + 1) 100 (N + 1 + 1 + 1 + 1) (N + 1 + 1 + 1 + 1 + 1) W2 H3
  have nP := new_needs N 100 (N + 1 + 1) (N + 1 + 1 + 1) W2 H3
  have nQ := new_needs (N + 1) 100 (N + 1 + 1 + 1 + 1) (N + 1 + 1 + 1 + 1 + 1) W2 H3
  have fQ : ∀ b, foot (newS (N + 1) 100 (newPl (N + 1 + 1 + 1 + 1) (N + 1 + 1 + 1 + 1 + 1) W2 H3)) b → b = N + 1 ∨ b = N + 4 ∨ b = N + 5 := by
    rintro b ((hb | ⟨q, hq, hb⟩ | hb) | ⟨q, hq, hb⟩)
    · exact .inl hb
    · rw [List.mem_singleton.1 hq] at hb; exact .inr (.inl hb)
    · simp [newS] at hb
    · rw [List.mem_singleton.1 hq] at hb; exact .inr (.inr hb)
  have fP : ∀ b, foot (newS N 100 (newPl (N + 1 + 1) (N + 1 + 1 + 1) W2 H3)) b → b = N ∨ b = N + 2 ∨ b = N + 3 := by
    rintro b ((hb | ⟨q, hq, hb⟩ | hb) | ⟨q, hq, hb⟩)
    · exact .inl hb
    · rw [List.mem_singleton.1 hq] at hb; exact .inr (.inl hb)
    · simp [newS] at hb
    · rw [List.mem_singleton.1 hq] at hb; exact .inr (.inr hb)
  have hP0 : (newS N 100 (newPl (N + 1 + 1) (N + 1 + 1 + 1) W2 H3)).pls[0]? = some (newPl (N + 1 + 1) (N + 1 + 1 + 1) W2 H3) := rfl
  have hQ0 : (newS (N + 1) 100 (newPl (N + 1 + 1 + 1 + 1) (N + 1 + 1 + 1 + 1 + 1) W2 H3)).pls[0]? = some (newPl (N + 1 + 1 + 1 + 1) (N + 1 + 1 + 1 + 1 + 1) W2 H3) := rfl
  have frP : (newS N 100 (newPl (N + 1 + 1) (N + 1 + 1 + 1) W2 H3)).free = 100 := rfl
  have frQ : (newS (N + 1) 100 (newPl (N + 1 + 1 + 1 + 1) (N + 1 + 1 + 1 + 1 + 1) W2 H3)).free = 100 := rfl
  have lP : (newS N 100 (newPl (N + 1 + 1) (N + 1 + 1 + 1) W2 H3)).pls.length = 1 := rfl
  have AP : (newS N 100 (newPl (N + 1 + 1) (N + 1 + 1 + 1) W2 H3)).A = N := rfl
  have AQ : (newS (N + 1) 100 (newPl (N + 1 + 1 + 1 + 1) (N + 1 + 1 + 1 + 1 + 1) W2 H3)).A = N + 1 := rfl
  have lQ : (newS (N + 1) 100 (newPl (N + 1 + 1 + 1 + 1) (N + 1 + 1 + 1 + 1 + 1) W2 H3)).pls.length = 1 := rfl
  generalize hp : newPl (N + 1 + 1) (N + 1 + 1 + 1) W2 H3 = p at aP pxP nP fP hP0 frP lP AP
  generalize hq : newPl (N + 1 + 1 + 1 + 1) (N + 1 + 1 + 1 + 1 + 1) W2 H3 = q at aQ pxQ nQ fQ hQ0 frQ AQ lQ
  have pb : p.b = N + 1 + 1 + 1 := by subst hp; rfl
  have pw : p.w = W2 := by subst hp; rfl
  have ph : p.h = H3 := by subst hp; rfl
  have ptl : ∀ K L, tileOf p.en K L = none := by subst hp; exact fun _ _ => rfl
  have qb : q.b = N + 1 + 1 + 1 + 1 + 1 := by subst hq; rfl
  have qw : q.w = W2 := by subst hq; rfl
  have qh : q.h = H3 := by subst hq; rfl
  have qtl : ∀ K L, tileOf q.en K L = none := by subst hq; exact fun _ _ => rfl
  generalize newS N 100 p = sP at aP pxP nP fP hP0 frP lP AP
  generalize newS (N + 1) 100 q = sQ at aQ pxQ nQ fQ hQ0 frQ AQ lQ
  clear hH2 g0 g1 g2 g3 g4 g5 hp hq
  rw [← qb, ← pb]
  have hasP : ∀ X Y, p.has X Y = true ↔ 0 ≤ X ∧ X < W2 ∧ 0 ≤ Y ∧ Y < H3 := fun X Y => by unfold Pl.has; rw [pw, ph, decide_eq_true_iff]
  have hasQ : ∀ X Y, q.has X Y = true ↔ 0 ≤ X ∧ X < W2 ∧ 0 ≤ Y ∧ Y < H3 := fun X Y => by unfold Pl.has; rw [qw, qh, decide_eq_true_iff]
  intro J27 hJ27
  refine br_f rfl (br_f rfl ⟨x, rd e2 rfl, y, rd e2 rfl, w, rd e2 rfl, h, rd e2 rfl, v, rd e2 rfl, ?_⟩)
  refine c13 aP.inn aP.ok hP0 bx.1 bx.2 by_.1 by_.2 bw.1 bw.2 bh.1 bh.2 (fun hn => absurd hv hn) (fun _ cs hcs => ?_)
  have hcs1 : ∀ X Y, (X, Y) ∈ cs → 0 ≤ X ∧ X < 40 ∧ 0 ≤ Y ∧ Y < 40 := fun X Y hm => by
    have := (hasP X Y).1 ((hcs X Y).1 hm).1
    omega
  have nine := fresh_nine (v := v) pxP nP hcs1
  refine ⟨fun hlt => by rw [frP] at hlt; omega, fun _ H3' sP1 hgP paintP => ⟨_, rfl, br_f rfl (hJ27 H3' ?_)⟩⟩
  obtain ⟨p1, ptP⟩ := painted hv paintP aP.ok hP0
  have aP1 := aP.goes hgP
  have dPQ : ∀ b, foot sQ b → ¬ owned sP b := fun b hb ho => by
    have h1 := fQ b hb
    have h2 := fP b (.inl ho)
    omega
  obtain ⟨inQ, _⟩ := aQ.inn.other dPQ hgP
  have aQ1 : At 100 Hb H3' sQ := ⟨inQ, aQ.ok, aP1.ext, aQ.low⟩
  have plsP1 : sP1.pls = [p1] := single (by rw [ptP.views.len, lP]) ptP.pk
  have dQP : ∀ b, foot sP1 b → ¬ owned sQ b := fun b hb ho => by
    have h1 := fQ b (.inl ho)
    have h3 : foot sP b ∨ H2.size ≤ b := by
      rcases hb with hb | ⟨r, hr, hb⟩
      · rcases hgP.own b hb with h | h
        · exact .inl (.inl h)
        · exact .inr h
      · rw [plsP1, List.mem_singleton] at hr
        subst hr
        exact .inl (.inr ⟨p, List.mem_of_getElem? hP0, by rw [hb, ptP.like.b]⟩)
    rcases h3 with h3 | h3
    · have h2 := fP b h3
      omega
    · omega
  have p1b : p1.b = p.b := ptP.like.b
  have A1 : sP1.A = N := ptP.views.A.trans AP
  have pxP1 : ∀ X Y, pxAt sP1 p1 X Y = if (X, Y) ∈ cs then v else 0 := fun X Y => by
    rw [(views_at ptP.views hP0 ptP.pk).2, pxP]
    simp [putAll]
  have enP1 : p1.en.length = (needKeys sP p v cs []).length := fresh_en ptl ptP
  have frP1 : sP1.free = 100 - (needKeys sP p v cs []).length := by rw [ptP.free, frP]
  have hp1 : p1 ∈ sP1.pls := List.mem_of_getElem? ptP.pk
  have okP1 := ptP.ok
  rw [← p1b]
  clear hgP paintP ptP
  have hWH : 0 ≤ W2 * H3 ∧ W2 * H3 ≤ 1600 := by
    have a1 : 0 ≤ W2 * H3 := Int.mul_nonneg (by omega) (by omega)
    have a2 : W2 * H3 ≤ 40 * 40 := Int.mul_le_mul (by omega) (by omega) (by omega) (by omega)
    omega
  have ewh : IntKind.wrap .i64 (W2 * H3) = W2 * H3 := wrap_id (by omega) (by omega)
  rw [ewh]
  have uniq : ∀ (i X Y : Int), 0 ≤ X → X < W2 → (Y * W2 + X = i ↔ X = i % W2 ∧ Y = i / W2) := fun i X Y h0 h1 => by
    have := Int.ediv_emod_unique (a := i) (b := W2) (r := X) (q := Y) (by omega)
    constructor
    · intro hh
      have h2 := this.2 ⟨by rw [Int.mul_comm]; omega, h0, h1⟩
      exact ⟨h2.2.symm, h2.1.symm⟩
    · rintro ⟨h2, h3⟩
      have h4 := this.1 ⟨h3.symm, h2.symm⟩
      have h5 : W2 * Y = Y * W2 := Int.mul_comm _ _
      omega
  have big : ∀ X Y, (X, Y) ∈ cs → 0 ≤ Y * W2 + X ∧ Y * W2 + X < W2 * H3 := fun X Y hm => by
    have h1 := (hasP X Y).1 ((hcs X Y).1 hm).1
    have h2 : Y * W2 ≤ (H3 - 1) * W2 := Int.mul_le_mul_of_nonneg_right (by omega) (by omega)
    have h3 : (H3 - 1) * W2 = W2 * H3 - W2 := by rw [Int.sub_mul, Int.mul_comm H3]; omega
    have h4 : 0 ≤ Y * W2 := Int.mul_nonneg (by omega) (by omega)
    omega
  intro X hX
  have loop : ∀ (m : Nat) (i : Int) (H4 : Heap) (s : St) (csQ : List (Int × Int)), (W2 * H3 - i).toNat = m → 0 ≤ i → At 100 Hb H4 s → In H4 sP1 → (∀ b, foot sP1 b → ¬ owned s b) → Paints 0 v sQ csQ s → (∀ X Y, (X, Y) ∈ csQ ↔ (X, Y) ∈ cs ∧ Y * W2 + X < i) →
      X [.int .i64 i] H4 := by
    intro m
    induction m using Nat.strongRecOn with
    | _ m ih =>
      intro i H4 s csQ hm hi aS inP dd paint hmem
      obtain ⟨q1, pt⟩ := painted hv paint aQ1.ok hQ0
      have q1b : q1.b = q.b := pt.like.b
      have hcsQ : ∀ X Y, (X, Y) ∈ csQ → 0 ≤ X ∧ X < 40 ∧ 0 ≤ Y ∧ Y < 40 := fun X Y h => hcs1 X Y ((hmem X Y).1 h).1
      have nineQ := fresh_nine (v := v) pxQ nQ hcsQ
      have pxQ1 : ∀ X Y, pxAt s q1 X Y = if (X, Y) ∈ csQ then v else 0 := fun X Y => by
        rw [(views_at pt.views hQ0 pt.pk).2, pxQ]
        simp [putAll]
      have frQ1 : s.free = 100 - (needKeys sQ q v csQ []).length := by rw [pt.free, frQ]
      refine hX i H4 (br_dec (fun hlt => ⟨by omega, by omega, ?_⟩) (fun hge => ?_))
      · have et : Int.tmod i W2 = i % W2 := Int.tmod_eq_emod_of_nonneg hi
        have ed : Int.tdiv i W2 = i / W2 := Int.tdiv_eq_ediv_of_nonneg hi
        have d1 : 0 ≤ i / W2 := Int.ediv_nonneg hi (by omega)
        have d2 : i / W2 < H3 := Int.ediv_lt_of_lt_mul (by omega) (by rw [Int.mul_comm]; exact hlt)
        have d3 : 0 ≤ i % W2 := Int.emod_nonneg i (by omega)
        have d4 : i % W2 < W2 := Int.emod_lt_of_pos i (by omega)
        rw [et, ed, wrap_id (n := i / W2) (by omega) (by omega)]
        have ew : IntKind.wrap .i64 (i + 1) = i + 1 := wrap_id (by omega) (by omega)
        rw [ew]
        generalize hxi : i % W2 = xi at *
        generalize hyi : i / W2 = yi at *
        have hthis : ∀ X Y, (X, Y) ∈ cs → (Y * W2 + X < i + 1 ↔ (Y * W2 + X < i ∨ (X = xi ∧ Y = yi))) := fun X Y hm => by
          have h1 := (hasP X Y).1 ((hcs X Y).1 hm).1
          have h2 := uniq i X Y h1.1 h1.2.1
          rw [hxi, hyi] at h2
          rw [← h2]
          omega
        intro J32 hJ32
        have key : ∀ b : Bool, (b = true ↔ x ≤ xi ∧ xi < x + w ∧ y ≤ yi ∧ yi < y + h) → J32 [.bool b] H4 := by
          intro b hb
          refine hJ32 b H4 (br_i (fun hbt => ⟨v, rd aS.ext rfl, ?_⟩) (fun hbf => ?_))
          · have hin := hb.1 hbt
            have hhas : q1.has xi yi = true := by rw [pt.like.has, hasQ]; omega
            have hic : (xi, yi) ∈ cs := (hcs xi yi).2 ⟨(hasP _ _).2 (by omega), hin.1, hin.2.1, hin.2.2.1, hin.2.2.2⟩
            have hmem' : ∀ X Y, (X, Y) ∈ csQ ++ [(xi, yi)] ↔ (X, Y) ∈ cs ∧ Y * W2 + X < i + 1 := fun X Y => by
              rw [List.mem_append, hmem, List.mem_singleton, Prod.mk.injEq]
              constructor
              · rintro (h1 | h1)
                · exact ⟨h1.1, (hthis X Y h1.1).2 (.inl h1.2)⟩
                · have : (X, Y) ∈ cs := by rw [h1.1, h1.2]; exact hic
                  exact ⟨this, (hthis X Y this).2 (.inr h1)⟩
              · rintro ⟨h1, h2⟩
                rcases (hthis X Y h1).1 h2 with h3 | h3
                · exact .inl ⟨h1, h3⟩
                · exact .inr h3
            rw [← q1b]
            refine c12 aS.inn aS.ok pt.pk xi yi v (fun hf => by rw [hhas] at hf; cases hf) (fun _ hn => absurd hv hn) (fun _ _ hpx H5 e5 => ⟨_, rfl, br_f rfl ?_⟩) (fun _ _ _ _ hf => by rw [frQ1] at hf; omega) (fun _ _ hne H5 s5 hg5 hw5 => ⟨_, rfl, br_f rfl ?_⟩)
            · exact ih _ (by omega) (i + 1) H5 s _ rfl (by omega) (aS.step e5) (inP.ext e5) dd (paint.snoc_same pt.pk hhas hpx) hmem'
            · obtain ⟨i5, d5⟩ := inP.other dd hg5
              exact ih _ (by omega) (i + 1) H5 s5 _ rfl (by omega) (aS.goes hg5) i5 d5 (paint.snoc_wrote pt.pk hhas hne hw5) hmem'
          · have hnin : ¬ (x ≤ xi ∧ xi < x + w ∧ y ≤ yi ∧ yi < y + h) := fun hc => by rw [hb.2 hc] at hbf; cases hbf
            refine ih _ (by omega) (i + 1) H4 s csQ rfl (by omega) aS inP dd paint fun X Y => ?_
            rw [hmem]
            constructor
            · rintro ⟨h1, h2⟩; exact ⟨h1, by omega⟩
            · rintro ⟨h1, h2⟩
              rcases (hthis X Y h1).1 h2 with h3 | h3
              · exact ⟨h1, h3⟩
              · exfalso
                have h4 := ((hcs X Y).1 h1).2
                rw [h3.1, h3.2] at h4
                exact hnin h4
        have k1 : x < 0 ∨ IntKind.wrap .i64 (xi - x) = xi - x := by
          rcases Int.lt_or_le x 0 with h1 | h1
          · exact .inl h1
          · exact .inr (wrap_id (by omega) (by omega))
        have k2 : y < 0 ∨ IntKind.wrap .i64 (yi - y) = yi - y := by
          rcases Int.lt_or_le y 0 with h1 | h1
          · exact .inl h1
          · exact .inr (wrap_id (by omega) (by omega))
        have k3 : 0 ≤ x ∨ w ≤ 0 ∨ IntKind.wrap .i64 (w + x) = w + x := by
          rcases Int.lt_or_le x 0 with h1 | h1
          · rcases Int.lt_or_le 0 w with h2 | h2
            · exact .inr (.inr (wrap_id (by omega) (by omega)))
            · exact .inr (.inl h2)
          · exact .inl h1
        have k4 : 0 ≤ y ∨ h ≤ 0 ∨ IntKind.wrap .i64 (h + y) = h + y := by
          rcases Int.lt_or_le y 0 with h1 | h1
          · rcases Int.lt_or_le 0 h with h2 | h2
            · exact .inr (.inr (wrap_id (by omega) (by omega)))
            · exact .inr (.inl h2)
          · exact .inl h1
        have rdS := fun {j : Nat} {z : Int} (hz : #[Value.int .i64 kd, .int .i64 nn, .int .i64 x, .int .i64 y, .int .i64 w, .int .i64 h, .int .i64 v][j]? = some (Value.int .i64 z)) => rd aS.ext hz
        clear ih hJ32
        repeat' first
          | refine ⟨_, rdS rfl, ?_⟩
          | refine br_dec (fun _ => ?_) (fun _ => ?_)
        all_goals refine key _ ?_
        all_goals (first | rw [decide_eq_true_iff] | simp only [Bool.false_eq_true, false_iff, true_iff])
        all_goals omega
      · -- the end: all is compared
        have hall : ∀ X Y, (X, Y) ∈ csQ ↔ (X, Y) ∈ cs := fun X Y => by
          rw [hmem]
          refine ⟨fun hh => hh.1, fun hh => ⟨hh, ?_⟩⟩
          have := big X Y hh
          omega
        have hlen : (needKeys sP p v cs []).length = (needKeys sQ q v csQ []).length := by
          have h1 := fresh_len (v := v) pxP nP pxQ nQ (cs := cs) (cs' := csQ) fun X Y hh => (hall X Y).2 hh
          have h2 := fresh_len (v := v) pxQ nQ pxP nP (cs := csQ) (cs' := cs) fun X Y hh => (hall X Y).1 hh
          omega
        have enQ1 := fresh_en qtl pt
        have hq1 : q1 ∈ s.pls := List.mem_of_getElem? pt.pk
        have AQ1 : s.A = N + 1 := pt.views.A.trans AQ
        intro Y hY
        have cmp : ∀ (m2 : Nat) (j : Int) (H5 : Heap), (W2 * H3 - j).toNat = m2 → 0 ≤ j → Ext H4 H5 → Y [.int .i64 j] H5 := by
          intro m2
          induction m2 using Nat.strongRecOn with
          | _ m2 ih2 =>
            intro j H5 hm2 hj e5
            refine hY j H5 (br_dec (fun hlt => ⟨by omega, by omega, by omega, by omega, ?_⟩) (fun _ => ?_))
            · have ew : IntKind.wrap .i64 (j + 1) = j + 1 := wrap_id (by omega) (by omega)
              rw [ew]
              refine c20 (inP.ext e5) okP1 hp1 _ _ fun H6 e6 => ⟨_, rfl, ?_⟩
              have a6 := aS.step (e5.trans e6)
              rw [← q1b]
              refine c20 a6.inn a6.ok hq1 _ _ fun H7 e7 => ⟨_, rfl, ?_⟩
              rw [pxP1, pxQ1]
              simp only [hall]
              refine br_f (by simp) ?_
              exact ih2 _ (by omega) (j + 1) H7 rfl (by omega) (e5.trans (e6.trans e7))
            · have a5 := aS.step e5
              have i5 := inP.ext e5
              refine c19 (i5.plane _ hp1) (i5.map _ hp1) ⟨_, rfl, ?_⟩
              rw [← q1b]
              refine c19 (a5.inn.plane _ hq1) (a5.inn.map _ hq1) ⟨_, rfl, ?_⟩
              rw [enP1, enQ1, hlen]
              refine br_t (by simp) ?_
              rw [← A1]
              refine c18 i5.arena ⟨_, rfl, ?_⟩
              rw [A1, ← AQ1]
              refine c18 a5.inn.arena ⟨_, rfl, ?_⟩
              rw [frP1, frQ1, hlen]
              exact ⟨by simp, done a5.ext⟩
        exact cmp _ 0 H4 rfl (Int.le_refl _) (Ext.refl _)
  refine loop _ 0 H3' sQ [] rfl (Int.le_refl _) aQ1 aP1.inn dQP (.nil sQ) fun X Y => ?_
  constructor
  · intro hh; cases hh
  · rintro ⟨h1, h2⟩
    have := big X Y h1
    omega

end Go.Proofs
