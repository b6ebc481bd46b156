/-
  OWN WORK. The book's steps: what a write, a snapshot, a drop leave.
-/
import Derived.Test.YtcbnifopfdgniaaTileCe
set_option linter.unusedVariables false
set_option linter.unusedSimpArgs false
namespace Go.Proofs
open Go.Sh Go.Tile

/-- The book's blocks are of three types. -/
theorem BIn.types {H : Heap} {k : Bk} (h : BIn H k) : (∃ cs, H[k.B]? = some (.cells cs 49)) ∧ (∃ cs, H[k.lb]? = some (.cells cs 51)) ∧ ∀ q ∈ k.pl, (∃ cs, H[q.pb]? = some (.cells cs 3)) ∧ ∃ cs, H[q.tb]? = some (.cells cs 3) := by
  obtain ⟨cs, h1, _⟩ := h.l
  exact ⟨⟨_, h.book⟩, ⟨cs, h1⟩, fun q hq => ⟨(h.px q hq).some_get, (h.tl q hq).some_get⟩⟩

/-- Not of the book's types. -/
def Else (o : Obj) : Prop := ∀ cs, o ≠ Obj.cells cs 3 ∧ o ≠ Obj.cells cs 49 ∧ o ≠ Obj.cells cs 51

theorem PB.write {cap : Int} {H0 H : Heap} {A : Nat} {lp : Option Addr} {ll lc : Nat} {s : St} {k : Bk} (h : PB cap H0 H A lp ll lc s k) (hnx : k.next ≤ 1000000) (hll : ll ≤ 900) {i : Nat} {p : Pl} {q : BPl} (hp : s.pls[i]? = some p) (hq : k.pl[i]? = some q)
    {pp : Option Addr} {pl pc : Nat} {L : List Int} {cs : List (Int × Int)} {v : Int} (sl : SL 0 H pp pl pc 3 (ints L)) (hne : ∀ b, pp = some ⟨b, 0, none⟩ → b ≠ k.B ∧ b ≠ q.pb ∧ b ≠ q.tb) (hL : ∀ z ∈ L, 0 ≤ z ∧ z < k.w * k.h) (hLn : L.length ≤ 1000000)
    (hcs : ∀ X Y, (X, Y) ∈ cs ↔ ∃ z ∈ L, X = z % k.w ∧ Y = z / k.w) {R : Value → Heap → Prop} (hA : ∀ H', Ext H H' → s.free < (needKeys s p v cs []).length → R (.int .i64 30) H')
    (hB : ∀ H' C, TakesB k i q L v C → ((needKeys s p v cs []).length : Int) ≤ s.free → PI cap H0 H' A lp ll lc s → BIn H' (k.wrote i q L v (fillT C q.tl.length (k.next, q.tl))) → (∀ (b : Nat) (o : Obj), H[b]? = some o → Else o → H'[b]? = some o) → R (.int .i64 0) H') :
    CallsH Try.prog 29 #[.pointer (some ⟨k.B, 0, none⟩), .int .i64 i, .slice pp pl pc, .int .i64 v] H R := by
  have hok := h.pi.at_.ok
  have d := h.dim
  have r := h.rel
  have kl := h.klen
  have hqm := List.mem_of_getElem? hq
  obtain ⟨c0, c1⟩ := cap_le hok
  have hcount := hok.count
  refine c29 h.bin h.apart d hq h.n0 (by omega) (by omega) (by rw [h.kcap]; omega) (by rw [h.kcap]; omega) (fun p hp t ht => (r.rng p hp t ht).2) sl hne hL hLn (fun H' C D e hC hD hgt => ?_) (fun H' C D hC hD hle hb hf => ?_)
  · refine hA H' e ?_
    have h1 := r.used d hok hD
    have h2 := (r.takes d hok hp hq hL hcs hC).2
    rw [h.kcap] at hgt
    omega
  · have h1 := r.used d hok hD
    have h2 := (r.takes d hok hp hq hL hcs hC).2
    rw [h.kcap] at hle
    obtain ⟨⟨t1, ht1⟩, ⟨t2, ht2⟩, ht3⟩ := h.bin.types
    obtain ⟨⟨t3, ht3⟩, ⟨t4, ht4⟩⟩ := ht3 q hqm
    obtain ⟨l1, l2, l3⟩ := h.low
    obtain ⟨l3, l4⟩ := l3 q hqm
    have fr : ∀ (b : Nat) (o : Obj), H[b]? = some o → (∀ cs, H0.size ≤ b → o ≠ Obj.cells cs 3 ∧ o ≠ Obj.cells cs 49 ∧ o ≠ Obj.cells cs 51) → H'[b]? = some o := fun b o hb hn => by
      refine hf b o hb (fun hh => ?_) (fun hh => ?_) (fun hh => ?_)
      · subst hh; rw [ht1] at hb; cases hb; exact (hn t1 l1).2.1 rfl
      · subst hh; rw [ht3] at hb; cases hb; exact (hn t3 l3).1 rfl
      · subst hh; rw [ht4] at hb; cases hb; exact (hn t4 l4).1 rfl
    exact hB H' C hC (by omega) (h.pi.keepT fr) hb (fun b o hb hn => fr b o hb fun cs _ => hn cs)

/-- The state that a write leaves. -/
theorem PB.wrote {cap : Int} {H0 H H' : Heap} {A : Nat} {lp : Option Addr} {ll lc : Nat} {s s' : St} {k : Bk} (h : PB cap H0 H A lp ll lc s k) {i : Nat} {p p' : Pl} {q : BPl} (hp : s.pls[i]? = some p) (hq : k.pl[i]? = some q)
    {L C : List Int} {cs : List (Int × Int)} {v : Int} (hL : ∀ z ∈ L, 0 ≤ z ∧ z < k.w * k.h) (hcs : ∀ X Y, (X, Y) ∈ cs ↔ ∃ z ∈ L, X = z % k.w ∧ Y = z / k.w) (hC : TakesB k i q L v C) (pt : Painted cap i v s p cs s' p')
    (hpi : PI cap H0 H' A lp ll lc s') (hb : BIn H' (k.wrote i q L v (fillT C q.tl.length (k.next, q.tl)))) :
    PB cap H0 H' A lp ll lc s' (k.wrote i q L v (fillT C q.tl.length (k.next, q.tl))) ∧ (fillT C q.tl.length (k.next, q.tl)).1 ≤ k.next + 16 := by
  have d := h.dim
  have hqm := List.mem_of_getElem? hq
  have fo := fillT_ok C k.next q.tl q.tl.length (Nat.le_refl _)
  have htl := d.tl q hqm
  obtain ⟨_, _, _, z4, _, _⟩ := d.size
  have hlo := fo.lo
  have hhi := fo.hi
  have hn0 := h.n0
  refine ⟨⟨hpi, hb, h.rel.wrote d h.pi.at_.ok h.n0 hp hq hL hcs hC pt, d.wrote hq fo.len, h.apart.wrote hq L v _, h.kcap, by show 0 ≤ (fillT C q.tl.length (k.next, q.tl)).1; omega, h.low.1, h.low.2.1, fun q1 hq1 => ?_⟩, by omega⟩
  obtain ⟨j, hj⟩ := List.getElem?_of_mem hq1
  rcases wrote_get hq hj with ⟨_, rfl⟩ | ⟨_, hj⟩
  · exact h.low.2.2 q hqm
  · exact h.low.2.2 q1 (List.mem_of_getElem? hj)

theorem PI.snap2 {cap : Int} {H0 H H' : Heap} {A : Nat} {lp : Option Addr} {ll lc : Nat} {s : St} {q : Pl} (h : PI cap H0 H A lp ll lc s) (hg : Goes cap H s H' (snapS s q)) (hll : (ll + 1) * 8 ≤ 70368744177664)
    {K : Option Addr → Nat → Nat → Heap → Prop} (hK : ∀ p' c' H'', PI cap H0 H'' A p' (ll + 1) c' (snapS s q) → (∀ (b : Nat) (o : Obj), H'[b]? = some o → (∀ cs, o ≠ Obj.cells cs 26) → H''[b]? = some o) → K p' (ll + 1) c' H'') :
    appQ 1 8 #[Value.pointer none] (H'.push (.cells #[Value.pointer (some ⟨q.b, 0, none⟩)] 26)) lp ll lc (some ⟨H'.size, 0, none⟩) 1 26 K := by
  have a6 := h.at_.goes hg
  have sl6 := h.sl.goes (.inl rfl) h.at_.inn hg
  have e := Ext.push H' (.cells #[Value.pointer (some ⟨q.b, 0, none⟩)] 26)
  have sl7 := sl6.ext e
  refine sl7.app (by have := a6.ext.size; simp; omega) (get_push_self _ _) rfl hll fun p' c' H'' slN hk hsz => ?_
  have a7 := (a6.step e).keep hk
  exact hK p' c' H'' ⟨a7, by rw [ptrs_snap]; exact slN, h.A⟩ (fun b o hb hn => hk b o (e _ _ hb) fun cs _ => hn cs)

theorem snapS_get {s : St} {q : Pl} {j : Nat} {p1 : Pl} (h : (snapS s q).pls[j]? = some p1) : (j < s.pls.length ∧ s.pls[j]? = some p1) ∨ (j = s.pls.length ∧ p1 = q) := by
  unfold snapS at h
  simp only at h
  by_cases hj : j < s.pls.length
  · rw [List.getElem?_append_left hj] at h; exact .inl ⟨hj, h⟩
  · rw [List.getElem?_append_right (by omega)] at h
    have hlt := (List.getElem?_eq_some_iff.1 h).1
    have : j - s.pls.length = 0 := by simpa using hlt
    rw [this] at h
    simp at h
    exact .inr ⟨by omega, h.symm⟩

theorem more_get {k : Bk} {lb lc : Nat} {q : BPl} {j : Nat} {q1 : BPl} (h : (k.more lb lc q).pl[j]? = some q1) : (j < k.pl.length ∧ k.pl[j]? = some q1) ∨ (j = k.pl.length ∧ q1 = q) := by
  unfold Bk.more at h
  simp only at h
  by_cases hj : j < k.pl.length
  · rw [List.getElem?_append_left hj] at h; exact .inl ⟨hj, h⟩
  · rw [List.getElem?_append_right (by omega)] at h
    have hlt := (List.getElem?_eq_some_iff.1 h).1
    have : j - k.pl.length = 0 := by simpa using hlt
    rw [this] at h
    simp at h
    exact .inr ⟨by omega, h.symm⟩

theorem Rel.snap {cap : Int} {s : St} {k : Bk} (r : Rel s k) (hok : Ok cap s) (n0 : 0 ≤ k.next) {i : Nat} {p : Pl} {q q' : BPl} (hp : s.pls[i]? = some p) (hq : k.pl[i]? = some q) {b m : Nat} {done : List En} (hs : Go.Proofs.Same done p.en)
    (h1 : q'.px = q.px) (h2 : q'.tl = q.tl) (lb lc : Nat) : Rel (snapS s (snapPl p b m done)) (k.more lb lc q') := by
  have hpm := List.mem_of_getElem? hp
  have pok := hok.pl p hpm
  refine r.copy (by unfold snapS Bk.more; simp [r.len]) rfl rfl rfl rfl n0 fun j p1 q1 g1 g2 => ?_
  rcases snapS_get g1 with ⟨hj, g1⟩ | ⟨rfl, rfl⟩
  · rcases more_get g2 with ⟨_, g2⟩ | ⟨hh, _⟩
    · have := r.wh p1 (List.mem_of_getElem? g1)
      exact ⟨this.1, this.2, .inl ⟨j, p1, q1, g1, g2, fun _ _ => rfl, fun _ _ => rfl, rfl, rfl⟩⟩
    · have := r.len; omega
  · rcases more_get g2 with ⟨hh, _⟩ | ⟨_, rfl⟩
    · have := r.len; omega
    · have := r.wh p hpm
      refine ⟨this.1, this.2, .inl ⟨i, p, q, hp, hq, fun K L => ?_, fun X Y => snap_px pok hs X Y, h1, h2⟩⟩
      show tileOf (cp done) K L = _
      rw [tileOf_cp]
      exact same_tileOf hs pok.keys K L

/-- The book with a plane laid anew. -/
def Bk.anew (k : Bk) (i : Nat) (q : BPl) : Bk := { k with pl := k.pl.set i q }

theorem anew_get {k : Bk} {i : Nat} {q q1 : BPl} {j : Nat} (h : (k.anew i q).pl[j]? = some q1) : (j = i ∧ q1 = q) ∨ (j ≠ i ∧ k.pl[j]? = some q1) := by
  unfold Bk.anew at h
  simp only at h
  rw [List.getElem?_set] at h
  by_cases hij : i = j
  · rw [if_pos hij] at h
    split at h
    · cases h; exact .inl ⟨hij.symm, rfl⟩
    · cases h
  · rw [if_neg hij] at h; exact .inr ⟨fun hh => hij hh.symm, h⟩

theorem Rel.dropped {cap : Int} {s : St} {k : Bk} (d : BDim k) (r : Rel s k) (hok : Ok cap s) (n0 : 0 ≤ k.next) {i : Nat} {p : Pl} {q q' : BPl} (hp : s.pls[i]? = some p) (hq : k.pl[i]? = some q)
    (h1 : q'.px = List.replicate q.px.length 0) (h2 : q'.tl = List.replicate q.tl.length 0) : Rel (dropS s i p) (k.anew i q') := by
  have hpm := List.mem_of_getElem? hp
  have hqm := List.mem_of_getElem? hq
  refine r.copy (by unfold dropS dropL Bk.anew; simp [r.len]) rfl rfl rfl rfl n0 fun j p1 q1 g1 g2 => ?_
  have hpx := drop_px hok hp (List.mem_of_getElem? g1)
  rw [drop_pls hp] at g1
  rcases anew_get g2 with ⟨rfl, rfl⟩ | ⟨hji, g2⟩
  · rw [if_pos rfl] at g1
    cases g1
    have := r.wh p hpm
    refine ⟨this.1, this.2, .inr ⟨fun _ _ => rfl, fun X Y => bare_px _ p X Y, fun X Y x0 x1 y0 y1 => ?_, fun t ht => ?_⟩⟩
    · have := (List.getElem?_eq_some_iff.1 (r.px j p q hp hq X Y x0 x1 y0 y1)).1
      rw [h1, List.getElem?_replicate, if_pos this]
    · rw [h2] at ht; exact (List.mem_replicate.1 ht).2
  · rw [if_neg hji] at g1
    have := r.wh p1 (List.mem_of_getElem? g1)
    exact ⟨this.1, this.2, .inl ⟨j, p1, q1, g1, g2, fun _ _ => rfl, fun X Y => hpx X Y, rfl, rfl⟩⟩

theorem BDim.anew {k : Bk} (d : BDim k) {i : Nat} {q q' : BPl} (hq : k.pl[i]? = some q) (h1 : q'.px.length = q.px.length) (h2 : q'.tl.length = q.tl.length) : BDim (k.anew i q') := by
  have hqm := List.mem_of_getElem? hq
  refine ⟨d.w0, d.w1, d.h0, d.h1, d.wd, fun p hp => ?_, fun p hp => ?_⟩
  · obtain ⟨j, hj⟩ := List.getElem?_of_mem hp
    rcases anew_get hj with ⟨_, rfl⟩ | ⟨_, hj⟩
    · rw [h1]; exact d.px q hqm
    · exact d.px p (List.mem_of_getElem? hj)
  · obtain ⟨j, hj⟩ := List.getElem?_of_mem hp
    rcases anew_get hj with ⟨_, rfl⟩ | ⟨_, hj⟩
    · rw [h2]; exact d.tl q hqm
    · exact d.tl p (List.mem_of_getElem? hj)

theorem Apart.anew {k : Bk} (h : Apart k) {i : Nat} {q q' : BPl} (hq : k.pl[i]? = some q) (h2 : q'.pb ≠ q'.tb) (h3 : q'.pb ≠ k.B ∧ q'.pb ≠ k.lb ∧ q'.tb ≠ k.B ∧ q'.tb ≠ k.lb)
    (h4 : ∀ p ∈ k.pl, p.pb ≠ q'.pb ∧ p.pb ≠ q'.tb ∧ p.tb ≠ q'.pb ∧ p.tb ≠ q'.tb) : Apart (k.anew i q') := by
  have get : ∀ p ∈ (k.anew i q').pl, p = q' ∨ p ∈ k.pl := fun p hp => by
    obtain ⟨j, hj⟩ := List.getElem?_of_mem hp
    rcases anew_get hj with ⟨_, rfl⟩ | ⟨_, hj⟩
    · exact .inl rfl
    · exact .inr (List.mem_of_getElem? hj)
  have nd : ∀ (f : BPl → Nat), (k.pl.map f).Nodup → (∀ p ∈ k.pl, f p ≠ f q') → ((k.anew i q').pl.map f).Nodup := fun f hn hf => by
    rw [List.nodup_iff_pairwise_ne, List.pairwise_iff_getElem]
    intro a b ha hb hab
    have ea := List.getElem?_eq_getElem ha
    have eb := List.getElem?_eq_getElem hb
    intro he
    rw [← he] at eb
    generalize ((k.anew i q').pl.map f)[a] = z at ea eb
    rw [List.getElem?_map] at ea eb
    obtain ⟨p1, g1, e1⟩ := Option.map_eq_some_iff.1 ea
    obtain ⟨p2, g2, e2⟩ := Option.map_eq_some_iff.1 eb
    rcases anew_get g1 with ⟨u1, w1⟩ | ⟨u1, w1⟩
    · rcases anew_get g2 with ⟨u2, w2⟩ | ⟨u2, w2⟩
      · omega
      · exact hf p2 (List.mem_of_getElem? w2) (by rw [e2, ← e1, w1])
    · rcases anew_get g2 with ⟨u2, w2⟩ | ⟨u2, w2⟩
      · exact hf p1 (List.mem_of_getElem? w1) (by rw [e1, ← e2, w2])
      · exact absurd (idx_of_map (f := f) hn w1 w2 (by rw [e1, e2])) (by omega)
  refine ⟨h.head, nd _ h.px fun p hp => (h4 p hp).1, nd _ h.tl fun p hp => (h4 p hp).2.2.2, fun a ha b hb => ?_, fun a ha => ?_⟩
  · rcases get a ha with rfl | ha1
    · rcases get b hb with rfl | hb1
      · exact h2
      · exact fun hh => (h4 b hb1).2.2.1 hh.symm
    · rcases get b hb with rfl | hb1
      · exact (h4 a ha1).2.1
      · exact h.pt a ha1 b hb1
  · rcases get a ha with rfl | ha1
    · exact h3
    · exact h.hd a ha1

theorem st_plane {H : Heap} {k : Bk} {i : Nat} {q q' : BPl} (h : BIn H k) (hap : Apart k) (hq : k.pl[i]? = some q) (hpx : SL 0 H (some ⟨q'.pb, 0, none⟩) q'.px.length q'.pc 3 (ints q'.px)) (htl : SL 0 H (some ⟨q'.tb, 0, none⟩) q'.tl.length q'.tc 3 (ints q'.tl))
    (hne : q'.pb ≠ k.lb ∧ q'.tb ≠ k.lb) {f : Heap → Prop} (hf : ∀ H', BIn H' (k.anew i q') → (∀ (b : Nat) (o : Obj), H[b]? = some o → b ≠ k.lb → H'[b]? = some o) → f H') : stAt H ⟨k.lb, i * 2, none⟩ [q'.pxV, q'.tlV] f := by
  obtain ⟨cs, h1, ⟨h2, h2'⟩, h3⟩ := h.l
  have hil := (List.getElem?_eq_some_iff.1 hq).1
  refine stAt_some h1 (by simp; omega) (by simp [BPl.pxV, BPl.tlV, Value.oneCell']) fun c' hc' hg => ?_
  have fr : ∀ (b : Nat) (o : Obj), H[b]? = some o → b ≠ k.lb → (H.setIfInBounds k.lb (.cells c' 51 (0, 0)))[b]? = some o := fun b o hb hn => get_set_ne (Ne.symm hn) hb
  have get : ∀ p ∈ (k.anew i q').pl, p = q' ∨ p ∈ k.pl := fun p hp => by
    obtain ⟨j, hj⟩ := List.getElem?_of_mem hp
    rcases anew_get hj with ⟨_, rfl⟩ | ⟨_, hj⟩
    · exact .inl rfl
    · exact .inr (List.mem_of_getElem? hj)
  refine hf _ ⟨?_, ⟨c', get_set_self h1, ⟨by show (k.pl.set i q').length ≤ k.lc; simpa using h2, by rw [hc', h2']; rfl⟩, fun j p hj => ?_⟩, fun p hp => ?_, fun p hp => ?_⟩ fr
  · have := fr _ _ h.book hap.head
    simpa [bookO, Bk.anew] using this
  · rw [hg, hg]
    simp only [List.length_cons, List.length_nil]
    rcases anew_get hj with ⟨rfl, rfl⟩ | ⟨hji, hj⟩
    · rw [if_pos (by omega), if_pos (by omega)]
      have e1 : 2 * j - j * 2 = 0 := by omega
      have e2 : 2 * j + 1 - j * 2 = 1 := by omega
      rw [e1, e2]
      exact ⟨rfl, rfl⟩
    · rw [if_neg (by omega), if_neg (by omega)]
      exact h3 j p hj
  · rcases get p hp with rfl | hp
    · exact hpx.keep1 fun o ho => fr _ _ ho hne.1
    · exact (h.px p hp).keep1 fun o ho => fr _ _ ho (hap.hd p hp).2.1
  · rcases get p hp with rfl | hp
    · exact htl.keep1 fun o ho => fr _ _ ho hne.2
    · exact (h.tl p hp).keep1 fun o ho => fr _ _ ho (hap.hd p hp).2.2.2

theorem zeros_sl {n0 : Nat} {H : Heap} {n b : Nat} (hb : n0 ≤ b) (h : H[b]? = some (.cells (List.toArray (reps n [Value.int .i64 0])) 3)) : SL n0 H (some ⟨b, 0, none⟩) n n 3 (ints (List.replicate n 0)) := by
  refine ⟨by simp [ints], Nat.le_refl _, .inr ⟨b, _, rfl, hb, h, by simp [reps_length], fun i v hv => ?_⟩⟩
  rw [List.getElem?_toArray]
  have hi : i < n := by have := (List.getElem?_eq_some_iff.1 hv).1; simpa [ints] using this
  rw [reps_get [Value.int .i64 0] (by decide) n i (by simpa using hi)]
  simp only [ints, List.map_replicate, List.getElem?_replicate, if_pos hi] at hv
  simpa [Nat.mod_one] using hv

end Go.Proofs
