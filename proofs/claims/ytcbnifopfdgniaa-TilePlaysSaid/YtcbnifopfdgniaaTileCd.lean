/-
  OWN WORK. The book's 'like': what is between the steps; it answers true.
-/
import Derived.Test.YtcbnifopfdgniaaTileCc
set_option linter.unusedVariables false
set_option linter.unusedSimpArgs false
namespace Go.Proofs
open Go.Sh Go.Tile

/-- What holds between the steps: planes, their slice, the book. -/
structure PB (cap : Int) (H0 H : Heap) (A : Nat) (lp : Option Addr) (ll lc : Nat) (s : St) (k : Bk) : Prop where
  pi : PI cap H0 H A lp ll lc s
  bin : BIn H k
  rel : Rel s k
  dim : BDim k
  apart : Apart k
  kcap : k.cap = cap
  n0 : 0 ≤ k.next
  low : H0.size ≤ k.B ∧ H0.size ≤ k.lb ∧ ∀ q ∈ k.pl, H0.size ≤ q.pb ∧ H0.size ≤ q.tb

theorem PB.ext {cap : Int} {H0 H H' : Heap} {A : Nat} {lp : Option Addr} {ll lc : Nat} {s : St} {k : Bk} (h : PB cap H0 H A lp ll lc s k) (he : Ext H H') : PB cap H0 H' A lp ll lc s k :=
  ⟨h.pi.ext he, h.bin.ext he, h.rel, h.dim, h.apart, h.kcap, h.n0, h.low⟩

theorem PB.klen {cap : Int} {H0 H : Heap} {A : Nat} {lp : Option Addr} {ll lc : Nat} {s : St} {k : Bk} (h : PB cap H0 H A lp ll lc s k) : k.pl.length = ll := by rw [← h.rel.len, h.pi.len]

theorem cap_le {cap : Int} {s : St} (h : Ok cap s) : 0 ≤ cap ∧ cap ≤ 1048576 := by
  have := h.count; have := h.free; have := h.capb; omega

theorem tiles_count {cap : Int} {s : St} {k : Bk} (d : BDim k) (r : Rel s k) (hok : Ok cap s) {j : Nat} {p : Pl} {q : BPl} (hp : s.pls[j]? = some p) (hq : k.pl[j]? = some q) : q.tl.countP (fun t => decide (t > 0)) = p.en.length := by
  have hqm := List.mem_of_getElem? hq
  have hpm := List.mem_of_getElem? hp
  have htl := d.tl q hqm
  have e1 : q.tl = (List.range q.tl.length).map fun a => q.tl.getD a 0 := by
    apply List.ext_getElem?
    intro i
    by_cases hi : i < q.tl.length
    · simp [hi]
    · rw [List.getElem?_eq_none_iff.2 (by omega), List.getElem?_eq_none_iff.2 (by simp; omega)]
  have e2 : q.tl.countP (fun t => decide (t > 0)) = ((List.range q.tl.length).filter fun a => decide (q.tl.getD a 0 > 0)).length := by
    conv => lhs; rw [e1]
    rw [List.countP_map, List.countP_eq_length_filter]
    rfl
  rw [e2]
  have hnd : ((List.range q.tl.length).filter fun a => decide (q.tl.getD a 0 > 0)).Nodup := List.Pairwise.filter _ List.nodup_range
  have hkeys := (hok.pl p hpm).keys
  have hlen : (p.en.map fun e => (e.x, e.y)).length = p.en.length := by simp
  have hmem : ∀ a, a ∈ ((List.range q.tl.length).filter fun a => decide (q.tl.getD a 0 > 0)) ↔ a < q.tl.length ∧ q.tl.getD a 0 > 0 := fun a => by simp [List.mem_filter]
  rw [← hlen]
  have kin : ∀ K L, (K, L) ∈ (p.en.map fun e => (e.x, e.y)) → inK k K L ∧ tlAt k q K L ≠ 0 := fun K L h => by
    have hn : tileOf p.en K L ≠ none := fun hh => (tileOf_none_iff.1 hh) h
    have hin := r.keys p hpm K L hn
    exact ⟨hin, fun hh => hn ((r.zero j p q hp hq K L hin).1 hh)⟩
  refine Nat.le_antisymm ?_ ?_
  · refine count_le (fun (a : Nat) (c : Int × Int) => c = ((a : Int) % k.wide, (a : Int) / k.wide) ∧ a < q.tl.length) hnd (fun a ha => ?_) (fun a ha a' ha' b h h' => ?_)
    · obtain ⟨h1, h2⟩ := (hmem a).1 ha
      obtain ⟨hin, hk⟩ := d.unkey (a := (a : Int)) (by omega) (by omega)
      refine ⟨_, ?_, rfl, h1⟩
      refine Classical.byContradiction fun hh => ?_
      have := (r.zero j p q hp hq _ _ hin).2 (tileOf_none_iff.2 hh)
      unfold tlAt at this
      rw [hk, Int.toNat_natCast] at this
      omega
    · obtain ⟨_, hk⟩ := d.unkey (a := (a : Int)) (by omega) (by omega)
      obtain ⟨_, hk'⟩ := d.unkey (a := (a' : Int)) (by omega) (by omega)
      have := h.1.symm.trans h'.1
      rw [Prod.mk.injEq] at this
      rw [this.1, this.2, hk'] at hk
      omega
  · refine count_le (fun (c : Int × Int) (a : Nat) => inK k c.1 c.2 ∧ (a : Int) = c.2 * k.wide + c.1) hkeys (fun c hc => ?_) (fun c hc c' hc' b h h' => ?_)
    · obtain ⟨hin, hne⟩ := kin c.1 c.2 hc
      have hkey := d.key hin
      refine ⟨(c.2 * k.wide + c.1).toNat, (hmem _).2 ⟨by omega, ?_⟩, hin, by omega⟩
      have := r.rng q hqm _ (List.mem_of_getElem? (d.tl_get hqm hin))
      have hv : q.tl.getD (c.2 * k.wide + c.1).toNat 0 = tlAt k q c.1 c.2 := rfl
      omega
    · obtain ⟨e1, e2⟩ := d.at_inj ⟨h.1.1, h.1.2.1⟩ ⟨h'.1.1, h'.1.2.1⟩ (by rw [← h.2, ← h'.2])
      exact Prod.ext e1 e2

set_option maxHeartbeats 2000000 in
theorem c22 {cap : Int} {H0 H : Heap} {A : Nat} {lp : Option Addr} {ll lc : Nat} {s : St} {k : Bk} (h : PB cap H0 H A lp ll lc s k) (n1 : k.next ≤ 100000000) (hll : ll ≤ 1000) {R : Value → Heap → Prop} (hR : ∀ H', Ext H H' → R (.bool true) H') :
    CallsH Try.prog 22 #[.pointer (some ⟨k.B, 0, none⟩), .pointer (some ⟨A, 0, none⟩), .slice lp ll lc] H R := by
  refine Try.s22 ?_
  unfold Try.S22 alc
  have hok := h.pi.at_.ok
  have d := h.dim
  have r := h.rel
  have kl := h.klen
  obtain ⟨c0, c1⟩ := cap_le hok
  obtain ⟨_, _, _, b3, _, _⟩ := h.bin.cells
  obtain ⟨z1, z2, z3, z4, z5, z6⟩ := d.size
  refine ⟨_, rfl, k.cap, by simpa using b3, ?_⟩
  rw [← h.pi.A]
  refine c18 h.pi.at_.inn.arena ⟨_, rfl, Ext.refl _, ?_⟩
  refine c31 h.bin h.n0 n1 (by omega) (fun p hp => ⟨by have := d.tl p hp; omega, fun t ht => (r.rng p hp t ht).2⟩) fun H1 D e1 hD hDm => ⟨_, rfl, e1, ?_⟩
  have hused := r.used d hok ⟨hD, hDm⟩
  have hcount := hok.count
  have hfree := hok.free
  have ewf : IntKind.wrap .i64 (k.cap - (D.length : Int)) = s.free := by
    rw [h.kcap, wrap_id (by omega) (by omega)]; omega
  rw [ewf]
  refine br_ne (fun hh => absurd rfl hh) (fun _ => ?_)
  have h1 := h.ext e1
  obtain ⟨_, _, _, _, _, b5⟩ := h1.bin.cells
  refine ⟨_, rfl, some ⟨k.lb, 0, none⟩, k.pl.length, k.lc, by simpa using b5, ?_⟩
  intro X hX
  have loop : ∀ (m j : Nat) (H2 : Heap), k.pl.length - j = m → j ≤ k.pl.length → Ext H H2 → X [.int .i64 j] H2 := by
    intro m
    induction m with
    | zero =>
      intro j H2 hm hj e2
      exact hX _ H2 (br_n (by omega) (hR H2 e2))
    | succ m ih =>
      intro j H2 hm hj e2
      have ewj : IntKind.wrap .i64 ((j : Int) + 1) = ((j + 1 : Nat) : Int) := by rw [wrap_id (by omega) (by omega)]; omega
      have h2 := h.ext e2
      obtain ⟨q, hq⟩ : ∃ q, k.pl[j]? = some q := ⟨_, List.getElem?_eq_getElem (by omega)⟩
      obtain ⟨p, hp⟩ := r.get' hq
      have hqm := List.mem_of_getElem? hq
      have hpm := List.mem_of_getElem? hp
      have qt := d.tl q hqm
      have qp := d.px q hqm
      obtain ⟨_, _, hrow⟩ := h2.bin.plane hq
      refine hX _ H2 (br_y (by omega) ⟨_, rfl, by omega, by omega, #[q.pxV, q.tlV], rfl, by simpa using hrow, rfl, copy_pl fun H3 e3 hc => ?_⟩)
      refine ⟨some ⟨q.tb, 0, none⟩, q.tl.length, q.tc, by rw [add_none, Nat.zero_add]; exact cell_get hc rfl, ?_⟩
      have h3 := h2.ext e3
      have slt := h3.bin.tl q hqm
      intro Y hY
      have inner : ∀ (m2 t : Nat), q.tl.length - t = m2 → t ≤ q.tl.length → Y [.int .i64 ((q.tl.take t).countP fun t => decide (t > 0)), .int .i64 t] H3 := by
        intro m2
        induction m2 with
        | zero =>
          intro t hm2 ht
          rw [List.take_of_length_le (by omega), tiles_count d r hok hp hq]
          refine hY _ _ H3 (br_n (by omega) ?_)
          obtain ⟨p2, hp2, blk, hlp, hcell⟩ := h3.pi.get (i := (j : Int)) (by omega) (by omega)
          rw [Int.toNat_natCast, hp] at hp2
          cases hp2
          refine ⟨_, hlp, by omega, by omega, some ⟨p.b, 0, none⟩, hcell, ?_⟩
          refine c19 (h3.pi.at_.inn.plane _ hpm) (h3.pi.at_.inn.map _ hpm) ⟨_, rfl, br_ne (fun hh => absurd rfl hh) (fun _ => ?_)⟩
          refine ⟨some ⟨q.pb, 0, none⟩, q.px.length, q.pc, by rw [add_none]; exact cell_get hc rfl, ?_⟩
          intro Z hZ
          have pix : ∀ (m3 i : Nat) (H4 : Heap), q.px.length - i = m3 → i ≤ q.px.length → Ext H3 H4 → Z [.int .i64 i] H4 := by
            intro m3
            induction m3 with
            | zero =>
              intro i H4 hm3 hi e4
              refine hZ _ H4 (br_n (by omega) ?_)
              rw [ewj]
              exact ih (j + 1) H4 (by omega) (by omega) (e2.trans (e3.trans e4))
            | succ m3 ih3 =>
              intro i H4 hm3 hi e4
              have ewi : IntKind.wrap .i64 ((i : Int) + 1) = ((i + 1 : Nat) : Int) := by rw [wrap_id (by omega) (by omega)]; omega
              have h4 := h3.ext e4
              have hil : i < q.px.length := by omega
              obtain ⟨x0, x1, x2, x3⟩ := d.xy (p := (i : Int)) (by omega) (by omega)
              have hv := r.px j p q hp hq _ _ x2 x3 x0 x1
              rw [(d.xyk (p := (i : Int)) (by omega) (by omega)).2.2, Int.toNat_natCast] at hv
              have hvc := (h4.bin.px q hqm).cell' (ints_get hv)
              obtain ⟨p2, hp2, blk, hlp, hcell⟩ := h4.pi.get (i := (j : Int)) (by omega) (by omega)
              rw [Int.toNat_natCast, hp] at hp2
              cases hp2
              obtain ⟨g0, _, _, _, _, _⟩ := h4.bin.cells
              have dw := d.w0
              have et : Int.tmod (i : Int) k.w = (i : Int) % k.w := Int.tmod_eq_emod_of_nonneg (by omega)
              have ed : Int.tdiv (i : Int) k.w = (i : Int) / k.w := Int.tdiv_eq_ediv_of_nonneg (by omega)
              have dh := d.h1
              refine hZ _ H4 (br_y (by omega) ⟨_, rfl, by omega, by omega, pxAt s p ((i : Int) % k.w) ((i : Int) / k.w), by simpa using hvc, _, hlp, by omega, by omega, some ⟨p.b, 0, none⟩, hcell, _, rfl, k.w, by simpa using g0, by omega, _, rfl, k.w, by simpa using g0, by omega, ?_⟩)
              rw [et, ed, wrap_id (n := (i : Int) / k.w) (by omega) (by omega), ewi]
              refine c20 h4.pi.at_.inn hok hpm _ _ fun H5 e5 => ⟨_, rfl, br_ne (fun hh => absurd rfl hh) (fun _ => ?_)⟩
              exact ih3 (i + 1) H5 (by omega) (by omega) (e4.trans e5)
          exact pix _ 0 H3 rfl (by omega) (Ext.refl _)
        | succ m2 ih2 =>
          intro t hm2 ht
          have ewt : IntKind.wrap .i64 ((t : Int) + 1) = ((t + 1 : Nat) : Int) := by rw [wrap_id (by omega) (by omega)]; omega
          have htl : t < q.tl.length := by omega
          have hv : q.tl[t]? = some q.tl[t] := List.getElem?_eq_getElem htl
          have htake : q.tl.take (t + 1) = q.tl.take t ++ [q.tl[t]] := List.take_succ_eq_append_getElem htl
          have hvc := slt.cell' (ints_get hv)
          have hcl : (q.tl.take t).countP (fun t => decide (t > 0)) ≤ t := Nat.le_trans List.countP_le_length (by simp; omega)
          have hnx := ih2 (t + 1) (by omega) (by omega)
          rw [htake, List.countP_append] at hnx
          generalize q.tl[t] = v at hv htake hvc hnx
          refine hY _ _ H3 (br_y (by omega) ⟨_, rfl, by omega, by omega, v, by simpa using hvc, br_dec (fun hpos => ?_) (fun hneg => ?_)⟩)
          · have ewn : IntKind.wrap .i64 (((q.tl.take t).countP (fun t => decide (t > 0)) : Nat) + 1 : Int) = (((q.tl.take t).countP (fun t => decide (t > 0)) + 1 : Nat) : Int) := by rw [wrap_id (by omega) (by omega)]; omega
            rw [ewn, ewt]
            have : [v].countP (fun t => decide (t > 0)) = 1 := by simp [hpos]
            rw [this] at hnx
            exact hnx
          · rw [ewt]
            have : [v].countP (fun t => decide (t > 0)) = 0 := by simp [hneg]
            rw [this, Nat.add_zero] at hnx
            exact hnx
      have := inner _ 0 rfl (by omega)
      simpa using this
  exact loop _ 0 H1 rfl (by omega) e1

end Go.Proofs
