/-
  OWN WORK. The book's 'step': the planes do what the book says, and stay alike.
-/
import Derived.Test.YtcbnifopfdgniaaTileCf
set_option linter.unusedVariables false
set_option linter.unusedSimpArgs false
namespace Go.Proofs
open Go.Sh Go.Tile

theorem PB.extAll {cap : Int} {H0 H : Heap} {A : Nat} {lp : Option Addr} {ll lc : Nat} {s : St} {k : Bk} (h : PB cap H0 H A lp ll lc s k) : Ext H0 H := h.pi.at_.ext

/-- One step further. -/
structure Nx (cap : Int) (H0 H' : Heap) (A : Nat) (lp : Option Addr) (ll lc : Nat) (s s' : St) (k k' : Bk) : Prop where
  pb : PB cap H0 H' A lp ll lc s' k'
  next : k'.next ≤ k.next + 16
  B : k'.B = k.B
  w : k'.w = k.w
  h : k'.h = k.h
  ptrs : ∀ (j : Nat) v, (Go.Proofs.ptrs s)[j]? = some v → (Go.Proofs.ptrs s')[j]? = some v

set_option maxHeartbeats 4000000 in
theorem c21 {cap : Int} {H0 H : Heap} {A : Nat} {lp : Option Addr} {ll lc : Nat} {s : St} {k : Bk} (h : PB cap H0 H A lp ll lc s k) (hnx : k.next ≤ 1000000) (hll : ll ≤ 900) {o : OpV} (ho : o.ok) {R : Value → Heap → Prop}
    (hR : ∀ H' lp' ll' lc' s' k', Nx cap H0 H' A lp' ll' lc' s s' k k' → ll' ≤ ll + 1 → R (.tuple #[.slice lp' ll' lc', .bool true]) H') :
    CallsH Try.prog 21 #[.pointer (some ⟨k.B, 0, none⟩), .slice lp ll lc, .agg o.cells] H R := by
  refine Try.s21 ?_
  unfold Try.S21
  refine show alc _ _ _ from ?_
  unfold alc
  obtain ⟨on, ox, oy, ow, oh⟩ := ho
  unfold i64 at on ox oy ow oh
  have hok := h.pi.at_.ok
  have d := h.dim
  have r := h.rel
  have kl := h.klen
  obtain ⟨z1, z2, z3, z4, z5, z6⟩ := d.size
  have dw0 := d.w0
  have dw1 := d.w1
  have dh0 := d.h0
  have dh1 := d.h1
  have hn0 := h.n0
  generalize hH1 : H.push _ = H1
  have e1 : Ext H H1 := by subst hH1; exact Ext.push _ _
  have s1 : H1[H.size]? = some (.cells o.cells 31) := by subst hH1; exact get_push_self _ _
  have rd : ∀ {H' : Heap} {i : Nat} {z : Int}, H'[H.size]? = some (.cells o.cells 31) → o.cells[i]? = some (Value.int .i64 z) → cell H' (Addr.add ⟨H.size, 0, none⟩ i) = some (Value.int .i64 z) := fun hs hz => by rw [add_none, Nat.zero_add]; exact cell_get hs hz
  have opE : Else (.cells o.cells 31) := fun cs => ⟨fun h => (by cases h), fun h => (by cases h), fun h => (by cases h)⟩
  have h1 := h.ext e1
  have same : ∀ H', Ext H1 H' → R (.tuple #[.slice lp ll lc, .bool true]) H' := fun H' e => hR H' lp ll lc s k ⟨h1.ext e, by omega, rfl, rfl, rfl, fun j v hv => hv⟩ (by omega)
  have tt : ∀ z : Int, ((z : Int) == z) = true := fun z => by simp
  intro J6 hJ6
  refine ⟨o.n, rd s1 rfl, br_dec (fun _ => same H1 (Ext.refl _)) (fun n0 => ⟨o.n, rd s1 rfl, br_dec (fun _ => same H1 (Ext.refl _)) (fun n1 => hJ6 H1 ?_)⟩)⟩
  obtain ⟨p, hp, blk, hlp, hcell⟩ := h1.pi.get (i := o.n) (by omega) (by omega)
  have hpm := List.mem_of_getElem? hp
  obtain ⟨q, hq⟩ := r.get hp
  have hqm := List.mem_of_getElem? hq
  have qt := d.tl q hqm
  have qp := d.px q hqm
  have hwh := r.wh p hpm
  have hnn : (o.n.toNat : Int) = o.n := by omega
  obtain ⟨⟨t1, ht1⟩, ⟨t2, ht2⟩, ht3⟩ := h1.bin.types
  obtain ⟨⟨t3, ht3⟩, ⟨t4, ht4⟩⟩ := ht3 q hqm
  have plcell : ∀ {H' : Heap}, PI cap H0 H' A lp ll lc s → cell H' (Addr.add ⟨blk, 0, none⟩ (Int.toNat o.n * 1)) = some (Value.pointer (some ⟨p.b, 0, none⟩)) := fun {H'} i => by
    obtain ⟨p2, hp2, blk2, hlp2, hc2⟩ := i.get (i := o.n) (by omega) (by omega)
    rw [hp] at hp2; cases hp2
    rw [hlp] at hlp2; cases hlp2
    exact hc2
  intro J8 hJ8
  have hright : (decide (0 ≤ o.v ∧ o.v < 4294967296)) = (decide (0 ≤ o.v) && decide (o.v < 4294967296)) := by simp
  suffices hmain : J8 [.bool (decide (0 ≤ o.v ∧ o.v < 4294967296))] H1 by
    refine ⟨o.v, rd s1 rfl, br_dec (fun v0 => ⟨o.v, rd s1 rfl, ?_⟩) (fun v0 => ?_)⟩
    · rw [hright, decide_eq_true (show 0 ≤ o.v from v0), Bool.true_and] at hmain; exact hmain
    · rw [hright, decide_eq_false (show ¬ 0 ≤ o.v from v0), Bool.false_and] at hmain; exact hmain
  refine hJ8 _ H1 ⟨o.kd, rd s1 rfl, br_eq (fun k1 => ?_) (fun k1 => br_eq (fun k2 => ?_) (fun k2 => br_eq (fun k3 => ?_) (fun k3 => br_eq (fun k4 => ?_) (fun k4 => same H1 (Ext.refl _)))))⟩
  -- Set
  · intro J hJ
    obtain ⟨g0, g1, _, _, _, _⟩ := h1.bin.cells
    have hhas : p.has o.x o.y = decide (0 ≤ o.x ∧ o.x < k.w ∧ 0 ≤ o.y ∧ o.y < k.h) := by unfold Pl.has; rw [hwh.1, hwh.2]
    -- what the plane's Set is held against
    have fin : ∀ (H2 : Heap) (want : Int), PI cap H0 H2 A lp ll lc s → H2[H.size]? = some (.cells o.cells 31) →
        CallsH Try.prog 12 #[.pointer (some ⟨p.b, 0, none⟩), .int .i64 o.x, .int .i64 o.y, .int .i64 o.v] H2 (fun u H' => ∃ z : Int, u = .int .i64 z ∧ R (.tuple #[.slice lp ll lc, .bool ((z : Int) == want)]) H') → J [.int .i64 want] H2 := fun H2 want i2 s2 hc =>
      hJ _ H2 ⟨o.n, rd s2 rfl, _, hlp, by omega, by omega, some ⟨p.b, 0, none⟩, plcell i2, o.x, rd s2 rfl, o.y, rd s2 rfl, o.v, rd s2 rfl, hc⟩
    have out : ¬ (0 ≤ o.x ∧ o.x < k.w ∧ 0 ≤ o.y ∧ o.y < k.h) → J [.int .i64 12] H1 := fun hn => by
      have hf : p.has o.x o.y = false := by rw [hhas]; exact decide_eq_false hn
      have hx : ∀ {P : Prop}, p.has o.x o.y = true → P := fun hh => by rw [hf] at hh; cases hh
      refine fin H1 12 h1.pi s1 (c12 h1.pi.at_.inn hok hp o.x o.y o.v (fun _ H' e => ⟨12, rfl, ?_⟩) (fun hh => hx hh) (fun hh => hx hh) (fun hh => hx hh) (fun hh => hx hh))
      rw [tt]; exact same H' e
    refine ⟨o.x, rd s1 rfl, br_dec (fun hh => out (by omega)) (fun x0 => ⟨o.x, rd s1 rfl, _, rfl, k.w, by simpa using g0, br_dec (fun hh => out (by omega)) (fun x1 => ⟨o.y, rd s1 rfl, br_dec (fun hh => out (by omega)) (fun y0 => ⟨o.y, rd s1 rfl, _, rfl, k.h, by simpa using g1, br_dec (fun hh => out (by omega)) (fun y1 => br_not (fun hr => ?_) (fun hr => ?_))⟩)⟩)⟩)⟩
    · have hin : p.has o.x o.y = true := by rw [hhas]; exact decide_eq_true (by omega)
      have hv := of_decide_eq_false hr
      refine fin H1 32 h1.pi s1 (c12 h1.pi.at_.inn hok hp o.x o.y o.v (fun hh => by rw [hin] at hh; cases hh) (fun _ _ H' e => ⟨32, rfl, ?_⟩) (fun _ hh => absurd hh hv) (fun _ hh => absurd hh hv) (fun _ hh => absurd hh hv))
      rw [tt]; exact same H' e
    · have hin : p.has o.x o.y = true := by rw [hhas]; exact decide_eq_true (by omega)
      have hv := of_decide_eq_true hr
      have m0 : 0 ≤ o.y * k.w := Int.mul_nonneg (by omega) (by omega)
      have m1 : (o.y + 1) * k.w ≤ k.h * k.w := Int.mul_le_mul_of_nonneg_right (by omega) (by omega)
      rw [Int.add_mul] at m1
      rw [Int.mul_comm k.w k.h] at z1 z2 
      have ew1 : IntKind.wrap .i64 (o.y * k.w) = o.y * k.w := wrap_id (by omega) (by omega)
      have ew2 : IntKind.wrap .i64 (o.y * k.w + o.x) = o.y * k.w + o.x := wrap_id (by omega) (by omega)
      refine ⟨o.n, rd s1 rfl, o.y, rd s1 rfl, _, rfl, k.w, by simpa using g0, o.x, rd s1 rfl, o.v, rd s1 rfl, Ext.push _ _, ?_⟩
      rw [ew1, ew2]
      have e2 : Ext H1 (H1.push (.cells #[Value.int .i64 (o.y * k.w + o.x)] 3)) := Ext.push _ _
      have sl2 : SL 0 (H1.push (.cells #[Value.int .i64 (o.y * k.w + o.x)] 3)) (some ⟨H1.size, 0, none⟩) 1 1 3 (ints [o.y * k.w + o.x]) := SL.one (Nat.zero_le _) (get_push_self _ _)
      generalize H1.push (.cells #[Value.int .i64 (o.y * k.w + o.x)] 3) = H2 at e2 sl2
      have h2 := h1.ext e2
      have i2 := h2.pi
      have hL : ∀ z ∈ [o.y * k.w + o.x], 0 ≤ z ∧ z < k.w * k.h := fun z hz => by
        rw [List.mem_singleton] at hz; subst hz; rw [Int.mul_comm k.w k.h]; omega
      have hcs : ∀ X Y, (X, Y) ∈ [(o.x, o.y)] ↔ ∃ z ∈ [o.y * k.w + o.x], X = z % k.w ∧ Y = z / k.w := fun X Y => by
        have a1 : (o.y * k.w + o.x) % k.w = o.x := by rw [Int.add_comm, Int.add_mul_emod_self_right]; exact Int.emod_eq_of_lt (by omega) (by omega)
        have a2 : (o.y * k.w + o.x) / k.w = o.y := by rw [Int.add_comm, Int.add_mul_ediv_right _ _ (by omega), Int.ediv_eq_zero_of_lt (by omega) (by omega)]; omega
        simp [a1, a2]
      have nkeq : ∀ (hne : pxAt s p o.x o.y ≠ o.v) (hnd : Go.Tile.needs s p (o.x / 16) (o.y / 16) = true), (needKeys s p o.v [(o.x, o.y)] []).length = 1 := fun hne hnd => by simp [needKeys, hne, hnd]
      have nkpx : pxAt s p o.x o.y = o.v → needKeys s p o.v [(o.x, o.y)] [] = [] := fun he => by simp [needKeys, he]
      rw [← hnn]
      refine h2.write hnx hll hp hq sl2 (fun b hb => by cases hb; have := lt_of_get ht1; have := lt_of_get ht3; have := lt_of_get ht4; exact ⟨by omega, by omega, by omega⟩) hL (by simp) hcs (fun H3 e3 hlt => ?_) (fun H3 C hC hle i3 b3 f3 => ?_)
      · refine ⟨30, rfl, fin H3 30 (i2.ext e3) (e3 _ _ (e2 _ _ s1)) ?_⟩
        have i3 := i2.ext e3
        have hfree := hok.free
        refine c12 i3.at_.inn hok hp o.x o.y o.v (fun hh => by rw [hin] at hh; cases hh) (fun _ hh => absurd hv hh) (fun _ _ hh => ?_) (fun _ _ _ _ _ H' e => ⟨30, rfl, ?_⟩) (fun _ _ hne H' s' hg hw => ?_)
        · rw [nkpx hh] at hlt; simp at hlt; omega
        · rw [tt]; exact same H' (e2.trans (e3.trans e))
        · have hpa := Paints.wrote hp hin hne hw (Paints.nil s')
          obtain ⟨p', pt⟩ := painted hv hpa hok hp
          have := pt.free
          have := pt.ok.free
          omega
      · refine ⟨0, rfl, fin H3 0 i3 (f3 _ _ (e2 _ _ s1) opE) ?_⟩
        have hfree := hok.free
        refine c12 i3.at_.inn hok hp o.x o.y o.v (fun hh => by rw [hin] at hh; cases hh) (fun _ hh => absurd hv hh) (fun _ _ hh H' e => ⟨0, rfl, ?_⟩) (fun _ _ hne hnd hf0 => ?_) (fun _ _ hne H' s' hg hw => ⟨0, rfl, ?_⟩)
        · rw [tt]
          obtain ⟨p', pt⟩ := painted hv (Paints.same hp hin hh (Paints.nil s)) hok hp
          obtain ⟨pb, hn⟩ := h2.wrote hp hq hL hcs hC pt (i3.ext e) (b3.ext e)
          exact hR H' lp ll lc s _ ⟨pb, hn, rfl, rfl, rfl, fun j v hv => hv⟩ (by omega)
        · have := nkeq hne hnd; omega
        · rw [tt]
          obtain ⟨p', pt⟩ := painted hv (Paints.wrote hp hin hne hw (Paints.nil s')) hok hp
          have hpt : Go.Proofs.ptrs s' = Go.Proofs.ptrs s := ptrs_views pt.views
          obtain ⟨pb, hn⟩ := h2.wrote hp hq hL hcs hC pt (i3.goes hg hpt pt.views.A) (b3.goes i3.at_.inn hg)
          exact hR H' lp ll lc s' _ ⟨pb, hn, rfl, rfl, rfl, fun j v hv => by rw [hpt]; exact hv⟩ (by omega)
  -- Fill
  · intro J hJ
    have fin : ∀ (H2 : Heap) (want : Int), PI cap H0 H2 A lp ll lc s → H2[H.size]? = some (.cells o.cells 31) →
        CallsH Try.prog 13 #[.pointer (some ⟨p.b, 0, none⟩), .int .i64 o.x, .int .i64 o.y, .int .i64 o.w, .int .i64 o.h, .int .i64 o.v] H2 (fun u H' => ∃ z : Int, u = .int .i64 z ∧ R (.tuple #[.slice lp ll lc, .bool ((z : Int) == want)]) H') → J [.int .i64 want] H2 := fun H2 want i2 s2 hc =>
      hJ _ H2 ⟨o.n, rd s2 rfl, _, hlp, by omega, by omega, some ⟨p.b, 0, none⟩, plcell i2, o.x, rd s2 rfl, o.y, rd s2 rfl, o.w, rd s2 rfl, o.h, rd s2 rfl, o.v, rd s2 rfl, hc⟩
    refine br_dec (fun hv => ?_) (fun hv => ?_)
    · refine ⟨o.n, rd s1 rfl, o.cells, rfl, rowIn_whole s1, o.v, rd s1 rfl, ?_⟩
      refine c30 h1.bin dw0 dw1 dh0 dh1 (o := o) ⟨on, ox, oy, ow, oh⟩ fun H2 pp pl pc L e2 sl2 hLn hLm => ⟨pp, pl, pc, rfl, e2, ?_⟩
      have h2 := h1.ext e2
      have i2 := h2.pi
      have hL : ∀ z ∈ L, 0 ≤ z ∧ z < k.w * k.h := fun z hz => by have := (hLm z).1 hz; exact ⟨this.1, this.2.1⟩
      have hLl : L.length ≤ 1000000 := by
        have := nodup_length_le (m := (List.range (k.w * k.h).toNat).map fun i : Nat => (i : Int)) hLn fun t ht => by
          have := hL t ht
          exact List.mem_map.2 ⟨t.toNat, List.mem_range.2 (by omega), by omega⟩
        simp at this
        omega
      have hcs : ∀ cs : List (Int × Int), (∀ X Y, (X, Y) ∈ cs ↔ (p.has X Y = true ∧ o.x ≤ X ∧ X < o.x + o.w ∧ o.y ≤ Y ∧ Y < o.y + o.h)) → ∀ X Y, (X, Y) ∈ cs ↔ ∃ z ∈ L, X = z % k.w ∧ Y = z / k.w := fun cs hh X Y => by
        rw [hh]
        have hhas : p.has X Y = true ↔ 0 ≤ X ∧ X < k.w ∧ 0 ≤ Y ∧ Y < k.h := by unfold Pl.has; rw [hwh.1, hwh.2]; simp
        rw [hhas]
        constructor
        · rintro ⟨⟨x0, x1, y0, y1⟩, hr⟩
          have a1 : (Y * k.w + X) % k.w = X := by rw [Int.add_comm, Int.add_mul_emod_self_right]; exact Int.emod_eq_of_lt (by omega) (by omega)
          have a2 : (Y * k.w + X) / k.w = Y := by rw [Int.add_comm, Int.add_mul_ediv_right _ _ (by omega), Int.ediv_eq_zero_of_lt (by omega) (by omega)]; omega
          have m0 : 0 ≤ Y * k.w := Int.mul_nonneg (by omega) (by omega)
          have m1 : (Y + 1) * k.w ≤ k.h * k.w := Int.mul_le_mul_of_nonneg_right (by omega) (by omega)
          rw [Int.add_mul] at m1
          rw [Int.mul_comm k.h k.w] at m1
          refine ⟨Y * k.w + X, (hLm _).2 ⟨by omega, by omega, ?_⟩, a1.symm, a2.symm⟩
          rw [a1, a2]; exact hr
        · rintro ⟨z, hz, rfl, rfl⟩
          obtain ⟨u0, u1, u2⟩ := (hLm z).1 hz
          obtain ⟨x0, x1, x2, x3⟩ := d.xy u0 u1
          exact ⟨⟨x2, x3, x0, x1⟩, u2⟩
      -- the rectangle's pixels, whatever list the plane goes by: the book's list gives one
      have csL : ∀ X Y, (X, Y) ∈ L.map (fun z => (z % k.w, z / k.w)) ↔ ∃ z ∈ L, X = z % k.w ∧ Y = z / k.w := fun X Y => by
        rw [List.mem_map]
        constructor
        · rintro ⟨z, hz, he⟩; cases he; exact ⟨z, hz, rfl, rfl⟩
        · rintro ⟨z, hz, rfl, rfl⟩; exact ⟨z, hz, rfl⟩
      rw [← hnn]
      refine h2.write hnx hll hp hq (sl2.keep' (fun b hb o ho => ho) |> fun x => ⟨x.len, x.le, x.at_.imp id fun ⟨b, cs, a1, _, a3⟩ => ⟨b, cs, a1, Nat.zero_le _, a3⟩⟩) (fun b hb => ?_) hL hLl csL (fun H3 e3 hlt => ?_) (fun H3 C hC hle i3 b3 f3 => ?_)
      · rcases sl2.at_ with ⟨a1, _⟩ | ⟨b', cs, a1, a2, _⟩
        · rw [a1] at hb; cases hb
        · rw [a1] at hb; cases hb
          have := lt_of_get ht1; have := lt_of_get ht3; have := lt_of_get ht4
          omega
      · refine ⟨30, rfl, fin H3 30 (i2.ext e3) (e3 _ _ (e2 _ _ s1)) ?_⟩
        have i3 := i2.ext e3
        refine c13 i3.at_.inn hok hp ox.1 ox.2 oy.1 oy.2 ow.1 ow.2 oh.1 oh.2 (fun hh => absurd hv hh) (fun _ cs hcs' => ⟨fun _ H' e => ⟨30, rfl, ?_⟩, fun hle => ?_⟩)
        · rw [tt]; exact same H' (e2.trans (e3.trans e))
        · obtain ⟨D, hD⟩ : ∃ C, TakesB k (Int.toNat o.n) q L o.v C := by
            have d1 := fun z hz => d.at (hL z hz).1 (hL z hz).2
            refine ⟨(((List.range (k.wide * ((k.h + 15) / 16)).toNat).map fun i : Nat => (i : Int)).filter fun a => @decide (∃ z ∈ L, hitB k (Int.toNat o.n) q o.v z ∧ a = k.at z) (Classical.propDecidable _)), List.Pairwise.filter _ ?_, fun a => ?_⟩
            · rw [List.pairwise_map]
              exact List.nodup_range.imp fun hh he => hh (by omega)
            · rw [List.mem_filter, @decide_eq_true_iff _ (Classical.propDecidable _)]
              constructor
              · rintro ⟨_, hh⟩; exact hh
              · rintro ⟨z, hz, hh, rfl⟩
                have := d1 z hz
                exact ⟨List.mem_map.2 ⟨(k.at z).toNat, List.mem_range.2 (by omega), by omega⟩, z, hz, hh, rfl⟩
          have a1 := (r.takes d hok hp hq hL csL hD).2
          have a2 := (r.takes d hok hp hq hL (hcs cs hcs') hD).2
          omega
      · refine ⟨0, rfl, fin H3 0 i3 (f3 _ _ (e2 _ _ s1) opE) ?_⟩
        refine c13 i3.at_.inn hok hp ox.1 ox.2 oy.1 oy.2 ow.1 ow.2 oh.1 oh.2 (fun hh => absurd hv hh) (fun _ cs hcs' => ⟨fun hlt => ?_, fun _ H' s' hg hw => ⟨0, rfl, ?_⟩⟩)
        · have a1 := (r.takes d hok hp hq hL csL hC).2
          have a2 := (r.takes d hok hp hq hL (hcs cs hcs') hC).2
          omega
        · rw [tt]
          obtain ⟨p', pt⟩ := painted hv hw hok hp
          have hpt : Go.Proofs.ptrs s' = Go.Proofs.ptrs s := ptrs_views pt.views
          obtain ⟨pb, hn⟩ := h2.wrote hp hq hL (hcs cs hcs') hC pt (i3.goes hg hpt pt.views.A) (b3.goes i3.at_.inn hg)
          exact hR H' lp ll lc s' _ ⟨pb, hn, rfl, rfl, rfl, fun j v hv => by rw [hpt]; exact hv⟩ (by omega)
    · refine fin H1 32 h1.pi s1 (c13 h1.pi.at_.inn hok hp ox.1 ox.2 oy.1 oy.2 ow.1 ow.2 oh.1 oh.2 (fun _ H' e => ⟨32, rfl, ?_⟩) (fun hh => absurd hh hv))
      rw [tt]; exact same H' e
  -- Snap
  · obtain ⟨_, _, _, _, _, g5⟩ := h1.bin.cells
    obtain ⟨_, _, hrow⟩ := h1.bin.plane hq
    refine ⟨_, rfl, some ⟨k.lb, 0, none⟩, k.pl.length, k.lc, by simpa using g5, o.n, rd s1 rfl, _, rfl, by omega, by omega, #[q.pxV, q.tlV], rfl, by simpa using hrow, Ext.push _ _, rfl, copy_pl fun H2 e2 hc => ?_⟩
    have h2 := h1.ext e2
    have s2 := e2 _ _ s1
    obtain ⟨_, _, _, _, _, f5⟩ := h2.bin.cells
    refine ⟨_, rfl, some ⟨k.lb, 0, none⟩, k.pl.length, k.lc, by simpa using f5, some ⟨q.pb, 0, none⟩, q.px.length, q.pc, by rw [add_none]; exact cell_get hc rfl, some ⟨q.tb, 0, none⟩, q.tl.length, q.tc, by rw [add_none, Nat.zero_add]; exact cell_get hc rfl, ?_⟩
    have slp := h2.bin.px q hqm
    have slt := h2.bin.tl q hqm
    have fin : ∀ (Hx : Heap) (pb pc tb tc : Nat), Ext H2 Hx → SL H2.size Hx (some ⟨pb, 0, none⟩) q.px.length pc 3 (ints q.px) → SL H2.size Hx (some ⟨tb, 0, none⟩) q.tl.length tc 3 (ints q.tl) → pb ≠ tb →
        (#[Value.slice (some ⟨pb, 0, none⟩) q.px.length pc, Value.slice (some ⟨tb, 0, none⟩) q.tl.length tc].size = 2 ∧ 0 + 2 ≤ 2 ∧ alc Hx (.cells (List.toArray (setL [Value.slice none 0 0, Value.slice none 0 0] 0 (Array.toList #[Value.slice (some ⟨pb, 0, none⟩) q.px.length pc, Value.slice (some ⟨tb, 0, none⟩) q.tl.length tc]))) 51) fun b86 H_87 => Ext Hx H_87 ∧ appQ 2 48 #[Value.slice none 0 0, Value.slice none 0 0] H_87 (some ⟨k.lb, 0, none⟩) k.pl.length k.lc (some ⟨b86, 0, none⟩) 1 51 fun app88p app88l app88c H_89 => ∃ a90 : Addr, (some ⟨k.B, 0, none⟩ : Option Addr) = some a90 ∧ stAt H_89 (Addr.add a90 5) [Value.slice app88p app88l app88c] fun H_91 => ∃ N92 : Int, cell H_91 (Addr.add ⟨H.size, 0, none⟩ 1) = some (Value.int .i64 N92) ∧ ∃ a93 : Addr, lp = some a93 ∧ 0 ≤ N92 ∧ N92 < ((ll : Nat) : Int) ∧ ∃ v94 : Option Addr, cell H_91 (Addr.add a93 (Int.toNat N92 * 1)) = some (Value.pointer v94) ∧ CallsH Try.prog 14 #[Value.pointer v94] H_91 fun r95 H_96 => ∃ q97 : Option Addr, r95 = Value.pointer q97 ∧ alc H_96 (.cells #[Value.pointer q97] 26) fun b98 H_99 => appQ 1 8 #[Value.pointer none] H_99 lp ll lc (some ⟨b98, 0, none⟩) 1 26 fun app100p app100l app100c H_101 => R (Value.tuple #[Value.slice app100p app100l app100c, Value.bool (!(Option.isNone q97))]) H_101) := by
      intro Hx pb pc tb tc ex spx stx hpt
      refine ⟨rfl, by omega, ?_⟩
      unfold alc
      have hx := h2.ext ex
      have he : (List.toArray (setL [Value.slice none 0 0, Value.slice none 0 0] 0 (Array.toList #[Value.slice (some ⟨pb, 0, none⟩) q.px.length pc, Value.slice (some ⟨tb, 0, none⟩) q.tl.length tc]))) = #[Value.slice (some ⟨pb, 0, none⟩) q.px.length pc, Value.slice (some ⟨tb, 0, none⟩) q.tl.length tc] := rfl
      rw [he]
      have e3 : Ext Hx (Hx.push (.cells #[Value.slice (some ⟨pb, 0, none⟩) q.px.length pc, Value.slice (some ⟨tb, 0, none⟩) q.tl.length tc] 51)) := Ext.push _ _
      have hbt := get_push_self Hx (.cells #[Value.slice (some ⟨pb, 0, none⟩) q.px.length pc, Value.slice (some ⟨tb, 0, none⟩) q.tl.length tc] 51)
      refine ⟨e3, ?_⟩
      generalize Hx.push (.cells #[Value.slice (some ⟨pb, 0, none⟩) q.px.length pc, Value.slice (some ⟨tb, 0, none⟩) q.tl.length tc] 51) = H3 at e3 hbt
      have h3 := hx.ext e3
      have s3 := e3 _ _ (ex _ _ s2)
      generalize hq' : (⟨q.px, q.tl, pb, tb, pc, tc⟩ : BPl) = q'
      have hbt' : H3[Hx.size]? = some (.cells #[q'.pxV, q'.tlV] 51) := by subst hq'; exact hbt
      obtain ⟨⟨u1, hu1⟩, ⟨u2, hu2⟩, hu3⟩ := h3.bin.types
      obtain ⟨⟨w1, hw1⟩, ⟨w2, hw2⟩, hw3⟩ := h2.bin.types
      have lowB := lt_of_get hw1
      have lowl := lt_of_get hw2
      have hpb : H2.size ≤ pb ∧ pb < Hx.size := ⟨by rcases spx.at_ with ⟨a, _⟩ | ⟨b, cs, a, a2, _⟩ <;> cases a; exact a2, spx.some_lt⟩
      have htb : H2.size ≤ tb ∧ tb < Hx.size := ⟨by rcases stx.at_ with ⟨a, _⟩ | ⟨b, cs, a, a2, _⟩ <;> cases a; exact a2, stx.some_lt⟩
      have hsz3 := e3.size
      refine app_plane (q' := q') h3.bin hbt' (by omega) fun lb' lc' H4 hlb hl4 hk4 hsz4 => ⟨_, rfl, ?_⟩
      simp only [add_none, Nat.zero_add]
      have hB4 : H4[k.B]? = some (bookO k) := hk4 _ _ h3.bin.book h3.apart.head
      refine st_more (q := q') hB4 ?_
      have hlbB : lb' ≠ k.B := by
        rcases hlb with rfl | rfl
        · exact Ne.symm h3.apart.head
        · have := lt_of_get hu1; omega
      have hk5 : ∀ (b : Nat) (o : Obj), H4[b]? = some o → b ≠ k.B → (H4.setIfInBounds k.B (bookO (k.more lb' lc' q')))[b]? = some o := fun b o hb hn => get_set_ne (Ne.symm hn) hb
      have hB5 : (H4.setIfInBounds k.B (bookO (k.more lb' lc' q')))[k.B]? = some (bookO (k.more lb' lc' q')) := get_set_self hB4
      generalize H4.setIfInBounds k.B (bookO (k.more lb' lc' q')) = H5 at hk5 hB5
      have k35 : ∀ (b : Nat) (o : Obj), H3[b]? = some o → b ≠ k.lb → b ≠ k.B → H5[b]? = some o := fun b o hb n1 n2 => hk5 _ _ (hk4 _ _ hb n1) n2
      have bin5 : BIn H5 (k.more lb' lc' q') := by
        obtain ⟨cs, a1, a2, a3⟩ := hl4
        refine ⟨hB5, ⟨cs, hk5 _ _ a1 hlbB, by simpa [Bk.more] using a2, a3⟩, fun p1 hp1 => ?_, fun p1 hp1 => ?_⟩
        · rcases List.mem_append.1 hp1 with hp1 | hp1
          · exact (h3.bin.px p1 hp1).keep1 fun o ho => k35 _ _ ho (h3.apart.hd p1 hp1).2.1 (h3.apart.hd p1 hp1).1
          · rw [List.mem_singleton] at hp1; rw [hp1]; subst hq'
            refine (spx.ext e3).keep1 (fun o ho => k35 _ _ ho (by show pb ≠ k.lb; omega) (by show pb ≠ k.B; omega)) |> fun x => ⟨x.len, x.le, x.at_.imp id fun ⟨b, cs, a1, _, a3⟩ => ⟨b, cs, a1, Nat.zero_le _, a3⟩⟩
        · rcases List.mem_append.1 hp1 with hp1 | hp1
          · exact (h3.bin.tl p1 hp1).keep1 fun o ho => k35 _ _ ho (h3.apart.hd p1 hp1).2.2.2 (h3.apart.hd p1 hp1).2.2.1
          · rw [List.mem_singleton] at hp1; rw [hp1]; subst hq'
            refine (stx.ext e3).keep1 (fun o ho => k35 _ _ ho (by show tb ≠ k.lb; omega) (by show tb ≠ k.B; omega)) |> fun x => ⟨x.len, x.le, x.at_.imp id fun ⟨b, cs, a1, _, a3⟩ => ⟨b, cs, a1, Nat.zero_le _, a3⟩⟩
      have i5 : PI cap H0 H5 A lp ll lc s := h3.pi.keepT fun b o hb hn => k35 b o hb (fun hh => by subst hh; rw [hu2] at hb; cases hb; exact (hn u2 h.low.2.1).2.2 rfl) (fun hh => by subst hh; rw [hu1] at hb; cases hb; exact (hn u1 h.low.1).2.1 rfl)
      have s5 : H5[H.size]? = some (.cells o.cells 31) := k35 _ _ s3 (fun hh => by rw [hh, hu2] at s3; cases s3) (fun hh => by rw [hh, hu1] at s3; cases s3)
      have hlen := i5.len
      have hsz5 : H2.size ≤ H5.size := Nat.le_trans (Nat.le_trans ex.size hsz3) (Nat.le_trans hsz4 (Nat.le_of_not_lt fun hh => by
        have := hk5 (H4.size - 1) _ (Array.getElem?_eq_getElem (by omega)) (fun hh2 => by have := lt_of_get hB5; omega)
        have := lt_of_get this
        omega))
      refine ⟨o.n, by simpa using rd (i := 1) (z := o.n) s5 rfl, _, hlp, by omega, by omega, some ⟨p.b, 0, none⟩, by simpa using plcell i5, ?_⟩
      refine c14 i5.at_.inn hok hpm (by omega) fun H6 b m done hb hsame hg => ⟨_, rfl, ?_⟩
      have bin6 := bin5.goes i5.at_.inn hg
      refine i5.snap2 (q := snapPl p b m done) hg (by omega) fun lp' lc2 H7 i7 hk7 => ?_
      have bin7 : BIn H7 (k.more lb' lc' q') := by
        obtain ⟨cs, a1, a2⟩ := bin6.l
        exact ⟨hk7 _ _ bin6.book fun cs h => (by cases h), ⟨cs, hk7 _ _ a1 fun cs h => (by cases h), a2⟩, fun p1 hp1 => (bin6.px p1 hp1).keep fun b cs _ hb => hk7 _ _ hb fun cs h => (by cases h), fun p1 hp1 => (bin6.tl p1 hp1).keep fun b cs _ hb => hk7 _ _ hb fun cs h => (by cases h)⟩
      have blt : ∀ p1 ∈ k.pl, p1.pb < H2.size ∧ p1.tb < H2.size := fun p1 hp1 => by
        obtain ⟨⟨c1, hc1⟩, ⟨c2, hc2⟩⟩ := hw3 p1 hp1
        exact ⟨lt_of_get hc1, lt_of_get hc2⟩
      have hlbN : lb' = k.lb ∨ Hx.size ≤ lb' := hlb.imp id fun hh => by rw [hh]; omega
      have apart7 : Apart (k.more lb' lc' q') := by
        have hpb' : q'.pb = pb := by subst hq'; rfl
        have htb' : q'.tb = tb := by subst hq'; rfl
        refine h3.apart.more (Ne.symm hlbB) (by rw [hpb', htb']; exact hpt) (by rw [hpb', htb']; refine ⟨by omega, ?_, by omega, ?_⟩ <;> (rcases hlbN with hh | hh <;> omega)) fun p1 hp1 => ?_
        obtain ⟨c1, c2⟩ := blt p1 hp1
        obtain ⟨_, c3, _, c4⟩ := h3.apart.hd p1 hp1
        rw [hpb', htb']
        have hxs := ex.size
        refine ⟨by omega, by omega, by omega, by omega, ?_, ?_⟩ <;> (rcases hlbN with hh | hh <;> omega)
      have rel7 := r.snap hok hn0 hp hq (b := b) (m := m) hsame (q' := q') (by subst hq'; rfl) (by subst hq'; rfl) lb' lc'
      have hH0 : H0.size ≤ H2.size := h2.extAll.size
      have hxs := ex.size
      refine hR H7 lp' (ll + 1) lc2 (snapS s (snapPl p b m done)) (k.more lb' lc' q') ⟨⟨i7, bin7, rel7, d.more hqm (by subst hq'; rfl) (by subst hq'; rfl), apart7, h.kcap, hn0, h.low.1, ?_, fun q1 hq1 => ?_⟩, by show k.next ≤ _; omega, rfl, rfl, rfl, fun j v hv => ?_⟩ (by omega)
      · show H0.size ≤ lb'
        rcases hlbN with hh | hh
        · rw [hh]; exact h.low.2.1
        · omega
      · rcases List.mem_append.1 hq1 with hq1 | hq1
        · exact h.low.2.2 q1 hq1
        · rw [List.mem_singleton] at hq1; rw [hq1]; subst hq'
          show H0.size ≤ pb ∧ H0.size ≤ tb
          omega
      · rw [ptrs_snap, List.getElem?_append_left (List.getElem?_eq_some_iff.1 hv).1]; exact hv
    have hqpl : q.px.length ≤ 1000000 := by omega
    have hqtl : q.tl.length ≤ 1000000 := by omega
    refine ⟨⟨Ext.push _ _, ?_⟩, ⟨Ext.push _ _, ?_⟩⟩
    · have g1 := get_push_self H2 (.cells #[] 3)
      have x1 : Ext H2 (H2.push (.cells #[] 3)) := Ext.push _ _
      generalize hG : H2.push (.cells #[] 3) = G1 at g1 x1
      refine ⟨?_, ⟨Ext.push _ _, ?_⟩⟩
      · refine app_copy (n0 := H2.size) (Nat.le_refl _) g1 (slp.ext x1) hqpl fun b' c' G2 hb' hn' x2 sl2 => ⟨x2, Ext.push _ _, ?_⟩
        have g3 := get_push_self G2 (.cells #[] 3)
        have x3 : Ext G2 (G2.push (.cells #[] 3)) := Ext.push _ _
        have hsz := x1.size
        have hsz2 := x2.size
        refine app_copy (n0 := H2.size) (by omega) g3 (slt.ext (x1.trans (x2.trans x3))) hqtl fun b2 c2 G4 hb2 hn2 x4 sl4 => ⟨x4, ?_⟩
        have hlt := sl2.some_lt
        refine fin G4 b' c' b2 c2 (x1.trans (x2.trans (x3.trans x4))) ((sl2.ext x3).ext x4) sl4 ?_
        have := x3.size
        rcases hb2 with rfl | rfl <;> omega
      · have g3 := get_push_self G1 (.cells #[] 3)
        have x3 : Ext G1 (G1.push (.cells #[] 3)) := Ext.push _ _
        have hsz : H2.size < G1.size := by rw [← hG]; simp
        have hsz3 : (G1.push (.cells #[] 3)).size = G1.size + 1 := by simp
        generalize G1.push (.cells #[] 3) = G3 at g3 x3 hsz3
        refine app_copy (n0 := H2.size) (Nat.le_refl _) (x3 _ _ g1) (slp.ext (x1.trans x3)) hqpl fun b' c' G4 hb' hn' x4 sl4 => ⟨x4, ?_⟩
        have hsz4 := x4.size
        have hlt := sl4.some_lt
        refine app_copy (n0 := H2.size) (by omega) (x4 _ _ g3) (slt.ext (x1.trans (x3.trans x4))) hqtl fun b2 c2 G5 hb2 hn2 x5 sl5 => ⟨x5, ?_⟩
        refine fin G5 b' c' b2 c2 (x1.trans (x3.trans (x4.trans x5))) (sl4.ext x5) sl5 ?_
        rcases hb' with rfl | rfl <;> rcases hb2 with rfl | rfl <;> omega
    · have g1 := get_push_self H2 (.cells #[] 3)
      have x1 : Ext H2 (H2.push (.cells #[] 3)) := Ext.push _ _
      have hsz : (H2.push (.cells #[] 3)).size = H2.size + 1 := by simp
      generalize H2.push (.cells #[] 3) = G1 at g1 x1 hsz
      have g3 := get_push_self G1 (.cells #[] 3)
      have x3 : Ext G1 (G1.push (.cells #[] 3)) := Ext.push _ _
      have hsz3 : (G1.push (.cells #[] 3)).size = G1.size + 1 := by simp
      refine ⟨x3, ?_⟩
      generalize G1.push (.cells #[] 3) = G3 at g3 x3 hsz3
      refine app_copy (n0 := H2.size) (by omega) g3 (slp.ext (x1.trans x3)) hqpl fun b' c' G4 hb' hn' x4 sl4 => ⟨x4, ?_⟩
      have hsz4 := x4.size
      have hlt := sl4.some_lt
      refine app_copy (n0 := H2.size) (Nat.le_refl _) (x4 _ _ (x3 _ _ g1)) (slt.ext (x1.trans (x3.trans x4))) hqtl fun b2 c2 G5 hb2 hn2 x5 sl5 => ⟨x5, ?_⟩
      refine fin G5 b' c' b2 c2 (x1.trans (x3.trans (x4.trans x5))) (sl4.ext x5) sl5 ?_
      rcases hb' with rfl | rfl <;> rcases hb2 with rfl | rfl <;> omega
  -- Drop
  · refine ⟨o.n, rd s1 rfl, _, hlp, by omega, by omega, some ⟨p.b, 0, none⟩, hcell, ?_⟩
    refine c17 h1.pi.at_.inn hok hp fun H2 hg => ⟨rfl, ?_⟩
    have i2 := h1.pi.goes hg (ptrs_drop hp) rfl
    have b2 := h1.bin.goes h1.pi.at_.inn hg
    have s2 : H2[H.size]? = some (.cells o.cells 31) := hg.fr _ _ s1 (not_owned h1.pi.at_.inn (.inr (.inr rfl)) s1)
    obtain ⟨_, _, _, _, _, g5⟩ := b2.cells
    obtain ⟨gp, gt, _⟩ := b2.plane hq
    have rel2 := fun (q' : BPl) hx ht => r.dropped (q' := q') d hok hn0 hp hq hx ht
    refine ⟨_, rfl, some ⟨k.lb, 0, none⟩, k.pl.length, k.lc, by simpa using g5, o.n, rd s2 rfl, _, rfl, some ⟨k.lb, 0, none⟩, k.pl.length, k.lc, by simpa using g5, o.n, rd s2 rfl, _, rfl, by omega, by omega, some ⟨q.pb, 0, none⟩, q.px.length, q.pc, by simpa [BPl.pxV] using gp, _, rfl, some ⟨k.lb, 0, none⟩, k.pl.length, k.lc, by simpa using g5, o.n, rd s2 rfl, _, rfl, by omega, by omega,
      some ⟨q.tb, 0, none⟩, q.tl.length, q.tc, by simpa [BPl.tlV] using gt, ?_⟩
    simp only [Int.toNat_natCast]
    have fin : ∀ (Hx : Heap) (pb tb : Nat), Ext H2 Hx → SL H2.size Hx (some ⟨pb, 0, none⟩) q.px.length q.px.length 3 (ints (List.replicate q.px.length 0)) → SL H2.size Hx (some ⟨tb, 0, none⟩) q.tl.length q.tl.length 3 (ints (List.replicate q.tl.length 0)) → pb ≠ tb →
        (∃ a170 : Addr, (some ⟨k.lb, 0, none⟩ : Option Addr) = some a170 ∧ 0 ≤ o.n ∧ o.n < ((k.pl.length : Nat) : Int) ∧ #[Value.slice (some ⟨pb, 0, none⟩) q.px.length q.px.length, Value.slice (some ⟨tb, 0, none⟩) q.tl.length q.tl.length].size = 2 ∧ stAt Hx (Addr.add a170 (Int.toNat o.n * 2)) (Array.toList #[Value.slice (some ⟨pb, 0, none⟩) q.px.length q.px.length, Value.slice (some ⟨tb, 0, none⟩) q.tl.length q.tl.length]) fun H_171 => R (Value.tuple #[Value.slice lp ll lc, Value.bool true]) H_171) := by
      intro Hx pb tb ex spx stx hpt
      refine ⟨_, rfl, by omega, by omega, rfl, ?_⟩
      have bx := b2.ext ex
      have ix := i2.ext ex
      obtain ⟨⟨u1, hu1⟩, ⟨u2, hu2⟩, hu3⟩ := b2.types
      have lowB := lt_of_get hu1
      have lowl := lt_of_get hu2
      have hpb : H2.size ≤ pb := by rcases spx.at_ with ⟨a, _⟩ | ⟨b, cs, a, a2, _⟩ <;> cases a; exact a2
      have htb : H2.size ≤ tb := by rcases stx.at_ with ⟨a, _⟩ | ⟨b, cs, a, a2, _⟩ <;> cases a; exact a2
      generalize hq' : (⟨List.replicate q.px.length 0, List.replicate q.tl.length 0, pb, tb, q.px.length, q.tl.length⟩ : BPl) = q'
      have e1 : [Value.slice (some ⟨pb, 0, none⟩) q.px.length q.px.length, Value.slice (some ⟨tb, 0, none⟩) q.tl.length q.tl.length] = [q'.pxV, q'.tlV] := by subst hq'; simp [BPl.pxV, BPl.tlV]
      show stAt Hx (Addr.add ⟨k.lb, 0, none⟩ (Int.toNat o.n * 2)) [Value.slice (some ⟨pb, 0, none⟩) q.px.length q.px.length, Value.slice (some ⟨tb, 0, none⟩) q.tl.length q.tl.length] _
      rw [e1, add_none, Nat.zero_add]
      have z0 : ∀ {b n c : Nat} {l : List Value}, SL H2.size Hx (some ⟨b, 0, none⟩) n c 3 l → SL 0 Hx (some ⟨b, 0, none⟩) n c 3 l := fun x => ⟨x.len, x.le, x.at_.imp id fun ⟨b, cs, a1, _, a3⟩ => ⟨b, cs, a1, Nat.zero_le _, a3⟩⟩
      refine st_plane (q' := q') bx h.apart hq (by subst hq'; simpa using z0 spx) (by subst hq'; simpa using z0 stx) (by subst hq'; exact ⟨by show pb ≠ k.lb; omega, by show tb ≠ k.lb; omega⟩) fun H3 b3 hk3 => ?_
      have hu2x := ex _ _ hu2
      have i3 : PI cap H0 H3 A lp ll lc (dropS s (Int.toNat o.n) p) := ix.keepT fun b o hb hn => hk3 b o hb (fun hh => by subst hh; rw [hu2x] at hb; cases hb; exact (hn u2 h.low.2.1).2.2 rfl)
      have blt : ∀ p1 ∈ k.pl, p1.pb < H2.size ∧ p1.tb < H2.size := fun p1 hp1 => by
        obtain ⟨⟨c1, hc1⟩, ⟨c2, hc2⟩⟩ := hu3 p1 hp1
        exact ⟨lt_of_get hc1, lt_of_get hc2⟩
      have apart3 : Apart (k.anew (Int.toNat o.n) q') := by
        have hpb' : q'.pb = pb := by subst hq'; rfl
        have htb' : q'.tb = tb := by subst hq'; rfl
        refine h.apart.anew hq (by rw [hpb', htb']; exact hpt) (by rw [hpb', htb']; omega) fun p1 hp1 => ?_
        obtain ⟨c1, c2⟩ := blt p1 hp1
        rw [hpb', htb']
        omega
      have hH0 : H0.size ≤ H2.size := i2.at_.ext.size
      refine hR H3 lp ll lc (dropS s (Int.toNat o.n) p) (k.anew (Int.toNat o.n) q') ⟨⟨i3, b3, rel2 q' (by subst hq'; rfl) (by subst hq'; rfl), d.anew hq (by subst hq'; simp) (by subst hq'; simp), apart3, h.kcap, hn0, h.low.1, h.low.2.1, fun q1 hq1 => ?_⟩, by show k.next ≤ _; omega, rfl, rfl, rfl, fun j v hv => by rw [ptrs_drop hp]; exact hv⟩ (by omega)
      obtain ⟨j, hj⟩ := List.getElem?_of_mem hq1
      rcases anew_get hj with ⟨_, rfl⟩ | ⟨_, hj⟩
      · subst hq'
        show H0.size ≤ pb ∧ H0.size ≤ tb
        omega
      · exact h.low.2.2 q1 (List.mem_of_getElem? hj)
    refine ⟨⟨by omega, by omega, by omega, by omega, Ext.push _ _, by omega, by omega, by omega, by omega, Ext.push _ _, ?_⟩, ⟨by omega, by omega, by omega, by omega, Ext.push _ _, by omega, by omega, by omega, by omega, Ext.push _ _, ?_⟩⟩
    · refine fin _ H2.size (H2.push _).size ((Ext.push _ _).trans (Ext.push _ _)) ((zeros_sl (Nat.le_refl _) (get_push_self _ _)).ext (Ext.push _ _)) (zeros_sl (by simp) (get_push_self _ _)) (by simp)
    · refine fin _ (H2.push _).size H2.size ((Ext.push _ _).trans (Ext.push _ _)) (zeros_sl (by simp) (get_push_self _ _)) ((zeros_sl (Nat.le_refl _) (get_push_self _ _)).ext (Ext.push _ _)) (by simp)

end Go.Proofs
