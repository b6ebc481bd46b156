/-
  OWN WORK. The book's 'write', whole.
-/
import Derived.Test.YtcbnifopfdgniaaTileBz
set_option linter.unusedVariables false
set_option linter.unusedSimpArgs false
namespace Go.Proofs
open Go.Sh Go.Tile

structure BDim (k : Bk) : Prop where
  w0 : 1 ≤ k.w
  w1 : k.w ≤ 60
  h0 : 0 ≤ k.h
  h1 : k.h ≤ 60
  wd : k.wide = (k.w + 15) / 16
  px : ∀ p ∈ k.pl, (p.px.length : Int) = k.w * k.h
  tl : ∀ p ∈ k.pl, (p.tl.length : Int) = k.wide * ((k.h + 15) / 16)

/-- The tile's place of a pixel's place. -/
def Bk.at (k : Bk) (p : Int) : Int := p / k.w / 16 * k.wide + p % k.w / 16

theorem BDim.xy {k : Bk} (d : BDim k) {p : Int} (h0 : 0 ≤ p) (h1 : p < k.w * k.h) : 0 ≤ p / k.w ∧ p / k.w < k.h ∧ 0 ≤ p % k.w ∧ p % k.w < k.w := by
  have := d.w0
  exact ⟨Int.ediv_nonneg h0 (by omega), Int.ediv_lt_of_lt_mul (by omega) (by rw [Int.mul_comm]; exact h1), Int.emod_nonneg p (by omega), Int.emod_lt_of_pos p (by omega)⟩

theorem BDim.size {k : Bk} (d : BDim k) : 0 ≤ k.w * k.h ∧ k.w * k.h ≤ 3600 ∧ 0 ≤ k.wide * ((k.h + 15) / 16) ∧ k.wide * ((k.h + 15) / 16) ≤ 16 ∧ 1 ≤ k.wide ∧ k.wide ≤ 4 := by
  have := d.w0; have := d.w1; have := d.h0; have := d.h1; have := d.wd
  have e : k.wide ≤ 4 := by omega
  have e1 : 1 ≤ k.wide := by omega
  have f : (k.h + 15) / 16 ≤ 4 := by omega
  have f0 : 0 ≤ (k.h + 15) / 16 := by omega
  have a1 : 0 ≤ k.w * k.h := Int.mul_nonneg (by omega) (by omega)
  have a2 : k.w * k.h ≤ 60 * 60 := Int.mul_le_mul (by omega) (by omega) (by omega) (by omega)
  have b1 : 0 ≤ k.wide * ((k.h + 15) / 16) := Int.mul_nonneg (by omega) f0
  have b2 : k.wide * ((k.h + 15) / 16) ≤ 4 * 4 := Int.mul_le_mul e f f0 (by omega)
  omega

theorem BDim.at {k : Bk} (d : BDim k) {p : Int} (h0 : 0 ≤ p) (h1 : p < k.w * k.h) : 0 ≤ k.at p ∧ k.at p < k.wide * ((k.h + 15) / 16) := by
  obtain ⟨a, b, c, e⟩ := d.xy h0 h1
  have := d.h1; have := d.w1; have := d.w0
  obtain ⟨_, _, _, _, s1, s2⟩ := d.size
  have wd := d.wd
  unfold Bk.at
  generalize p / k.w = Y at *
  generalize p % k.w = X at *
  have hx : X / 16 ≤ k.wide - 1 := by omega
  have hx0 : 0 ≤ X / 16 := by omega
  have hy : Y / 16 + 1 ≤ (k.h + 15) / 16 := by omega
  have hy0 : 0 ≤ Y / 16 := by omega
  generalize (k.h + 15) / 16 = T at *
  generalize Y / 16 = y at *
  generalize X / 16 = x at *
  have m0 : 0 ≤ y * k.wide := Int.mul_nonneg hy0 (by omega)
  have m1 : (y + 1) * k.wide ≤ T * k.wide := Int.mul_le_mul_of_nonneg_right hy (by omega)
  rw [Int.add_mul] at m1
  rw [Int.mul_comm k.wide T]
  omega

theorem BDim.at_inj {k : Bk} (d : BDim k) {K L K' L' : Int} (h0 : 0 ≤ K ∧ K < k.wide) (h1 : 0 ≤ K' ∧ K' < k.wide) (he : L * k.wide + K = L' * k.wide + K') : K = K' ∧ L = L' := by
  have hK : (L * k.wide + K) % k.wide = K := by rw [Int.add_comm, Int.add_mul_emod_self_right]; exact Int.emod_eq_of_lt h0.1 h0.2
  have hK' : (L' * k.wide + K') % k.wide = K' := by rw [Int.add_comm, Int.add_mul_emod_self_right]; exact Int.emod_eq_of_lt h1.1 h1.2
  have e : K = K' := by rw [← hK, ← hK', he]
  refine ⟨e, ?_⟩
  have : L * k.wide = L' * k.wide := by omega
  obtain ⟨_, _, _, _, s1, _⟩ := d.size
  exact Int.eq_of_mul_eq_mul_right (by omega) this

def needsB (k : Bk) (i a : Nat) (q : BPl) : Prop := q.tl[a]? = some 0 ∨ sharedB k i a q
def hitB (k : Bk) (i : Nat) (q : BPl) (v p : Int) : Prop := q.px[p.toNat]? ≠ some v ∧ needsB k i (k.at p).toNat q

/-- The places that are taken; the numbers that are used. -/
structure TakesB (k : Bk) (i : Nat) (q : BPl) (L : List Int) (v : Int) (C : List Int) : Prop where
  nd : C.Nodup
  mem : ∀ a, a ∈ C ↔ ∃ p ∈ L, hitB k i q v p ∧ a = k.at p
structure UsedB (k : Bk) (D : List Int) : Prop where
  nd : D.Nodup
  mem : ∀ t, t ∈ D ↔ 0 < t ∧ ∃ p ∈ k.pl, t ∈ p.tl

def Bk.wrote (k : Bk) (i : Nat) (q : BPl) (L : List Int) (v : Int) (r : Int × List Int) : Bk := { k with next := r.1, pl := k.pl.set i { q with px := pxAll L v q.px, tl := r.2 } }

theorem SL.some_lt {n0 : Nat} {H : Heap} {b l c : Nat} {el : TypeId} {vs : List Value} (h : SL n0 H (some ⟨b, 0, none⟩) l c el vs) : b < H.size := by
  rcases h.at_ with ⟨h1, _⟩ | ⟨blk, cs, h1, _, h3, _⟩
  · cases h1
  · cases h1; exact lt_of_get h3

theorem SL.keep' {n0 : Nat} {H H' : Heap} {p : Option Addr} {l c : Nat} {el : TypeId} {vs : List Value} (h : SL n0 H p l c el vs) (hk : ∀ b, p = some ⟨b, 0, none⟩ → ∀ o, H[b]? = some o → H'[b]? = some o) : SL n0 H' p l c el vs := by
  refine ⟨h.len, h.le, ?_⟩
  rcases h.at_ with h1 | ⟨blk, cs, h1, h2, h3, h4, h5⟩
  · exact .inl h1
  · exact .inr ⟨blk, cs, h1, h2, hk _ h1 _ h3, h4, h5⟩

set_option maxHeartbeats 2000000 in
theorem c29 {H : Heap} {k : Bk} {i : Nat} {q : BPl} (h : BIn H k) (hap : Apart k) (d : BDim k) (hq : k.pl[i]? = some q) (n0 : 0 ≤ k.next) (n1 : k.next ≤ 100000000) (hlen : k.pl.length ≤ 1000) (cap0 : 0 ≤ k.cap) (cap1 : k.cap ≤ 1048576)
    (htn : ∀ p ∈ k.pl, ∀ t ∈ p.tl, t ≤ k.next) {pp : Option Addr} {pl pc : Nat} {L : List Int} {v : Int} (sl : SL 0 H pp pl pc 3 (ints L)) (hne : ∀ b, pp = some ⟨b, 0, none⟩ → b ≠ k.B ∧ b ≠ q.pb ∧ b ≠ q.tb)
    (hL : ∀ p ∈ L, 0 ≤ p ∧ p < k.w * k.h) (hLn : L.length ≤ 1000000) {R : Value → Heap → Prop}
    (hA : ∀ H' C D, Ext H H' → TakesB k i q L v C → UsedB k D → (C.length : Int) > k.cap - D.length → R (.int .i64 30) H')
    (hB : ∀ H' C D, TakesB k i q L v C → UsedB k D → (C.length : Int) ≤ k.cap - D.length → BIn H' (k.wrote i q L v (fillT C q.tl.length (k.next, q.tl))) → (∀ (b : Nat) (o : Obj), H[b]? = some o → b ≠ k.B → b ≠ q.pb → b ≠ q.tb → H'[b]? = some o) → R (.int .i64 0) H') :
    CallsH Try.prog 29 #[.pointer (some ⟨k.B, 0, none⟩), .int .i64 i, .slice pp pl pc, .int .i64 v] H R := by
  obtain rfl : L.length = pl := by have := sl.len; simpa [ints] using this
  refine Try.s29 ?_
  unfold Try.S29 alc
  have hil := (List.getElem?_eq_some_iff.1 hq).1
  have hqm := List.mem_of_getElem? hq
  obtain ⟨z1, z2, z3, z4, z5, z6⟩ := d.size
  have qt := d.tl q hqm
  have qp := d.px q hqm
  obtain ⟨_, _, _, _, _, b5⟩ := h.cells
  obtain ⟨_, bt, _⟩ := h.plane hq
  refine ⟨_, rfl, some ⟨k.lb, 0, none⟩, k.pl.length, k.lc, by simpa using b5, _, rfl, by omega, by omega, some ⟨q.tb, 0, none⟩, q.tl.length, q.tc, by simpa [BPl.tlV] using bt, by omega, by omega, by omega, by omega, ?_⟩
  have hMs : q.tl.length ≤ 16 := by omega
  have e0 : List.toArray (reps (Int.toNat ((q.tl.length : Nat) : Int)) (Array.toList #[Value.bool false])) = (seenL [] q.tl.length).toArray := by rw [Int.toNat_natCast, ← seenL_nil]
  rw [e0]
  generalize hH1 : H.push _ = H1
  have e1 : Ext H H1 := by subst hH1; exact Ext.push _ _
  have s1 : H1[H.size]? = some (seenO [] q.tl.length) := by subst hH1; exact get_push_self _ _
  have hClen : ∀ C : List Int, C.Nodup → (∀ a ∈ C, 0 ≤ a ∧ a < (q.tl.length : Int)) → C.length ≤ q.tl.length := fun C hC ha => by
    have := nodup_length_le (m := (List.range q.tl.length).map fun i : Nat => (i : Int)) hC fun t ht => by
      have := ha t ht
      exact List.mem_map.2 ⟨t.toNat, List.mem_range.2 (by omega), by omega⟩
    simpa using this
  intro X hX
  have loop : ∀ (m t : Nat) (H2 : Heap) (C : List Int), L.length - t = m → t ≤ L.length → Ext H H2 → H2[H.size]? = some (seenO C q.tl.length) → TakesB k i q (L.take t) v C → X [.int .i64 C.length, .int .i64 t] H2 := by
    intro m
    induction m with
    | zero =>
      intro t H2 C hm ht e2 s2 hC
      rw [List.take_of_length_le (by omega)] at hC
      refine hX _ _ H2 (br_n (by omega) ?_)
      have h2 := h.ext e2
      obtain ⟨_, _, _, c3, _, _⟩ := h2.cells
      refine ⟨_, rfl, k.cap, by simpa using c3, c31 h2 n0 n1 hlen (fun p hp => ⟨by have := d.tl p hp; omega, htn p hp⟩) fun H3 D e3 hD hDm => ⟨_, rfl, e3, ?_⟩⟩
      have hCa : ∀ a ∈ C, 0 ≤ a ∧ a < (q.tl.length : Int) := fun a ha => by
        obtain ⟨p, hp, _, rfl⟩ := (hC.mem a).1 ha
        have := d.at (hL p hp).1 (hL p hp).2
        omega
      have hDl : (D.length : Int) ≤ k.next := by
        have := nodup_length_le (m := (List.range k.next.toNat).map fun i : Nat => (i : Int) + 1) hD fun t ht => by
          obtain ⟨h0, p, hp, hpt⟩ := (hDm t).1 ht
          have := htn p hp t hpt
          exact List.mem_map.2 ⟨(t - 1).toNat, List.mem_range.2 (by omega), by omega⟩
        simp at this
        omega
      have ew : IntKind.wrap .i64 (k.cap - (D.length : Int)) = k.cap - D.length := wrap_id (by omega) (by omega)
      rw [ew]
      refine br_dec (fun hgt => hA H3 C D (e2.trans e3) hC ⟨hD, hDm⟩ hgt) (fun hle => ?_)
      intro Y hY
      have h3 := h2.ext e3
      have lB := lt_of_get h.book
      have lt := (h.tl q hqm).some_lt
      have lp := (h.px q hqm).some_lt
      refine phase3 (tk := H.size) h3 hap hq rfl (by omega) n0 n1 (e3 _ _ s2) (by omega) (by omega) (K := fun H' => _) (fun H4 h4 hf4 => ?_) hY
      intro Z hZ
      have fo := fillT_ok C k.next q.tl q.tl.length (Nat.le_refl _)
      generalize hr : fillT C q.tl.length (k.next, q.tl) = r at h4 fo
      have hget : (k.tls i q r).pl[i]? = some { q with tl := r.2 } := by
        show (k.pl.set i { q with tl := r.2 })[i]? = _
        rw [List.getElem?_set_self hil]
      have hap4 : Apart (k.tls i q r) := by
        have := (hap.nxt r.1).put (q := q) (q' := { q with tl := r.2 }) (i := i) hq rfl rfl
        exact this
      have e03 := e2.trans e3
      have sl4 : SL 0 H4 pp L.length pc 3 (ints L) := by
        refine (sl.ext e03).keep' fun b hb o ho => ?_
        obtain ⟨u1, u2, u3⟩ := hne b hb
        exact hf4 _ _ ho u1 u3
      refine phase4 h4 hap4 hget sl4 (fun b hb => (hne b hb).2.1) (fun p hp => ⟨(hL p hp).1, by show p < (q.px.length : Int); rw [qp]; exact (hL p hp).2⟩) hLn (K := fun H' => R (.int .i64 0) H') (fun H5 h5 hf5 => ?_) hZ
      refine hB H5 C D hC ⟨hD, hDm⟩ (by omega) ?_ (fun b o hb u1 u2 u3 => hf5 _ _ (hf4 _ _ (e03 _ _ hb) u1 u3) u2)
      rw [hr]
      simpa [Bk.tls, Bk.wrote, List.set_set] using h5
    | succ m ih =>
      intro t H2 C hm ht e2 s2 hC
      have h2 := h.ext e2
      have ewt : IntKind.wrap .i64 ((t : Int) + 1) = ((t + 1 : Nat) : Int) := by rw [wrap_id (by omega) (by omega)]; omega
      have htl : t < L.length := by omega
      have hv : L[t]? = some L[t] := List.getElem?_eq_getElem htl
      have hLt := hL _ (List.getElem_mem htl)
      have htake : L.take (t + 1) = L.take t ++ [L[t]] := List.take_succ_eq_append_getElem htl
      generalize L[t] = p at hv hLt htake
      obtain ⟨blk, hpp, hcell0⟩ := (sl.ext e2).cell (ints_get hv)
      obtain ⟨g0, g1, g2, g3, _, g5⟩ := h2.cells
      obtain ⟨gp, _, _⟩ := h2.plane hq
      have et : Int.tmod p k.w = p % k.w := Int.tmod_eq_emod_of_nonneg hLt.1
      have ed : Int.tdiv p k.w = p / k.w := Int.tdiv_eq_ediv_of_nonneg hLt.1
      obtain ⟨x0, x1, x2, x3⟩ := d.xy hLt.1 hLt.2
      obtain ⟨y0, y1⟩ := d.at hLt.1 hLt.2
      have dw0 := d.w0
      have dw1 := d.w1
      have dh1 := d.h1
      have m1 : IntKind.wrap .i64 (p / k.w) = p / k.w := wrap_id (by omega) (by omega)
      have m2 : Int.tdiv (p / k.w) 16 = p / k.w / 16 := Int.tdiv_eq_ediv_of_nonneg x0
      have m3 : Int.tdiv (p % k.w) 16 = p % k.w / 16 := Int.tdiv_eq_ediv_of_nonneg x2
      have m4 : IntKind.wrap .i64 (p / k.w / 16) = p / k.w / 16 := wrap_id (by omega) (by omega)
      have m5 : IntKind.wrap .i64 (p % k.w / 16) = p % k.w / 16 := wrap_id (by omega) (by omega)
      have m6 : 0 ≤ p / k.w / 16 * k.wide := Int.mul_nonneg (by omega) (by omega)
      have m7 : p / k.w / 16 * k.wide ≤ k.at p := by unfold Bk.at; omega
      have m8 : IntKind.wrap .i64 (p / k.w / 16 * k.wide) = p / k.w / 16 * k.wide := wrap_id (by omega) (by omega)
      have m9 : IntKind.wrap .i64 (p / k.w / 16 * k.wide + p % k.w / 16) = k.at p := wrap_id (n := k.at p) (by omega) (by omega)
      have hpl : p.toNat < q.px.length := by omega
      have hpx : q.px[p.toNat]? = some q.px[p.toNat] := List.getElem?_eq_getElem hpl
      have hpc := (h2.px q hqm).cell' (ints_get hpx)
      refine hX _ _ H2 (br_y (by omega) ?_)
      intro J hJ
      have no : ∀ H', Ext H2 H' → ¬ (hitB k i q v p ∧ k.at p ∉ C) → J [.int .i64 C.length] H' := fun H' e hn => by
        refine hJ _ H' ?_
        rw [ewt]
        refine ih (t + 1) H' C (by omega) (by omega) (e2.trans e) (e _ _ s2) ⟨hC.nd, fun a => ?_⟩
        rw [hC.mem, htake]
        constructor
        · rintro ⟨p', hp', a1, a2⟩
          exact ⟨p', List.mem_append_left _ hp', a1, a2⟩
        · rintro ⟨p', hp', a1, a2⟩
          rcases List.mem_append.1 hp' with hp' | hp'
          · exact ⟨p', hp', a1, a2⟩
          · rw [List.mem_singleton] at hp'
            subst hp'
            have hin : k.at p' ∈ C := Classical.byContradiction fun hh => hn ⟨a1, hh⟩
            rw [a2]
            exact (hC.mem _).1 hin
      refine ⟨_, hpp, by omega, by omega, p, by simpa using hcell0, _, rfl, k.w, by simpa using g0, by omega, by omega, _, rfl, k.wide, by simpa using g2, _, rfl, k.w, by simpa using g0, by omega, by omega, _, rfl, some ⟨k.lb, 0, none⟩, k.pl.length, k.lc, by simpa using g5, _, rfl, by omega, by omega,
        some ⟨q.pb, 0, none⟩, q.px.length, q.pc, by simpa [BPl.pxV] using gp, _, rfl, hLt.1, by omega, q.px[p.toNat], by simpa using hpc, ?_⟩
      rw [et, ed, m1, m2, m3, m4, m5, m8, m9]
      refine br_ne (fun hne' => ?_) (fun heq => no H2 (Ext.refl _) fun hh => hh.1.1 (by rw [hpx, heq]))
      have hka : ((k.at p).toNat : Int) = k.at p := by omega
      have hkc : cell H2 ⟨H.size, (k.at p).toNat, none⟩ = some (.bool (decide (k.at p ∈ C))) := by
        have := cell_get (i := (k.at p).toNat) s2 (by rw [List.getElem?_toArray]; exact seenL_get C (by omega))
        rw [hka] at this
        exact this
      refine ⟨_, rfl, y0, by omega, decide (k.at p ∈ C), by simpa using hkc, br_not (fun hnot => ?_) (fun hyes => no H2 (Ext.refl _) fun hh => hh.2 (of_decide_eq_true hyes))⟩
      have hnm : k.at p ∉ C := of_decide_eq_false hnot
      rw [← hka]
      refine c32 h2 hq (fun p' hp' => by have := d.tl p' hp'; omega) hlen fun H3 r e3 hr => ⟨r, rfl, ?_⟩
      rw [hka]
      cases hrb : r with
      | false =>
        refine br_f rfl (no H3 e3 fun hh => ?_)
        have := hr.2 hh.1.2
        rw [hrb] at this; cases this
      | true =>
        have hneed := hr.1 hrb
        refine br_t rfl ⟨_, rfl, y0, by omega, ?_⟩
        simp only [add_none, Nat.zero_add, Nat.mul_one]
        have s3 := e3 _ _ s2
        refine stAt_one s3 (by simp [seenL]; omega) rfl ?_
        have hset : (seenL C q.tl.length).toArray.setIfInBounds (k.at p).toNat (.bool true) = (seenL (C ++ [k.at p]) q.tl.length).toArray := by
          rw [List.setIfInBounds_toArray, seenL_set, hka]
        rw [hset]
        have hCn : (C ++ [k.at p]).Nodup := by
          rw [List.nodup_append]
          exact ⟨hC.nd, by simp, fun a ha b hb hab => by simp at hb; subst hb; subst hab; exact hnm ha⟩
        have hCmem : ∀ a, a ∈ C ++ [k.at p] ↔ ∃ p' ∈ L.take (t + 1), hitB k i q v p' ∧ a = k.at p' := fun a => by
          rw [List.mem_append, List.mem_singleton, hC.mem, htake]
          constructor
          · rintro (⟨p', hp', a1, a2⟩ | rfl)
            · exact ⟨p', List.mem_append_left _ hp', a1, a2⟩
            · exact ⟨p, by simp, ⟨fun hh => by rw [hpx] at hh; exact hne' (Option.some.inj hh), hneed⟩, rfl⟩
          · rintro ⟨p', hp', a1, a2⟩
            rcases List.mem_append.1 hp' with hp' | hp'
            · exact .inl ⟨p', hp', a1, a2⟩
            · rw [List.mem_singleton] at hp'; subst hp'; exact .inr a2
        have hCl := hClen (C ++ [k.at p]) hCn fun a ha => by
          obtain ⟨p', hp', _, rfl⟩ := (hCmem a).1 ha
          have hp2 := hL p' (List.mem_of_mem_take hp')
          have := d.at hp2.1 hp2.2
          omega
        rw [List.length_append, List.length_singleton] at hCl
        have ewn : IntKind.wrap .i64 ((C.length : Int) + 1) = (((C ++ [k.at p]).length : Nat) : Int) := by
          rw [wrap_id (by omega) (by omega)]; simp
        rw [ewn]
        refine hJ _ _ ?_
        rw [ewt]
        exact ih (t + 1) _ (C ++ [k.at p]) (by omega) (by omega) (fun b o hb => get_set_ne (Nat.ne_of_gt (lt_of_get hb)) (e3 _ _ (e2 _ _ hb))) (get_set_self s3) ⟨hCn, hCmem⟩
  refine loop _ 0 H1 [] rfl (by omega) e1 s1 ⟨List.nodup_nil, fun a => ⟨fun hh => (by cases hh), fun ⟨p, hp, _⟩ => (by simp at hp)⟩⟩

end Go.Proofs
