/-
  OWN WORK. The contracts of the package tile, over heaps: Set.
-/
import Derived.Test.YtcbnifopfdgniaaTileE
import Derived.Test.YtcbnifopfdgniaaTileP
set_option linter.unusedVariables false
set_option linter.unusedSimpArgs false
namespace Go.Proofs
open Go.Sh Go.Tile

theorem wr_mem {ts : List (Nat × List Int)} {t i : Nat} {v : Int} {z : Nat × List Int} (h : z ∈ wrTs ts t i v) : ∃ l, (z.1, l) ∈ ts ∧ z.2 = if z.1 = t then l.set i v else l := by
  obtain ⟨z', hz', rfl⟩ := List.mem_map.1 h
  by_cases hzt : z'.1 = t
  · rw [if_pos hzt]; exact ⟨z'.2, hz', by rw [if_pos hzt]⟩
  · rw [if_neg hzt]; exact ⟨z'.2, hz', by rw [if_neg hzt]⟩

theorem ts_inj {cap : Int} {s : St} (h : Ok cap s) {t : Nat} {l l' : List Int} (h1 : (t, l) ∈ s.ts) (h2 : (t, l') ∈ s.ts) : l = l' := by
  obtain ⟨i, hi⟩ := List.getElem?_of_mem h1
  obtain ⟨j, hj⟩ := List.getElem?_of_mem h2
  have hij : i = j := (List.getElem?_inj (l := s.ts.map (·.1)) (by simp; exact (List.getElem?_eq_some_iff.1 hi).1) h.ts).1 (by simp [hi, hj])
  subst hij
  rw [hi] at hj; cases hj
  rfl

theorem goes_wr {cap : Int} {H : Heap} {s : St} (hin : In H s) (hok : Ok cap s) {t : Nat} {l : List Int} (hm : (t, l) ∈ s.ts) (i : Nat) {v : Int} (h0 : 0 ≤ v) (h1 : v < 4294967296) :
    Goes cap H s (H.setIfInBounds t (tileO (l.set i v) (refs s.pls t))) (wrS s t i v) := by
  have ht := hin.tile _ hm
  have hko : t ∈ s.ts.map (·.1) := List.mem_map.2 ⟨_, hm, rfl⟩
  refine ⟨⟨get_set_ne (ne_of_ty ht hin.arena (by decide)) hin.arena, fun q hq => get_set_ne (ne_of_ty ht (hin.plane q hq) (by decide)) (hin.plane q hq), fun q hq => get_set_ne (ne_of_map ht (hin.map q hq)) (hin.map q hq), fun z hz => ?_⟩,
    wrS_ok hok t i h0 h1, fun b o hb hn => get_set_ne (fun h => hn (.inr (.inr (h ▸ hko)))) hb, fun b hb => .inl ?_, by simp⟩
  · obtain ⟨l', hl', hz2⟩ := wr_mem hz
    show (H.setIfInBounds t _)[z.1]? = some (tileO z.2 (refs s.pls z.1))
    by_cases hzt : z.1 = t
    · rw [if_pos hzt] at hz2
      rw [hzt] at hl'
      have := ts_inj hok hm hl'
      rw [hz2, hzt, ← this]
      exact get_set_self ht
    · rw [if_neg hzt] at hz2
      rw [hz2]
      exact get_set_ne (fun h => hzt h.symm) (hin.tile _ hl')
  · rcases hb with hb | hb | hb
    · exact .inl hb
    · exact .inr (.inl hb)
    · exact .inr (.inr (by have : b ∈ (wrTs s.ts t i v).map (·.1) := hb; rwa [wrTs_keys] at this))

theorem c12 {cap : Int} {H : Heap} {s : St} (hin : In H s) (hok : Ok cap s) {k : Nat} {p : Pl} (hk : s.pls[k]? = some p) (x y v : Int) {R : Value → Heap → Prop}
    (h12 : p.has x y = false → ∀ H', Ext H H' → R (.int .i64 12) H')
    (h32 : p.has x y = true → ¬ (0 ≤ v ∧ v < 4294967296) → ∀ H', Ext H H' → R (.int .i64 32) H')
    (hsame : p.has x y = true → (0 ≤ v ∧ v < 4294967296) → pxAt s p x y = v → ∀ H', Ext H H' → R (.int .i64 0) H')
    (h30 : p.has x y = true → (0 ≤ v ∧ v < 4294967296) → pxAt s p x y ≠ v → needs s p (x / 16) (y / 16) = true → s.free = 0 → ∀ H', Ext H H' → R (.int .i64 30) H')
    (h0 : p.has x y = true → (0 ≤ v ∧ v < 4294967296) → pxAt s p x y ≠ v → ∀ H' s', Goes cap H s H' s' → Wrote s k p x y v s' → R (.int .i64 0) H') :
    CallsH Try.prog 12 #[.pointer (some ⟨p.b, 0, none⟩), .int .i64 x, .int .i64 y, .int .i64 v] H R := by
  have hp : p ∈ s.pls := List.mem_of_getElem? hk
  have pok := hok.pl p hp
  refine Try.s12 ?_
  unfold Try.S12
  refine c24 (hin.plane p hp) x y ⟨_, rfl, br_not (fun hn => h12 hn H (Ext.refl H)) (fun hy => ?_)⟩
  have hhas : p.has x y = true := hy
  have hy' := of_decide_eq_true hy
  refine c25 v ⟨_, rfl, br_not (fun hn => h32 hhas (of_decide_eq_false hn) H (Ext.refl H)) (fun hv => ?_)⟩
  have hv' := of_decide_eq_true hv
  refine c20 hin hok hp x y fun H1 e1 => ⟨_, rfl, br_eq (fun he => hsame hhas hv' he H1 e1) (fun hne => ?_)⟩
  obtain ⟨_, _, _, w0, w1, hh0, hh1⟩ := pok
  refine c26 (by omega) (by omega) (by omega) (by omega) fun H2 e2 => ⟨_, _, rfl, ?_⟩
  unfold alc
  refine ⟨rfl, stAt_whole (get_push_self _ _) rfl (by simp [Value.oneCell']) ?_⟩
  generalize hH3 : Array.setIfInBounds _ _ _ = H3
  have e3 : Ext H H3 := by
    subst hH3
    exact (e1.trans e2).trans fun b o hb => get_set_ne (Nat.ne_of_gt (lt_of_get hb)) (get_push hb)
  have hkey : H3[H2.size]? = some (.cells #[Value.int .i64 (x / 16), Value.int .i64 (y / 16)] 65) := by
    subst hH3
    exact get_set_self (get_push_self _ _)
  have hin3 := hin.ext e3
  refine ⟨_, rfl, rowIn_whole hkey, ?_⟩
  -- the end, behind own
  have fin : ∀ (H4 : Heap) (s4 : St) (p4 : Pl) (t : Nat), Goes cap H s H4 s4 → s4.pls[k]? = some p4 → p4.b = p.b → H4[H2.size]? = some (.cells #[Value.int .i64 (x / 16), Value.int .i64 (y / 16)] 65) →
      tileOf p4.en (x / 16) (y / 16) = some t → Wrote s k p x y v (wrS s4 t (idx x y) v) →
      (∃ a25 : Addr, (some ⟨p.b, 0, none⟩ : Option Addr) = some a25 ∧ ∃ has26 : Option Nat, cell H4 (Addr.add a25 3) = some (Value.map has26) ∧ ∃ v27 : Array Value, v27.size = 2 ∧ rowIn H4 ⟨H2.size, 0, none⟩ v27 ∧ ∃ r28 : Nat, has26 = some r28 ∧
        ∃ (es29 : Array MapEntry) (c30 : Nat), H4[r28]? = some (.map es29 c30) ∧ kForm (.arr 2 3) (.int .i64) (Value.agg v27) ∧ (∀ e ∈ es29.toList, kForm (.arr 2 3) (.int .i64) e.key) ∧ ∃ v31 : Option Addr, lookV (Value.agg v27) es29.toList (Value.pointer none) = Value.pointer v31 ∧
        ∃ a32 : Addr, v31 = some a32 ∧ 0 ≤ y % 16 * 16 + x % 16 ∧ y % 16 * 16 + x % 16 < ((256 : Nat) : Int) ∧ stAt H4 (Addr.add (Addr.add a32 0) (Int.toNat (y % 16 * 16 + x % 16) * 1)) [Value.int .u32 (IntKind.wrap .u32 v)] fun H_33 => R (Value.int .i64 0) H_33) := by
    intro H4 s4 p4 t hg hk4 hb4 hkey4 ht hwr
    have hp4 : p4 ∈ s4.pls := List.mem_of_getElem? hk4
    obtain ⟨l, hl, hm, hlen, _⟩ := hg.ok.px_of hp4 ht
    refine ⟨_, rfl, some p4.m, cell_get (by rw [← hb4]; exact hg.inn.plane p4 hp4) rfl, _, rfl, rowIn_whole hkey4, p4.m, rfl, _, _, hg.inn.map p4 hp4, kf _ _, kfs _, _, lookV_enc _ _ _, ?_⟩
    rw [ht]
    refine ⟨_, rfl, by omega, by omega, ?_⟩
    simp only [add_none, Nat.zero_add, Nat.mul_one]
    rw [wrap_u32 hv'.1 hv'.2]
    refine stAt_pixel (hg.inn.tile _ hm) hlen (idx_lt x y) ?_
    exact h0 hhas hv' hne _ _ (hg.trans (goes_wr hg.inn hg.ok hm (idx x y) hv'.1 hv'.2)) hwr
  refine c27 hin3 hok hk (x / 16) (y / 16) (fun hnd H4 e4 => ⟨_, rfl, br_not (fun h => by cases h) (fun _ => ?_)⟩) (fun hnd hf H4 e4 => ⟨_, rfl, br_not (fun _ => h30 hhas hv' hne hnd hf H4 (e3.trans e4)) (fun h => by cases h)⟩)
    (fun hnd hf H4 n hn hg => ⟨_, rfl, br_not (fun h => by cases h) (fun _ => ?_)⟩)
  · cases ht : tileOf p.en (x / 16) (y / 16) with
    | none => simp [needs, ht] at hnd
    | some t =>
      have hr : refs s.pls t = 1 := by simpa [needs, ht] using hnd
      exact fin H4 s p t (Goes.of_ext hin hok (e3.trans e4)) hk rfl (e4 _ _ hkey) ht (.inl ⟨hnd, t, ht, hr, rfl⟩)
  · have hnn : n ∉ s.ts.map (·.1) := fun hh => by
      obtain ⟨z, hz, hzn⟩ := List.mem_map.1 hh
      have := lt_of_get (hin3.tile z hz)
      omega
    have hgoes : Goes cap H s H4 (ownS s k p (x / 16) (y / 16) n) := (Goes.of_ext hin hok e3).trans hg
    refine fin H4 _ (p.own (x / 16) (y / 16) n) n hgoes (by rw [own_pls _ _ _ hk, if_pos rfl]) rfl ?_ ?_ (.inr ⟨hnd, hf, n, hnn, rfl⟩)
    · refine hg.fr _ _ hkey fun ho => ?_
      rcases ho with ho | ⟨q, hq, ho⟩ | ho
      · exact ne_of_ty hkey hin3.arena (by decide) ho
      · exact ne_of_map hkey (hin3.map q hq) ho
      · obtain ⟨z, hz, hzn⟩ := List.mem_map.1 ho
        exact ne_of_ty hkey (hin3.tile z hz) (by decide) hzn.symm
    · show tileOf (setEn _ _ _ _ _) _ _ = _
      rw [tileOf_set, if_pos ⟨rfl, rfl⟩]

theorem c28 {H : Heap} {from_ size most : Int} (f0 : -9223372036854775808 ≤ from_) (f1 : from_ ≤ 9223372036854775807) (s0 : -9223372036854775808 ≤ size) (s1 : size ≤ 9223372036854775807) (m0 : 0 ≤ most) (m1 : most ≤ 32768)
    {R : Value → Heap → Prop} (h : ∀ lo hi, 0 ≤ lo → lo ≤ hi → hi ≤ most → (∀ z, (lo ≤ z ∧ z < hi) ↔ (0 ≤ z ∧ z < most ∧ from_ ≤ z ∧ z < from_ + size)) → R (.tuple #[.int .i64 lo, .int .i64 hi]) H) :
    CallsH Try.prog 28 #[.int .i64 from_, .int .i64 size, .int .i64 most] H R := by
  refine Try.s28 ?_
  unfold Try.S28
  intro J hJ
  refine br_dec (fun h1 => h 0 0 (by omega) (by omega) (by omega) (fun z => by omega)) (fun h1 => br_dec (fun h2 => h 0 0 (by omega) (by omega) (by omega) (fun z => by omega)) (fun h2 => hJ H ?_))
  intro J2 hJ2
  have e1 : IntKind.wrap .i64 (most - size) = most - size := wrap_id (by omega) (by omega)
  refine br_dec (fun h3 => hJ2 _ _ ?_) (fun h3 => hJ2 _ _ ?_)
  · rw [e1] at h3
    rw [wrap_id (by omega) (by omega)]
    exact h _ _ (by omega) (by omega) (by omega) (fun z => by omega)
  · rw [e1] at h3
    exact h _ _ (by omega) (by omega) (by omega) (fun z => by omega)

theorem c9_none {H : Heap} {c : Int} (h : c < 0 ∨ 1048576 < c) {R : Value → Heap → Prop} (hR : R (.pointer none) H) : CallsH Try.prog 9 #[.int .i64 c] H R := by
  refine Try.s9 ?_
  unfold Try.S9
  exact br_dec (fun _ => hR) (fun h1 => br_dec (fun _ => hR) (fun h2 => by omega))

theorem c9 {H : Heap} {c : Int} (h0 : 0 ≤ c) (h1 : c ≤ 1048576) {R : Value → Heap → Prop} (hR : R (.pointer (some ⟨H.size, 0, none⟩)) (H.push (arenaO c))) : CallsH Try.prog 9 #[.int .i64 c] H R := by
  refine Try.s9 ?_
  unfold Try.S9
  exact br_dec (fun h => by omega) (fun _ => br_dec (fun h => by omega) (fun _ => hR))

theorem c10_none {H : Heap} {a : Option Addr} {w h : Int} (hb : w < 0 ∨ 32768 < w ∨ h < 0 ∨ 32768 < h) {R : Value → Heap → Prop} (hR : R (.tuple #[.pointer none, .int .i64 31]) H) :
    CallsH Try.prog 10 #[.pointer a, .int .i64 w, .int .i64 h] H R := by
  refine Try.s10 ?_
  unfold Try.S10
  intro J hJ
  exact br_dec (fun _ => hR) (fun h1 => br_dec (fun _ => hR) (fun h2 => br_dec (fun _ => hR) (fun h3 => br_dec (fun _ => hR) (fun h4 => by omega))))

def newPl (m b : Nat) (w h : Int) : Pl := ⟨b, m, w, h, [], 0⟩

theorem c10 {H : Heap} {A : Nat} {w h : Int} (w0 : 0 ≤ w) (w1 : w ≤ 32768) (h0 : 0 ≤ h) (h1 : h ≤ 32768) {R : Value → Heap → Prop}
    (hR : R (.tuple #[.pointer (some ⟨H.size + 1, 0, none⟩), .int .i64 0]) ((H.push (.map #[] 0)).push (planeO A (newPl H.size (H.size + 1) w h)))) :
    CallsH Try.prog 10 #[.pointer (some ⟨A, 0, none⟩), .int .i64 w, .int .i64 h] H R := by
  refine Try.s10 ?_
  unfold Try.S10
  intro J hJ
  refine br_dec (fun h => by omega) (fun _ => br_dec (fun h => by omega) (fun _ => br_dec (fun h => by omega) (fun _ => br_dec (fun h => by omega) (fun _ => hJ H ?_))))
  unfold alc
  simp only [Array.size_push]
  exact hR

end Go.Proofs
