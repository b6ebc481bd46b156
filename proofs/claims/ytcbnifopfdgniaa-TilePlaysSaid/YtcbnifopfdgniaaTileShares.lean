/-
  OWN WORK. TileShares over heaps: it answers true, and leaves all that was there.
-/
import Derived.Test.YtcbnifopfdgniaaTileSl
set_option linter.unusedVariables false
set_option linter.unusedSimpArgs false
namespace Go.Proofs
open Go.Sh Go.Tile

def k9 : List (Int × Int) := [(0, 0), (0, 1), (0, 2), (1, 0), (1, 1), (1, 2), (2, 0), (2, 1), (2, 2)]

theorem mem_k9 (K L : Int) : (K, L) ∈ k9 ↔ 0 ≤ K ∧ K ≤ 2 ∧ 0 ≤ L ∧ L ≤ 2 := by
  simp only [k9, List.mem_cons, Prod.mk.injEq, List.not_mem_nil, or_false]
  omega

theorem single {s : St} {p : Pl} (hl : s.pls.length = 1) (hk : s.pls[0]? = some p) : s.pls = [p] := by
  apply List.ext_getElem?
  intro i
  match i with
  | 0 => exact hk
  | i + 1 => rw [List.getElem?_eq_none_iff.2 (by omega)]; rfl

structure ShI (H0 H : Heap) (s : St) (t : Nat) : Prop where
  at_ : At 30 H0 H s
  len : s.pls.length = t + 1
  free : s.free = 21
  all : ∀ q ∈ s.pls, q.w = 40 ∧ q.h = 40 ∧ q.en.length = 9 ∧ ∀ X Y, q.has X Y = true → pxAt s q X Y = 9
  last : 0 < t → ∀ q, s.pls[t]? = some q → ∀ K L, needs s q K L = true

theorem nine_keys {s : St} {p : Pl} {cs : List (Int × Int)} (hpx : ∀ X Y, pxAt s p X Y = 0) (hn : ∀ K L, needs s p K L = true) (hcs : ∀ X Y, (X, Y) ∈ cs ↔ 0 ≤ X ∧ X < 40 ∧ 0 ≤ Y ∧ Y < 40) :
    (∀ K L, (K, L) ∈ needKeys s p 9 cs [] ↔ (K, L) ∈ k9) ∧ (needKeys s p 9 cs []).length = 9 := by
  have h1 : ∀ K L, (K, L) ∈ needKeys s p 9 cs [] ↔ (K, L) ∈ k9 := fun K L => by
    rw [mem_needKeys, mem_k9]
    constructor
    · rintro (h | ⟨⟨X, Y⟩, hc, _, heq⟩)
      · cases h
      · have := (hcs X Y).1 hc
        simp only [Prod.mk.injEq] at heq
        omega
    · rintro ⟨a, b, c, d⟩
      refine .inr ⟨(K * 16, L * 16), (hcs _ _).2 (by omega), ⟨?_, hn _ _⟩, ?_⟩
      · rw [hpx]; decide
      · simp only [Prod.mk.injEq]; omega
  refine ⟨h1, ?_⟩
  have n1 := nodup_needKeys s p 9 cs [] List.nodup_nil
  have n2 : k9.Nodup := by decide
  have a := nodup_length_le n1 fun c hc => by obtain ⟨K, L⟩ := c; exact (h1 K L).1 hc
  have b := nodup_length_le n2 fun c hc => by obtain ⟨K, L⟩ := c; exact (h1 K L).2 hc
  have : k9.length = 9 := rfl
  omega

set_option maxHeartbeats 2000000 in
theorem law6 {H : Heap} {n x y v : Int} : CallsH Try.prog 6 #[.int .i64 n, .int .i64 x, .int .i64 y, .int .i64 v] H (fun u H' => u = .bool true ∧ Ext H H') := by
  refine Try.s6 ?_
  unfold Try.S6
  refine c8 fun H1 e1 => ⟨_, rfl, br_f rfl ?_⟩
  intro J8 hJ8
  refine br_dec (fun _ => ⟨rfl, e1⟩) (fun n0 => br_dec (fun _ => ⟨rfl, e1⟩) (fun n6 => br_dec (fun _ => ⟨rfl, e1⟩) (fun x0 => br_dec (fun _ => ⟨rfl, e1⟩) (fun x1 => br_dec (fun _ => ⟨rfl, e1⟩) (fun y0 => br_dec (fun _ => ⟨rfl, e1⟩) (fun y1 => br_dec (fun _ => ⟨rfl, e1⟩) (fun v0 => br_dec (fun _ => ⟨rfl, e1⟩) (fun v1 => hJ8 H1 ?_))))))))
  refine c9 (by decide) (by decide) ⟨_, rfl, br_f rfl ?_⟩
  refine c10 (by decide) (by decide) (by decide) (by decide) ⟨_, _, rfl, ?_⟩
  simp only [Array.size_push]
  have a0 := at_new e1 (c := 30) (w := 40) (h := 40) (by decide) (by decide) (by decide) (by decide) (by decide) (by decide)
  generalize hp0 : newPl (H1.size + 1) (H1.size + 1 + 1) 40 40 = p0
  have hp0' : newPl (H1.size + 1) (H1.size + 2) 40 40 = p0 := hp0
  rw [hp0'] at a0
  generalize ((H1.push (arenaO 30)).push (.map #[] 0)).push (planeO H1.size p0) = H2 at a0 ⊢
  have hb0 : p0.b = H1.size + 1 + 1 := by subst hp0; rfl
  have hw0 : p0.w = 40 := by subst hp0; rfl
  have hh0 : p0.h = 40 := by subst hp0; rfl
  have hA : (newS H1.size 30 p0).A = H1.size := rfl
  have hpx0 : ∀ X Y, pxAt (newS H1.size 30 p0) p0 X Y = 0 := by subst hp0; exact new_px _ _ _ _ _ _
  have hn0 : ∀ K L, needs (newS H1.size 30 p0) p0 K L = true := by subst hp0; exact new_needs _ _ _ _ _ _
  have ht0 : ∀ K L, tileOf p0.en K L = none := by subst hp0; exact fun _ _ => rfl
  have hf0 : (newS H1.size 30 p0).free = 30 := rfl
  have hk0 : (newS H1.size 30 p0).pls[0]? = some p0 := rfl
  have hl0 : (newS H1.size 30 p0).pls.length = 1 := rfl
  generalize newS H1.size 30 p0 = s0 at a0 hA hpx0 hn0 hf0 hk0 hl0
  rw [← hb0, ← hA]
  intro J17 hJ17
  refine br_f rfl ?_
  refine c13 a0.inn a0.ok hk0 (by decide) (by decide) (by decide) (by decide) (by decide) (by decide) (by decide) (by decide) (fun hn => absurd (by decide) hn) (fun _ cs hcs => ?_)
  have hcs' : ∀ X Y, (X, Y) ∈ cs ↔ 0 ≤ X ∧ X < 40 ∧ 0 ≤ Y ∧ Y < 40 := fun X Y => by
    rw [hcs]
    unfold Pl.has
    rw [hw0, hh0, decide_eq_true_iff]
    omega
  obtain ⟨hkeys, hnine⟩ := nine_keys hpx0 hn0 hcs'
  refine ⟨fun hlt => by rw [hnine, hf0] at hlt; exact absurd hlt (by decide), fun _ H3 s1 hg1 hpaint => ⟨_, rfl, br_f rfl ?_⟩⟩
  have a1 := a0.goes hg1
  obtain ⟨p1, pt⟩ := painted (by decide) hpaint a0.ok hk0
  have hf1 : s1.free = 21 := by rw [pt.free, hnine, hf0]; decide
  have hA1 : s1.A = s0.A := pt.views.A
  rw [← hA1]
  refine c18 a1.inn.arena ⟨_, rfl, ?_⟩
  rw [hf1]
  refine br_f rfl (hJ17 H3 ?_)
  rw [← hA1]
  have hp1 : p1 ∈ s1.pls := List.mem_of_getElem? pt.pk
  have hl1 : s1.pls.length = 1 := by rw [pt.views.len, hl0]
  have hpls1 : s1.pls = [p1] := single hl1 pt.pk
  have hen1 : p1.en.length = 9 := by
    rw [en_length (pt.ok.pl p1 hp1) (nodup_needKeys s0 p0 9 cs [] List.nodup_nil) fun K L => ?_, hnine]
    constructor
    · intro hm; obtain ⟨t, ht, _⟩ := pt.new K L hm; rw [ht]; exact Option.some_ne_none _
    · intro hm
      refine Classical.byContradiction fun hc => hm ?_
      rw [pt.keep K L hc, ht0]
  have hpx1 : ∀ X Y, p1.has X Y = true → pxAt s1 p1 X Y = 9 := fun X Y hh => by
    rw [(views_at pt.views hk0 pt.pk).2]
    have : (X, Y) ∈ cs := (hcs X Y).2 ⟨by rw [← pt.like.has]; exact hh, by
      unfold Pl.has at hh
      rw [pt.like.w, pt.like.h, hw0, hh0, decide_eq_true_iff] at hh
      omega⟩
    simp [putAll, this]
  have hb1 : p1.b = p0.b := pt.like.b
  rw [← hb1]
  generalize hA' : s1.A = A
  unfold alc
  have i1 : ShI H (H3.push (.cells #[Value.pointer (some ⟨p1.b, 0, none⟩)] 26)) s1 0 := by
    refine ⟨a1.step (Ext.push _ _), hl1, hf1, fun q hq => ?_, fun h => absurd h (by decide)⟩
    rw [hpls1, List.mem_singleton] at hq
    subst hq
    exact ⟨pt.like.w.trans hw0, pt.like.h.trans hh0, hen1, hpx1⟩
  have sl1 : SL H.size (H3.push (.cells #[Value.pointer (some ⟨p1.b, 0, none⟩)] 26)) (some ⟨H3.size, 0, none⟩) 1 1 26 (ptrs s1) := by
    have : ptrs s1 = [Value.pointer (some ⟨p1.b, 0, none⟩)] := by unfold ptrs; rw [hpls1]; rfl
    rw [this]
    exact SL.one a1.ext.size (get_push_self _ _)
  generalize H3.push (.cells #[Value.pointer (some ⟨p1.b, 0, none⟩)] 26) = H4 at i1 sl1 ⊢
  clear hpaint pt hpls1 hpx1 hen1 hl1 hp1 hg1 a1 hcs hcs' hkeys hnine a0 hk0 hf0 hn0 hpx0 ht0
  intro X hX
  have loop : ∀ (m : Nat) (t : Nat) (s : St) (H5 : Heap) (lp : Option Addr) (lc : Nat), n.toNat - t = m → (t : Int) ≤ n → ShI H H5 s t → s.A = A → SL H.size H5 lp (t + 1) lc 26 (ptrs s) → X [Value.slice lp (t + 1) lc, Value.int .i64 t] H5 := by
    intro m
    induction m with
    | zero =>
      intro t s H5 lp lc hm ht i hsA sl
      have htn : n = t := by omega
      have htn' : n.toNat = t := by omega
      refine hX lp (t + 1) lc t H5 (br_n (by omega) ?_)
      intro J42 hJ42
      obtain ⟨p, hp⟩ : ∃ p, s.pls[t]? = some p := ⟨_, List.getElem?_eq_getElem (by have := i.len; omega)⟩
      have hpm : p ∈ s.pls := List.mem_of_getElem? hp
      have hptr : (ptrs s)[t]? = some (Value.pointer (some ⟨p.b, 0, none⟩)) := by unfold ptrs; rw [List.getElem?_map, hp]; rfl
      have hpa := i.all p hpm
      have hhasp : p.has x y = true := by unfold Pl.has; rw [hpa.1, hpa.2.1, decide_eq_true_iff]; omega
      -- the end, behind the write
      have fin : ∀ (H6 : Heap) (s6 : St) (J : List Value → Heap → Prop), At 30 H H6 s6 → SL H.size H6 lp (t + 1) lc 26 (ptrs s6) → s6.pls.length = t + 1 → (∀ (j : Nat) q, s6.pls[j]? = some q → pxAt s6 q x y = if j = t then v else 9) →
          (0 ≤ n ∧ n ≤ ((lc : Nat) : Int) ∧ ∀ X_47 : List Value → Heap → Prop, (∀ t48 : Int, ∀ H_49 : Heap, (br (decide ((t48 : Int) < ((((Int.toNat n) - 0) : Nat) : Int)))
            (∃ a50 : Addr, (if lc = 0 then lp else Option.map (fun x => Addr.add x (0 * 1)) lp) = some a50 ∧ 0 ≤ t48 ∧ t48 < ((((Int.toNat n) - 0) : Nat) : Int) ∧ ∃ q51 : Option Addr, cell H_49 (Addr.add a50 (Int.toNat t48 * 1)) = some (Value.pointer q51) ∧ CallsH Try.prog 20 #[Value.pointer q51, Value.int .i64 x, Value.int .i64 y] H_49 fun r52 H_53 => ∃ r54 : Int, r52 = Value.int .i64 r54 ∧ br ((r54 : Int) != 9)
            ((fun u H' => u = .bool true ∧ Ext H H') (Value.bool false) H_53)
            (X_47 [Value.int .i64 (IntKind.wrap .i64 (t48 + 1))] H_53))
            (∃ a55 : Addr, lp = some a55 ∧ 0 ≤ n ∧ n < ((t + 1 : Nat) : Int) ∧ ∃ v56 : Option Addr, cell H_49 (Addr.add a55 (Int.toNat n * 1)) = some (Value.pointer v56) ∧ CallsH Try.prog 20 #[Value.pointer v56, Value.int .i64 x, Value.int .i64 y] H_49 fun r57 H_58 => ∃ r59 : Int, r57 = Value.int .i64 r59 ∧ (fun u H' => u = .bool true ∧ Ext H H') (Value.bool ((r59 : Int) == v)) H_58)) → X_47 [Value.int .i64 t48] H_49) → X_47 [Value.int .i64 0] H6) := by
        intro H6 s6 J a6 sl6 hl6 hpx6
        have hle := sl6.le
        refine ⟨by omega, by omega, fun X hX => ?_⟩
        have go : ∀ (m k : Nat) (H7 : Heap), t - k = m → k ≤ t → Ext H6 H7 → X [Value.int .i64 k] H7 := by
          intro m
          induction m with
          | zero =>
            intro k H7 hm hk e7
            have : k = t := by omega
            subst this
            refine hX k H7 (br_n (by omega) ?_)
            obtain ⟨q, hq⟩ : ∃ q, s6.pls[k]? = some q := ⟨_, List.getElem?_eq_getElem (by omega)⟩
            have hptr : (ptrs s6)[k]? = some (Value.pointer (some ⟨q.b, 0, none⟩)) := by unfold ptrs; rw [List.getElem?_map, hq]; rfl
            obtain ⟨blk, rfl, hcell⟩ := (sl6.ext e7).cell hptr
            refine ⟨_, rfl, by omega, by omega, some ⟨q.b, 0, none⟩, by rw [htn']; simpa using hcell, ?_⟩
            have a7 := a6.step e7
            refine c20 a7.inn a7.ok (List.mem_of_getElem? hq) x y fun H8 e8 => ⟨_, rfl, ?_, (a7.step e8).ext⟩
            rw [hpx6 k q hq, if_pos rfl]
            simp
          | succ m ih =>
            intro k H7 hm hk e7
            refine hX k H7 (br_y (by omega) ?_)
            obtain ⟨q, hq⟩ : ∃ q, s6.pls[k]? = some q := ⟨_, List.getElem?_eq_getElem (by omega)⟩
            have hptr : (ptrs s6)[k]? = some (Value.pointer (some ⟨q.b, 0, none⟩)) := by unfold ptrs; rw [List.getElem?_map, hq]; rfl
            obtain ⟨blk, rfl, hcell⟩ := (sl6.ext e7).cell hptr
            rw [if_neg (by omega)]
            refine ⟨_, rfl, by omega, by omega, some ⟨q.b, 0, none⟩, by simpa using hcell, ?_⟩
            have a7 := a6.step e7
            refine c20 a7.inn a7.ok (List.mem_of_getElem? hq) x y fun H8 e8 => ⟨_, rfl, ?_⟩
            rw [hpx6 k q hq, if_neg (by omega)]
            refine br_f rfl ?_
            have ew : IntKind.wrap .i64 ((k : Int) + 1) = ((k + 1 : Nat) : Int) := by rw [wrap_id (by omega) (by omega)]; omega
            rw [ew]
            exact ih (k + 1) H8 (by omega) (by omega) (e7.trans e8)
        exact go t 0 H6 (by omega) (by omega) (Ext.refl _)
      obtain ⟨blk, hlp, hcell⟩ := sl.cell hptr
      have hv : 0 ≤ v ∧ v < 4294967296 := by omega
      have at20 : ∀ (H6 : Heap) (s6 : St), At 30 H H6 s6 → s6.A = A → ∀ f, s6.free = f → ∀ {R : Value → Heap → Prop}, R (.int .i64 f) H6 → CallsH Try.prog 18 #[.pointer (some ⟨A, 0, none⟩)] H6 R := fun H6 s6 a6 hA6 f hf R hR => by
        rw [← hA6]; exact c18 a6.inn.arena (by rw [hf]; exact hR)
      refine br_eq (fun h9 => hJ42 21 H5 ?_) (fun h9 => hJ42 20 H5 ?_)
      · intro J45 hJ45
        refine ⟨_, hlp, by omega, by omega, some ⟨p.b, 0, none⟩, by rw [htn']; simpa using hcell, ?_⟩
        refine c12 i.at_.inn i.at_.ok hp x y v (fun hf => by rw [hhasp] at hf; cases hf) (fun _ hn => absurd hv hn) (fun _ _ _ H6 e6 => ⟨_, rfl, br_f rfl ?_⟩) (fun _ _ hne => absurd (by rw [hpa.2.2.2 x y hhasp, h9]) hne) (fun _ _ hne => absurd (by rw [hpa.2.2.2 x y hhasp, h9]) hne)
        have a6 := i.at_.step e6
        refine at20 H6 s a6 hsA 21 i.free ⟨_, rfl, br_f rfl (hJ45 H6 ?_)⟩
        refine fin H6 s J45 a6 (sl.ext e6) i.len (fun j q hq => ?_)
        have hqm : q ∈ s.pls := List.mem_of_getElem? hq
        have hqa := i.all q hqm
        rw [hqa.2.2.2 x y (by unfold Pl.has; rw [hqa.1, hqa.2.1, decide_eq_true_iff]; omega), h9]
        simp
      · intro J45 hJ45
        refine ⟨_, hlp, by omega, by omega, some ⟨p.b, 0, none⟩, by rw [htn']; simpa using hcell, ?_⟩
        have hnd := i.last (by omega) p hp (x / 16) (y / 16)
        refine c12 i.at_.inn i.at_.ok hp x y v (fun hf => by rw [hhasp] at hf; cases hf) (fun _ hn => absurd hv hn) (fun _ _ hpx => absurd (by rw [← hpx, hpa.2.2.2 x y hhasp]) h9) (fun _ _ _ _ hf => by rw [i.free] at hf; exact absurd hf (by decide)) (fun _ _ hne H6 s6 hg hw => ⟨_, rfl, br_f rfl ?_⟩)
        have a6 := i.at_.goes hg
        obtain ⟨p6, st⟩ := wrote_step i.at_.ok hp hw
        have vw := wrote_views i.at_.ok hp hhasp hw
        have hf6 : s6.free = 20 := by rw [st.free, hnd, i.free]; decide
        refine at20 H6 s6 a6 (vw.A.trans hsA) 20 hf6 ⟨_, rfl, br_f rfl (hJ45 H6 ?_)⟩
        refine fin H6 s6 J45 a6 (by rw [ptrs_views vw]; exact sl.goes (.inl rfl) i.at_.inn hg) (by rw [vw.len, i.len]) (fun j q hq => ?_)
        obtain ⟨q0, hq0⟩ : ∃ q0, s.pls[j]? = some q0 := ⟨_, List.getElem?_eq_getElem (by have := (List.getElem?_eq_some_iff.1 hq).1; have := vw.len; omega)⟩
        have hqa := i.all q0 (List.mem_of_getElem? hq0)
        rw [(views_at vw hq0 hq).2, hqa.2.2.2 x y (by unfold Pl.has; rw [hqa.1, hqa.2.1, decide_eq_true_iff]; omega)]
        simp [put1]
    | succ m ih =>
      intro t s H5 lp lc hm ht i hsA sl
      refine hX lp (t + 1) lc t H5 (br_y (by omega) ?_)
      obtain ⟨p, hp⟩ : ∃ p, s.pls[t]? = some p := ⟨_, List.getElem?_eq_getElem (by have := i.len; omega)⟩
      have hpm : p ∈ s.pls := List.mem_of_getElem? hp
      have hptr : (ptrs s)[t]? = some (Value.pointer (some ⟨p.b, 0, none⟩)) := by unfold ptrs; rw [List.getElem?_map, hp]; rfl
      obtain ⟨blk, rfl, hcell⟩ := sl.cell hptr
      have ew : IntKind.wrap .i64 (((t + 1 : Nat) : Int) - 1) = t := by rw [wrap_id (by omega) (by omega)]; omega
      rw [ew]
      refine ⟨_, rfl, by omega, by omega, some ⟨p.b, 0, none⟩, by simpa using hcell, ?_⟩
      refine c14 i.at_.inn i.at_.ok hpm (by have := i.len; omega) fun H6 b mm done hb hsame hg => ⟨_, rfl, ?_⟩
      have a6 := i.at_.goes hg
      have sl6 := sl.goes (.inl rfl) i.at_.inn hg
      intro J hJ
      refine br_f rfl ?_
      rw [← hsA]
      refine c18 (A := s.A) a6.inn.arena ⟨_, rfl, ?_⟩
      have hf6 : (snapS s (snapPl p b mm done)).free = 21 := i.free
      rw [hf6]
      refine br_f rfl ?_
      have hq : snapPl p b mm done ∈ (snapS s (snapPl p b mm done)).pls := List.mem_append_right _ (List.mem_singleton.2 rfl)
      have hqen : (snapPl p b mm done).en.length = 9 := by rw [snap_len (i.at_.ok.pl p hpm) hsame]; exact (i.all p hpm).2.2.1
      refine c19 (p := snapPl p b mm done) (a6.inn.plane _ hq) (a6.inn.map _ hq) ⟨_, rfl, ?_⟩
      rw [hqen]
      refine br_f rfl (hJ H6 ?_)
      have sl7 := sl6.ext (Ext.push H6 (.cells #[Value.pointer (some ⟨b, 0, none⟩)] 26))
      refine sl7.app (by have := a6.ext.size; simp; omega) (get_push_self _ _) rfl (by omega) fun p' c' H' slN hk hsz => ?_
      have ew2 : IntKind.wrap .i64 ((t : Int) + 1) = ((t + 1 : Nat) : Int) := by rw [wrap_id (by omega) (by omega)]; omega
      rw [ew2]
      have a7 := (a6.step (Ext.push H6 (.cells #[Value.pointer (some ⟨b, 0, none⟩)] 26))).keep hk
      refine ih (t + 1) (snapS s (snapPl p b mm done)) H' p' c' (by omega) (by omega) ⟨a7, ?_, hf6, fun q hq => ?_, fun _ q hq K L => ?_⟩ hsA ?_
      · show (s.pls ++ [_]).length = _
        simp [i.len]
      · rcases List.mem_append.1 hq with hq | hq
        · exact i.all q hq
        · rw [List.mem_singleton] at hq; subst hq
          refine ⟨(i.all p hpm).1, (i.all p hpm).2.1, hqen, fun X Y hh => ?_⟩
          rw [snap_px (i.at_.ok.pl p hpm) hsame]
          exact (i.all p hpm).2.2.2 X Y hh
      · have : q = snapPl p b mm done := by
          have h2 : (s.pls ++ [snapPl p b mm done])[t + 1]? = some q := hq
          rw [List.getElem?_append_right (by have := i.len; omega), i.len, Nat.sub_self] at h2
          simpa using h2.symm
        rw [this]
        exact needs_snap i.at_.ok hpm hsame (.inr rfl) K L
      · have : ptrs (snapS s (snapPl p b mm done)) = ptrs s ++ [Value.pointer (some ⟨b, 0, none⟩)] := by
          unfold ptrs snapS
          rw [List.map_append]; rfl
        rw [this]
        exact slN
  exact loop n.toNat 0 s1 H4 _ 1 (by omega) (by omega) i1 hA' sl1

end Go.Proofs
