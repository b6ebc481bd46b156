/-
  OWN WORK. TileFrees over heaps: it answers true, and leaves all that was there.
-/
import Derived.Test.YtcbnifopfdgniaaTilePl
set_option linter.unusedVariables false
set_option linter.unusedSimpArgs false
namespace Go.Proofs
open Go.Sh Go.Tile

theorem ptrs_drop {s : St} {k : Nat} {p : Pl} (hk : s.pls[k]? = some p) : ptrs (dropS s k p) = ptrs s := map_set_same (f := fun q : Pl => Value.pointer (some ⟨q.b, 0, none⟩)) (b := bare p) hk rfl

theorem ptrs_get {s : St} {k : Nat} {p : Pl} (hk : s.pls[k]? = some p) : (ptrs s)[k]? = some (Value.pointer (some ⟨p.b, 0, none⟩)) := by unfold ptrs; rw [List.getElem?_map, hk]; rfl

theorem ptrs_snap (s : St) (q : Pl) : ptrs (snapS s q) = ptrs s ++ [Value.pointer (some ⟨q.b, 0, none⟩)] := by unfold ptrs snapS; rw [List.map_append]; rfl

theorem ptrs_len (s : St) : (ptrs s).length = s.pls.length := by simp [ptrs]

theorem free_le {cap : Int} {s : St} (h : Ok cap s) : 0 ≤ s.free ∧ s.free ≤ cap := by
  have := h.count
  have := h.free
  omega

/-- What holds between the steps. -/
structure PI (cap : Int) (H0 H : Heap) (A : Nat) (lp : Option Addr) (ll lc : Nat) (s : St) : Prop where
  at_ : At cap H0 H s
  sl : SL H0.size H lp ll lc 26 (ptrs s)
  A : s.A = A

theorem PI.ext {cap : Int} {H0 H H' : Heap} {A : Nat} {lp : Option Addr} {ll lc : Nat} {s : St} (h : PI cap H0 H A lp ll lc s) (he : Ext H H') : PI cap H0 H' A lp ll lc s := ⟨h.at_.step he, h.sl.ext he, h.A⟩

theorem PI.goes {cap : Int} {H0 H H' : Heap} {A : Nat} {lp : Option Addr} {ll lc : Nat} {s s' : St} (h : PI cap H0 H A lp ll lc s) (hg : Goes cap H s H' s') (hp : ptrs s' = ptrs s) (hA : s'.A = s.A) : PI cap H0 H' A lp ll lc s' :=
  ⟨h.at_.goes hg, by rw [hp]; exact h.sl.goes (.inl rfl) h.at_.inn hg, hA.trans h.A⟩

theorem PI.len {cap : Int} {H0 H : Heap} {A : Nat} {lp : Option Addr} {ll lc : Nat} {s : St} (h : PI cap H0 H A lp ll lc s) : s.pls.length = ll := by rw [← ptrs_len]; exact h.sl.len

theorem PI.get {cap : Int} {H0 H : Heap} {A : Nat} {lp : Option Addr} {ll lc : Nat} {s : St} (h : PI cap H0 H A lp ll lc s) {i : Int} (h0 : 0 ≤ i) (h1 : i < ll) :
    ∃ p, s.pls[i.toNat]? = some p ∧ ∃ blk, lp = some ⟨blk, 0, none⟩ ∧ cell H (Addr.add ⟨blk, 0, none⟩ (Int.toNat i * 1)) = some (Value.pointer (some ⟨p.b, 0, none⟩)) := by
  have := h.len
  have hp : s.pls[i.toNat]? = some s.pls[i.toNat] := List.getElem?_eq_getElem (by omega)
  obtain ⟨blk, hb, hc⟩ := h.sl.cell (ptrs_get hp)
  exact ⟨_, hp, blk, hb, by simpa using hc⟩

theorem PI.snap {cap : Int} {H0 H H' : Heap} {A : Nat} {lp : Option Addr} {ll lc : Nat} {s : St} {q : Pl} (h : PI cap H0 H A lp ll lc s) (hg : Goes cap H s H' (snapS s q)) (hll : (ll + 1) * 8 ≤ 70368744177664)
    {K : Option Addr → Nat → Nat → Heap → Prop} (hK : ∀ p' c' H'', PI cap H0 H'' A p' (ll + 1) c' (snapS s q) → K p' (ll + 1) c' H'') :
    appQ 1 8 #[Value.pointer none] (H'.push (.cells #[Value.pointer (some ⟨q.b, 0, none⟩)] 26)) lp ll lc (some ⟨H'.size, 0, none⟩) 1 26 K := by
  have a6 := h.at_.goes hg
  have sl6 := h.sl.goes (.inl rfl) h.at_.inn hg
  have sl7 := sl6.ext (Ext.push H' (.cells #[Value.pointer (some ⟨q.b, 0, none⟩)] 26))
  refine sl7.app (by have := a6.ext.size; simp; omega) (get_push_self _ _) rfl hll fun p' c' H'' slN hk hsz => ?_
  have a7 := (a6.step (Ext.push H' (.cells #[Value.pointer (some ⟨q.b, 0, none⟩)] 26))).keep hk
  exact hK p' c' H'' ⟨a7, by rw [ptrs_snap]; exact slN, h.A⟩

set_option maxHeartbeats 4000000 in
theorem law4 {H : Heap} {op : Option Addr} {ol oc : Nat} {cap : Int} (hops : OpsIn H op ol) :
    CallsH Try.prog 4 #[.slice op ol oc, .int .i64 cap] H (fun u H' => u = .bool true ∧ Ext H H') := by
  refine Try.s4 ?_
  unfold Try.S4
  refine c8 fun H1 e1 => ⟨_, rfl, br_f rfl ?_⟩
  intro J6 hJ6
  refine br_dec (fun _ => ⟨rfl, e1⟩) (fun l40 => br_dec (fun _ => ⟨rfl, e1⟩) (fun c0 => br_dec (fun _ => ⟨rfl, e1⟩) (fun c1 => hJ6 H1 ?_)))
  refine c9 (by omega) (by omega) ⟨_, rfl, br_f rfl ?_⟩
  refine c10 (by decide) (by decide) (by decide) (by decide) ⟨_, _, rfl, ?_⟩
  simp only [Array.size_push]
  have a0 := at_new e1 (c := cap) (w := 50) (h := 50) (by omega) (by omega) (by decide) (by decide) (by decide) (by decide)
  generalize hp0 : newPl (H1.size + 1) (H1.size + 1 + 1) 50 50 = p0
  have hp0' : newPl (H1.size + 1) (H1.size + 2) 50 50 = p0 := hp0
  rw [hp0'] at a0
  generalize ((H1.push (arenaO cap)).push (.map #[] 0)).push (planeO H1.size p0) = H2 at a0 ⊢
  have hb0 : p0.b = H1.size + 1 + 1 := by subst hp0; rfl
  have hA : (newS H1.size cap p0).A = H1.size := rfl
  have hpl : (newS H1.size cap p0).pls = [p0] := rfl
  generalize newS H1.size cap p0 = s0 at a0 hA hpl
  rw [← hb0]
  unfold alc
  generalize H1.size = A at hA ⊢
  have i1 : PI cap H (H2.push (.cells #[Value.pointer (some ⟨p0.b, 0, none⟩)] 26)) A (some ⟨H2.size, 0, none⟩) 1 1 s0 := by
    refine ⟨a0.step (Ext.push _ _), ?_, hA⟩
    have : ptrs s0 = [Value.pointer (some ⟨p0.b, 0, none⟩)] := by unfold ptrs; rw [hpl]; rfl
    rw [this]
    exact SL.one a0.ext.size (get_push_self _ _)
  generalize H2.push (.cells #[Value.pointer (some ⟨p0.b, 0, none⟩)] 26) = H3 at i1 ⊢
  intro X hX
  have at18 : ∀ {lp : Option Addr} {ll lc : Nat} {H6 : Heap} {s6 : St}, PI cap H H6 A lp ll lc s6 → ∀ {R : Value → Heap → Prop}, R (.int .i64 s6.free) H6 → CallsH Try.prog 18 #[.pointer (some ⟨A, 0, none⟩)] H6 R := fun i R hR => by
    rw [← i.A]; exact c18 i.at_.inn.arena hR
  have loop : ∀ (m : Nat) (t : Nat) (s : St) (H4 : Heap) (lp : Option Addr) (ll lc : Nat), ol - t = m → t ≤ ol → ll ≤ t + 1 → PI cap H H4 A lp ll lc s → X [Value.slice lp ll lc, Value.int .i64 t] H4 := by
    intro m
    induction m with
    | zero =>
      intro t s H4 lp ll lc hm ht hll i
      refine hX lp ll lc t H4 (br_n (by omega) ?_)
      intro Y hY
      have drops : ∀ (m2 : Nat) (j : Nat) (s : St) (H5 : Heap), ll - j = m2 → j ≤ ll → PI cap H H5 A lp ll lc s → (∀ k q, k < j → s.pls[k]? = some q → q.en = []) → Y [Value.int .i64 j] H5 := by
        intro m2
        induction m2 with
        | zero =>
          intro j s H5 hm2 hj i5 hall
          refine hY j H5 (br_n (by omega) ?_)
          refine at18 i5 ⟨_, rfl, ?_, i5.at_.ext⟩
          have hf := all_free i5.at_.ok fun q hq => by
            obtain ⟨k, hk⟩ := List.getElem?_of_mem hq
            have := (List.getElem?_eq_some_iff.1 hk).1
            have := i5.len
            exact hall k q (by omega) hk
          rw [hf]; simp
        | succ m2 ih2 =>
          intro j s H5 hm2 hj i5 hall
          refine hY j H5 (br_y (by omega) ?_)
          obtain ⟨p, hp, blk, rfl, hcell⟩ := i5.get (i := (j : Int)) (by omega) (by omega)
          rw [Int.toNat_natCast] at hp
          refine ⟨_, rfl, by omega, by omega, some ⟨p.b, 0, none⟩, hcell, ?_⟩
          refine c17 i5.at_.inn i5.at_.ok hp fun H6 hg => ⟨rfl, ?_⟩
          have i6 := i5.goes hg (ptrs_drop hp) rfl
          have hpl6 := drop_pls hp
          have hb6 : (dropS s j p).pls[j]? = some (bare p) := by rw [hpl6, if_pos rfl]
          have hbm := List.mem_of_getElem? hb6
          refine c19 (p := bare p) (i6.at_.inn.plane _ hbm) (i6.at_.inn.map _ hbm) ⟨_, rfl, br_f rfl ?_⟩
          refine c20 (p := bare p) i6.at_.inn i6.at_.ok hbm 3 3 fun H7 e7 => ⟨_, rfl, ?_⟩
          rw [bare_px]
          refine br_f rfl ?_
          have ew : IntKind.wrap .i64 ((j : Int) + 1) = ((j + 1 : Nat) : Int) := by rw [wrap_id (by omega) (by omega)]; omega
          rw [ew]
          refine ih2 (j + 1) (dropS s j p) H7 (by omega) (by omega) (i6.ext e7) fun k q hk hq => ?_
          rw [hpl6] at hq
          by_cases hkj : k = j
          · rw [if_pos hkj] at hq; cases hq; rfl
          · rw [if_neg hkj] at hq; exact hall k q (by omega) hq
      exact drops ll 0 s H4 (by omega) (by omega) i (fun k q hk => absurd hk (by omega))
    | succ m ih =>
      intro t s H4 lp ll lc hm ht hll i
      refine hX lp ll lc t H4 (br_y (by omega) ?_)
      intro J21 hJ21
      have ew : IntKind.wrap .i64 ((t : Int) + 1) = ((t + 1 : Nat) : Int) := by rw [wrap_id (by omega) (by omega)]; omega
      have next : ∀ (s5 : St) (H5 : Heap) (lp : Option Addr) (ll lc : Nat), ll ≤ t + 2 → PI cap H H5 A lp ll lc s5 → J21 [Value.slice lp ll lc] H5 := fun s5 H5 lp ll lc hl i5 => by
        refine hJ21 lp ll lc H5 ?_
        rw [ew]
        exact ih (t + 1) s5 H5 lp ll lc (by omega) (by omega) hl i5
      obtain ⟨ao, rfl, o, hoo, hrow⟩ := (hops.ext i.at_.ext) t (by omega)
      refine ⟨_, rfl, by omega, by omega, o.cells, rfl, by simpa using hrow, rfl, ?_⟩
      refine copy_op rfl fun H5 e5 hop => ?_
      have rd : ∀ {j : Nat} {z : Int}, o.cells[j]? = some (Value.int .i64 z) → cell H5 (Addr.add ⟨H4.size, 0, none⟩ j) = some (Value.int .i64 z) := fun hz => by rw [add_none, Nat.zero_add]; exact cell_get hop hz
      have i5 := i.ext e5
      intro J29 hJ29
      refine ⟨o.n, rd rfl, br_dec (fun _ => next s H5 lp ll lc (by omega) i5) (fun n0 => ⟨o.n, rd rfl, br_dec (fun _ => next s H5 lp ll lc (by omega) i5) (fun n1 => hJ29 H5 ?_)⟩)⟩
      intro J31 hJ31
      have back : ∀ (s6 : St) (H6 : Heap) (lp : Option Addr) (ll lc : Nat), ll ≤ t + 2 → PI cap H H6 A lp ll lc s6 → J31 [Value.slice lp ll lc] H6 := fun s6 H6 lp ll lc hl i6 => by
        have hfl := free_le i6.at_.ok
        refine hJ31 lp ll lc H6 (at18 i6 ⟨_, rfl, br_n (by omega) (at18 i6 ⟨_, rfl, br_n (by omega) ?_⟩)⟩)
        exact next s6 H6 lp ll lc hl i6
      obtain ⟨p, hp, blk, hlp, hcell⟩ := i5.get (i := o.n) (by omega) (by omega)
      have hpm := List.mem_of_getElem? hp
      refine ⟨o.kd, rd rfl, br_eq (fun _ => ?_) (fun _ => br_eq (fun _ => ?_) (fun _ => br_eq (fun _ => ?_) (fun _ => br_eq (fun _ => ?_) (fun _ => ?_))))⟩
      · refine ⟨o.n, rd rfl, _, hlp, by omega, by omega, some ⟨p.b, 0, none⟩, hcell, o.x, rd rfl, o.y, rd rfl, o.v, rd rfl, ?_⟩
        exact c12g i5.at_.inn i5.at_.ok hp _ _ _ fun H6 s6 r hg hb => ⟨r, rfl, back s6 H6 lp ll lc (by omega) (i5.goes hg hb.ptrs hb.A)⟩
      · refine ⟨o.n, rd rfl, _, hlp, by omega, by omega, some ⟨p.b, 0, none⟩, hcell, o.x, rd rfl, o.y, rd rfl, o.w, rd rfl, o.h, rd rfl, o.v, rd rfl, ?_⟩
        exact c13g i5.at_.inn i5.at_.ok hp hoo.2.1 hoo.2.2.1 hoo.2.2.2.1 hoo.2.2.2.2 fun H6 s6 r hg hb => ⟨r, rfl, back s6 H6 lp ll lc (by omega) (i5.goes hg hb.ptrs hb.A)⟩
      · refine ⟨o.n, rd rfl, _, hlp, by omega, by omega, some ⟨p.b, 0, none⟩, hcell, ?_⟩
        have hlen := i5.len
        refine c14 i5.at_.inn i5.at_.ok hpm (by omega) fun H6 b mm done hb hsame hg => ⟨_, rfl, ?_⟩
        refine i5.snap (q := snapPl p b mm done) hg (by omega) fun p' c' H7 i7 => ?_
        exact back _ H7 p' (ll + 1) c' (by omega) i7
      · refine ⟨o.n, rd rfl, _, hlp, by omega, by omega, some ⟨p.b, 0, none⟩, hcell, ?_⟩
        refine c17 i5.at_.inn i5.at_.ok hp fun H6 hg => ⟨rfl, ?_⟩
        exact back _ H6 lp ll lc (by omega) (i5.goes hg (ptrs_drop hp) rfl)
      · exact back s H5 lp ll lc (by omega) i5
  exact loop ol 0 s0 H3 _ 1 1 (by omega) (by omega) (by omega) i1

end Go.Proofs
