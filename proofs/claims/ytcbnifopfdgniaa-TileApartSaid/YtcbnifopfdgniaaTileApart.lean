/-
  OWN WORK. TileApart over heaps: it answers true, and leaves all that was there.
-/
import Derived.Test.YtcbnifopfdgniaaTileFrees
set_option linter.unusedVariables false
set_option linter.unusedSimpArgs false
namespace Go.Proofs
open Go.Sh Go.Tile

def pxv (s : St) (p : Pl) (i : Nat) : Value := .int .i64 (pxAt s p ((i : Int) % 40) ((i : Int) / 40))
def pxs (s : St) (p : Pl) (n : Nat) : List Value := (List.range n).map (pxv s p)

theorem pxs_len (s : St) (p : Pl) (n : Nat) : (pxs s p n).length = n := by simp [pxs]
theorem pxs_get (s : St) (p : Pl) {n i : Nat} (h : i < n) : (pxs s p n)[i]? = some (pxv s p i) := by simp [pxs, h]
theorem pxs_eq {s s' : St} {p p' : Pl} (h : ∀ X Y, pxAt s p X Y = pxAt s' p' X Y) (n : Nat) : pxs s p n = pxs s' p' n := by
  unfold pxs
  exact List.map_congr_left fun i _ => by unfold pxv; rw [h]

theorem c15 {cap : Int} {H : Heap} {s : St} (hin : In H s) (hok : Ok cap s) {p : Pl} (hp : p ∈ s.pls) {R : Value → Heap → Prop}
    (hR : ∀ H' q l c, Ext H H' → SL H.size H' q l c 3 (pxs s p 1600) → R (.slice q l c) H') : CallsH Try.prog 15 #[.pointer (some ⟨p.b, 0, none⟩)] H R := by
  refine Try.s15 ?_
  unfold Try.S15
  intro X hX
  have loop : ∀ (m i : Nat) (H1 : Heap) (q : Option Addr) (c : Nat), 1600 - i = m → i ≤ 1600 → Ext H H1 → SL H.size H1 q i c 3 (pxs s p i) → X [.slice q i c, .int .i64 i] H1 := by
    intro m
    induction m with
    | zero =>
      intro i H1 q c hm hi e1 sl
      have : i = 1600 := by omega
      subst this
      exact hX q 1600 c _ H1 (br_n (by omega) (hR H1 q 1600 c e1 sl))
    | succ m ih =>
      intro i H1 q c hm hi e1 sl
      refine hX q i c _ H1 (br_y (by omega) ⟨by decide, by decide, ?_⟩)
      have et : Int.tmod (i : Int) 40 = (i : Int) % 40 := Int.tmod_eq_emod_of_nonneg (by omega)
      have ed : Int.tdiv (i : Int) 40 = (i : Int) / 40 := Int.tdiv_eq_ediv_of_nonneg (by omega)
      rw [et, ed, wrap_id (n := (i : Int) / 40) (by omega) (by omega)]
      refine c20 (hin.ext e1) hok hp _ _ fun H2 e2 => ⟨_, rfl, ?_⟩
      unfold alc
      have e3 : Ext H2 (H2.push (.cells #[pxv s p i] 3)) := Ext.push _ _
      have ew : IntKind.wrap .i64 ((i : Int) + 1) = ((i + 1 : Nat) : Int) := by rw [wrap_id (by omega) (by omega)]; omega
      rw [ew]
      refine ((sl.ext e2).ext e3).app (v := pxv s p i) (by have := e1.size; have := e2.size; simp; omega) (get_push_self _ _) rfl (by omega) fun p' c' H4 slN hk hsz => ?_
      refine ih (i + 1) H4 p' c' (by omega) (by omega) (fun b o hb => hk b o (e3 _ _ (e2 _ _ (e1 _ _ hb))) fun cs hle => ?_) ?_
      · have := lt_of_get hb
        omega
      · have : pxs s p (i + 1) = pxs s p i ++ [pxv s p i] := by simp [pxs, List.range_succ]
        rw [this]
        exact slN
  exact loop 1600 0 H none 0 rfl (by omega) (Ext.refl H) (SL.nil _ _ _)

theorem c16 {H : Heap} {n0 n1 : Nat} {a b : Option Addr} {al ac bl bc : Nat} {vs : List Value} (ha : SL n0 H a al ac 3 vs) (hb : SL n1 H b bl bc 3 vs) (hv : ∀ i : Nat, i < vs.length → ∃ z : Int, vs[i]? = some (.int .i64 z)) (hlen : vs.length ≤ 1000000)
    {R : Value → Heap → Prop} (hR : R (.bool true) H) : CallsH Try.prog 16 #[.slice a al ac, .slice b bl bc] H R := by
  have h1 := ha.len
  have h2 := hb.len
  refine Try.s16 ?_
  unfold Try.S16
  refine br_ne (fun h => absurd (by omega) h) (fun _ => ?_)
  intro X hX
  have loop : ∀ (m i : Nat), al - i = m → i ≤ al → X [.int .i64 i] H := by
    intro m
    induction m with
    | zero => intro i hm hi; exact hX _ H (br_n (by omega) hR)
    | succ m ih =>
      intro i hm hi
      obtain ⟨z, hz⟩ := hv i (by omega)
      obtain ⟨b1, rfl, c1⟩ := ha.cell hz
      obtain ⟨b2, rfl, c2⟩ := hb.cell hz
      refine hX _ H (br_y (by omega) ⟨_, rfl, by omega, by omega, z, by simpa using c1, _, rfl, by omega, by omega, z, by simpa using c2, br_f (by simp) ?_⟩)
      have ew : IntKind.wrap .i64 ((i : Int) + 1) = ((i + 1 : Nat) : Int) := by rw [wrap_id (by omega) (by omega)]; omega
      rw [ew]
      exact ih (i + 1) (by omega) (by omega)
  exact loop al 0 (by omega) (by omega)

theorem c16p {H : Heap} {n0 n1 : Nat} {a b : Option Addr} {al ac bl bc : Nat} {s : St} {p : Pl} (ha : SL n0 H a al ac 3 (pxs s p 1600)) (hb : SL n1 H b bl bc 3 (pxs s p 1600))
    {R : Value → Heap → Prop} (hR : R (.bool true) H) : CallsH Try.prog 16 #[.slice a al ac, .slice b bl bc] H R :=
  c16 ha hb (fun i hi => by rw [pxs_len] at hi; exact ⟨_, pxs_get s p hi⟩) (by rw [pxs_len]; decide) hR

theorem ops_loop {cap : Int} {H0 H : Heap} {s : St} (hat : At cap H0 H s) {p : Pl} (hk : s.pls[0]? = some p) {op : Option Addr} {ol : Nat} (hops : OpsIn H0 op ol) (hol : ol ≤ 1000000) {X : List Value → Heap → Prop} {K : Heap → Prop}
    (hX : ∀ t16 : Int, ∀ H_17 : Heap, (br (decide ((t16 : Int) < ((ol : Nat) : Int)))
      (∃ a18 : Addr, op = some a18 ∧ 0 ≤ t16 ∧ t16 < ((ol : Nat) : Int) ∧ ∃ v19 : Array Value, v19.size = 7 ∧ rowIn H_17 (Addr.add a18 (Int.toNat t16 * 7)) v19 ∧ alc H_17 (.cells #[Value.int .i64 0, Value.int .i64 0, Value.int .i64 0, Value.int .i64 0, Value.int .i64 0, Value.int .i64 0, Value.int .i64 0] 31) fun b20 H_21 => v19.size = 7 ∧ stAt H_21 ⟨b20, 0, none⟩ (Array.toList v19) fun H_22 => ∃ v23 : Array Value, v23.size = 7 ∧ rowIn H_22 ⟨b20, 0, none⟩ v23 ∧ CallsH Try.prog 11 #[Value.pointer (some ⟨p.b, 0, none⟩), Value.agg v23] H_22 fun r24 H_25 => r24 = Value.tuple #[] ∧ X [Value.int .i64 (IntKind.wrap .i64 (t16 + 1))] H_25)
      (K H_17)) → X [Value.int .i64 t16] H_17)
    (fin : ∀ H' s', Goes cap H s H' s' → Beside 0 s s' → K H') : X [Value.int .i64 0] H := by
  have loop : ∀ (m t : Nat) (H1 : Heap) (s1 : St), ol - t = m → t ≤ ol → Goes cap H s H1 s1 → Beside 0 s s1 → X [.int .i64 t] H1 := by
    intro m
    induction m with
    | zero => intro t H1 s1 hm ht hg hb; exact hX _ H1 (br_n (by omega) (fin H1 s1 hg hb))
    | succ m ih =>
      intro t H1 s1 hm ht hg hb
      have a1 := hat.goes hg
      obtain ⟨ao, rfl, o, hoo, hrow⟩ := (hops.ext a1.ext) t (by omega)
      refine hX _ H1 (br_y (by omega) ⟨_, rfl, by omega, by omega, o.cells, rfl, by simpa using hrow, ?_⟩)
      unfold alc
      refine ⟨rfl, copy_op rfl fun H5 e5 hop => ⟨o.cells, rfl, rowIn_whole hop, ?_⟩⟩
      obtain ⟨p1, hp1, hl1, _⟩ := hb.like hk
      have a5 := a1.step e5
      have ew : IntKind.wrap .i64 ((t : Int) + 1) = ((t + 1 : Nat) : Int) := by rw [wrap_id (by omega) (by omega)]; omega
      rw [← hl1.b, ew]
      refine c11 a5.inn a5.ok hp1 hoo fun H6 s6 hg6 hb6 => ⟨rfl, ?_⟩
      exact ih (t + 1) H6 s6 (by omega) (by omega) (hg.trans ((Goes.of_ext a1.inn a1.ok e5).trans hg6)) (hb.trans hb6)
  exact loop ol 0 H s (by omega) (by omega) (Goes.of_ext hat.inn hat.ok (Ext.refl H)) (Beside.refl 0 s)

set_option maxHeartbeats 4000000 in
theorem law3 {H : Heap} {fp lp : Option Addr} {fl fc ll lc : Nat} (hf : OpsIn H fp fl) (hl : OpsIn H lp ll) :
    CallsH Try.prog 3 #[.slice fp fl fc, .slice lp ll lc] H (fun u H' => u = .bool true ∧ Ext H H') := by
  refine Try.s3 ?_
  unfold Try.S3
  refine c8 fun H1 e1 => ⟨_, rfl, br_f rfl ?_⟩
  intro J6 hJ6
  refine br_dec (fun _ => ⟨rfl, e1⟩) (fun f20 => br_dec (fun _ => ⟨rfl, e1⟩) (fun l20 => hJ6 H1 ?_))
  refine c9 (by decide) (by decide) ⟨_, rfl, br_f rfl ?_⟩
  refine c10 (by decide) (by decide) (by decide) (by decide) ⟨_, _, rfl, br_f rfl ?_⟩
  simp only [Array.size_push]
  have a0 := at_new e1 (c := 100) (w := 40) (h := 40) (by decide) (by decide) (by decide) (by decide) (by decide) (by decide)
  generalize hp0 : newPl (H1.size + 1) (H1.size + 1 + 1) 40 40 = p0
  have hp0' : newPl (H1.size + 1) (H1.size + 2) 40 40 = p0 := hp0
  rw [hp0'] at a0
  generalize ((H1.push (arenaO 100)).push (.map #[] 0)).push (planeO H1.size p0) = H2 at a0 ⊢
  have hb0 : p0.b = H1.size + 1 + 1 := by subst hp0; rfl
  have hk0 : (newS H1.size 100 p0).pls[0]? = some p0 := rfl
  have hl0 : (newS H1.size 100 p0).pls.length = 1 := rfl
  generalize newS H1.size 100 p0 = s0 at a0 hk0 hl0
  rw [← hb0]
  intro X15 hX15
  refine ops_loop a0 hk0 hf (by omega) hX15 fun H3 s1 hg1 hbs1 => ?_
  have a1 := a0.goes hg1
  obtain ⟨p1, hk1, lk1, _⟩ := hbs1.like hk0
  have hl1 : s1.pls.length = 1 := by rw [hbs1.len, hl0]
  have hp1 := List.mem_of_getElem? hk1
  rw [← lk1.b]
  refine c14 a1.inn a1.ok hp1 (by omega) fun H4 b m done hb hsame hg2 => ⟨_, rfl, br_f rfl ?_⟩
  have a2 := a1.goes hg2
  generalize hq : snapPl p1 b m done = q at hg2 a2
  have hqb : q.b = b := by subst hq; rfl
  have hk2 : (snapS s1 q).pls[0]? = some p1 := by
    show (s1.pls ++ [q])[0]? = _
    rw [List.getElem?_append_left (by omega)]; exact hk1
  have hk2q : (snapS s1 q).pls[1]? = some q := by
    show (s1.pls ++ [q])[1]? = _
    rw [List.getElem?_append_right (by omega), hl1]; rfl
  have hpx2 : ∀ X Y, pxAt (snapS s1 q) q X Y = pxAt (snapS s1 q) p1 X Y := fun X Y => by subst hq; exact snap_px (a1.ok.pl p1 hp1) hsame X Y
  generalize snapS s1 q = s2 at hg2 a2 hk2 hk2q hpx2
  rw [← hqb]
  refine c15 a2.inn a2.ok (List.mem_of_getElem? hk2) fun H5 wp wl wc e5 wsl => ⟨wp, wl, wc, rfl, ?_⟩
  intro X32 hX32
  have a5 := a2.step e5
  refine ops_loop a5 hk2 hl (by omega) hX32 fun H6 s3 hg3 hbs3 => ?_
  have a6 := a5.goes hg3
  have wsl6 := wsl.goes (.inr (.inl rfl)) a5.inn hg3
  obtain ⟨p3, hk3, lk3, _⟩ := hbs3.like hk2
  obtain ⟨q3, hk3q, lk3q, px3q⟩ := hbs3.like hk2q
  have e3 : pxs s2 p1 1600 = pxs s3 q3 1600 := pxs_eq (fun X Y => by rw [px3q (by decide), hpx2]) 1600
  rw [e3] at wsl6
  rw [← lk3q.b, ← lk3.b]
  refine c15 a6.inn a6.ok (List.mem_of_getElem? hk3q) fun H7 rp rl rc e7 rsl => ⟨rp, rl, rc, rfl, ?_⟩
  refine c16p rsl (wsl6.ext e7) ⟨_, rfl, br_f rfl ?_⟩
  have a7 := a6.step e7
  refine c15 a7.inn a7.ok (List.mem_of_getElem? hk3) fun H8 np nl nc e8 nsl => ⟨np, nl, nc, rfl, ?_⟩
  have a8 := a7.step e8
  refine c13g a8.inn a8.ok hk3q (by decide) (by decide) (by decide) (by decide) fun H9 s4 r hg4 hbs4 => ⟨r, rfl, ?_⟩
  have a9 := a8.goes hg4
  have nsl9 := nsl.goes (.inr (.inl rfl)) a8.inn hg4
  obtain ⟨p4, hk4, lk4, px4⟩ := hbs4.like hk3
  obtain ⟨q4, hk4q, lk4q, _⟩ := hbs4.like hk3q
  rw [← lk4q.b, ← lk4.b]
  refine c17 a9.inn a9.ok hk4q fun H10 hg5 => ⟨rfl, ?_⟩
  have a10 := a9.goes hg5
  have nsl10 := nsl9.goes (.inr (.inl rfl)) a9.inn hg5
  have hk5 : (dropS s4 1 q4).pls[0]? = some p4 := by rw [drop_pls hk4q]; exact hk4
  have hp5 := List.mem_of_getElem? hk5
  have e10 : pxs s3 p3 1600 = pxs (dropS s4 1 q4) p4 1600 := pxs_eq (fun X Y => by rw [drop_px a9.ok hk4q hp5, px4 (by decide)]) 1600
  rw [e10] at nsl10
  refine c15 a10.inn a10.ok hp5 fun H11 zp zl zc e11 zsl => ⟨zp, zl, zc, rfl, ?_⟩
  refine c16p zsl (nsl10.ext e11) ⟨_, rfl, rfl, (a10.step e11).ext⟩

end Go.Proofs
