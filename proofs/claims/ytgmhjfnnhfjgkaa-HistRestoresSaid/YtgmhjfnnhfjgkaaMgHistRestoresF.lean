/-
  OWN WORK. Several texts in one: TtF, TtG, TtH, TtI, TtJ, TtK, HsH, HsBack, HsBranch, HsRest, OpBytes, OpTree, OpHist.
-/
import Derived.Test.YtgmhjfnnhfjgkaaMgHistRestoresE
import Derived.Test.YtgmhjfnnhfjgkaaRows
import Derived.Test.YtgmhjfnnhfjgkaaMgHistRestoresB
import Derived.ChangeSlices
import Derived.Deep.Slices

set_option linter.unusedVariables false
set_option linter.unusedSimpArgs false
set_option maxRecDepth 10000
namespace Go.Proofs
open Go.Sh
variable {H0 H : Heap} {σ : List Rs} {R : Value → Heap → Prop}
structure ChgR (g : Int × LayF) (H : Heap) (r : RT) (R : Value → Heap → Prop) : Prop where
 bad : g.1 ≠ 0 → ∀ H', Ext H H' → R (.tuple #[.agg (cellsR r).toArray, .int .i64 g.1]) H'
 ok : g.1 = 0 → ∀ (r' : RT) H' τ, r'.f = g.2 → r'.to = r.to → St H H' τ → (∀ H'' fps, rdR H'' r → Lie H'' τ fps → rdR H'' r') → R (.tuple #[.agg (cellsR r').toArray, .int .i64 0]) H'
theorem ChgR.err {g : Int × LayF} {r : RT} (hc : ChgR g H r R) {v : Int} {x : LayF} (hg : g = (v, x)) (hv : v ≠ 0) {H' : Heap} (he : Ext H H') : R (.tuple #[.agg (cellsR r).toArray, .int .i64 v]) H' := by
 have := hc.bad (by rw [hg]; exact hv) H' he
 rw [hg] at this; exact this
theorem edL_10 (e : Ed) (s : EdS) : (edL e s).toArray[10]? = some (.slice s.P.p s.P.l s.P.c) := rfl
theorem edL_11 (e : Ed) (s : EdS) : (edL e s).toArray[11]? = some (.slice s.S.p s.S.l s.S.c) := rfl
theorem edL_18 (e : Ed) (s : EdS) : (edL e s).toArray[18]? = some (.slice s.A.p s.A.l s.A.c) := rfl
end Go.Proofs
namespace Go.Proofs
open Go.Sh
variable {H0 H : Heap} {σ : List Rs} {R : Value → Heap → Prop}
theorem IS.nil (H : Heap) : IS H none 0 [] := ⟨rfl, fun i v h => by simp at h⟩
end Go.Proofs
namespace Go.Proofs
open Go.Sh
variable {H0 H : Heap} {σ : List Rs} {R : Value → Heap → Prop}
end Go.Proofs
namespace Go.Proofs
open Go.Sh
variable {H0 H : Heap} {σ : List Rs} {R : Value → Heap → Prop}
end Go.Proofs
namespace Go.Proofs
open Go.Sh
variable {H0 H : Heap} {σ : List Rs} {R : Value → Heap → Prop}
end Go.Proofs
namespace Go.Proofs
open Go.Sh
variable {H0 H : Heap} {σ : List Rs} {R : Value → Heap → Prop}
theorem IS.bs {H : Heap} {p : Option Addr} {l : Nat} {xs : List Int} (h : IS H p l (kints .u8 xs)) : bsOf H p l xs := by
 cases p with
 | none =>
  exact List.eq_nil_iff_forall_not_mem.2 fun v hv => by
   obtain ⟨i, hi⟩ := List.getElem?_of_mem hv
   obtain ⟨a, h1, _⟩ := h.get i _ (kints_get hi)
   cases h1
 | some a =>
  refine ⟨h.length, fun j v hv => ?_⟩
  obtain ⟨a', h1, h2⟩ := h.get j v (by simpa [kints] using hv)
  cases h1; exact h2
structure EdsR (H : Heap) (p : Option Addr) (l : Nat) (es : List (Ed × EdS)) : Prop where
 len : es.length = l
 get : ∀ (i : Nat) e s, es[i]? = some (e, s) → ∃ a, p = some a ∧ rowIn H (a.add (i * 19)) (edL e s).toArray ∧ rdEd H e s
theorem EdsR.ext {H H' : Heap} {p : Option Addr} {l : Nat} {es : List (Ed × EdS)} (h : EdsR H p l es) (he : Ext H H') : EdsR H' p l es := ⟨h.len, fun i e s hi => let ⟨a, h1, h2, h3⟩ := h.get i e s hi; ⟨a, h1, rowAt_ext he h2, h3.ext he⟩⟩
def smallE (e : Ed) : Bool := decide (e.p.length ≤ 600 ∧ e.shape.length ≤ 300 ∧ e.params.length ≤ 100 ∧ ¬ (e.kind = 1 ∧ e.n = 0 ∧ sizedB e.w e.h = true ∧ e.w * e.h > 600))
def smallB (es : List (Ed × EdS)) (most : Int) : Bool := decide ((es.length : Int) ≤ most) && es.all fun x => smallE x.1
theorem c7 {p : Option Addr} {l c : Nat} {es : List (Ed × EdS)} {most : Int} (h : EdsR H p l es) (hm : most ≤ 1000000) (hR : ∀ H', Ext H H' → R (.bool (smallB es most)) H') : CallsH Try.prog 7 #[.slice p l c, .int .i64 most] H R := by
 refine Try.s7 ?_
 unfold Try.S7
 have hlen := h.len
 refine br_dec (fun hgt => ?_) fun hle => ?_
 ·have := hR H (Ext.refl H)
  rw [show smallB es most = false from by unfold smallB; rw [decide_eq_false (by omega), Bool.false_and]] at this; exact this
 intro X hX
 have go : ∀ k, k ≤ es.length → ∀ H1, Ext H H1 → (es.take k).all (fun x => smallE x.1) = true → X [.int .i64 (k : Nat)] H1 := by
  refine upto fun k hk ih H1 he hall => hX _ _ (br_dec (fun hlt => ?_) fun hge => ?_)
  ·have hk' : k < es.length := by omega
   have hx := List.getElem?_eq_getElem hk'
   generalize hxe : es[k] = x at hx
   obtain ⟨e, s⟩ := x
   obtain ⟨a, hp, hrow, hrd⟩ := (h.ext he).get k e s hx
   have hpl := hrd.p.length
   have hsl := hrd.shape.len
   have hal := hrd.params.length
   intro J6 hJ6
   refine ⟨a, hp, by omega, hlt, _, rfl, hrow, (St.of_ext he).alc fun b10 H11 hs11 => ⟨rfl, hs11.putAll 0 rfl rfl (by simpa using edL_one e s) fun H12 hs12 => ?_⟩⟩
   have bad : ∀ {H2 : Heap}, Ext H H2 → smallE e = false → R (.bool false) H2 := fun he2 hb => by
    have := hR _ he2
    rw [show smallB es most = false from by
     unfold smallB
     rw [show es.all (fun x => smallE x.1) = false from Bool.eq_false_iff.2 fun hh => by
      have := List.all_eq_true.1 hh _ (List.mem_of_getElem? hx)
      rw [hb] at this; cases this]
     rw [Bool.and_false]] at this
    exact this
   have good : ∀ {H2 : Heap}, Ext H H2 → smallE e = true → J6 [] H2 := fun he2 hb => by
    refine hJ6 _ ?_
    rw [wrap_id (by omega) (by omega)]
    refine ih hk' _ he2 ?_
    rw [take_succ hx, List.all_append, hall, Bool.true_and, List.all_cons, List.all_nil, Bool.and_true]; exact hb
   refine ⟨_, _, _, hs12.get 0 rfl (edL_10 e s), br_dec (fun c => bad hs12.ext (decide_eq_false (by omega))) fun c1 => ?_⟩
   refine ⟨_, _, _, hs12.get 0 rfl (edL_11 e s), br_dec (fun c => bad hs12.ext (decide_eq_false (by omega))) fun c2 => ?_⟩
   refine ⟨_, _, _, hs12.get 0 rfl (edL_18 e s), br_dec (fun c => bad hs12.ext (decide_eq_false (by omega))) fun c3 => ?_⟩
   have fin : ∀ {H2 : Heap}, Ext H H2 → ¬ (e.kind = 1 ∧ e.n = 0 ∧ sizedB e.w e.h = true ∧ e.w * e.h > 600) → J6 [] H2 := fun he2 hno => good he2 (decide_eq_true ⟨by omega, by omega, by omega, hno⟩)
   refine ⟨e.kind, hs12.get 0 rfl (j := 0) rfl, br_eq (fun k1 => ⟨e.n, hs12.get 0 rfl (j := 4) rfl, br_eq (fun n0 => ?_) fun n0 => fin hs12.ext fun hh => n0 hh.2.1⟩) fun k1 => fin hs12.ext fun hh => k1 hh.1⟩
   refine ⟨e.w, hs12.get 0 rfl (j := 8) rfl, e.h, hs12.get 0 rfl (j := 9) rfl, c20 ⟨_, rfl, br_i (fun hb => ?_) fun hb => fin hs12.ext fun hh => by rw [hb] at hh; exact absurd hh.2.2.1 (by decide)⟩⟩
   obtain ⟨q1, q2, q3, q4, q5⟩ := of_decide_eq_true hb
   refine ⟨e.w, hs12.get 0 rfl (j := 8) rfl, e.h, hs12.get 0 rfl (j := 9) rfl, ?_⟩
   rw [wrap_area q1 q2 q3 q4]
   refine br_dec (fun hg => bad hs12.ext (decide_eq_false fun hh => hh.2.2.2 ⟨k1, n0, hb, hg⟩)) fun hg => fin hs12.ext fun hh => hg hh.2.2.2
  ·rw [List.take_of_length_le (by omega)] at hall
   have := hR H1 he
   rw [show smallB es most = true from by unfold smallB; rw [hall, decide_eq_true (by omega)]; rfl] at this; exact this
 exact go 0 (Nat.zero_le _) H (Ext.refl H) rfl
theorem one_eds {b : Nat} {e : Ed} {s : EdS} {ty : TypeId} (hb : H[b]? = some (.cells (edL e s).toArray ty)) (hrd : rdEd H e s) : EdsR H (some ⟨b, 0, none⟩) 1 [(e, s)] :=
 ⟨rfl, fun i e' s' hi => by
  cases i with
  | zero =>
   simp at hi
   obtain ⟨rfl, rfl⟩ := hi
   exact ⟨_, rfl, by rw [add_none]; exact rowIn_whole hb, hrd⟩
  | succ i => simp at hi⟩
theorem elemE (e : Ed) (s : EdS) : (setL [Value.int .i64 0, Value.int .i64 0, Value.int .i64 0, Value.int .i64 0, Value.int .i64 0, Value.int .i64 0, Value.int .i64 0, Value.int .i64 0, Value.int .i64 0, Value.int .i64 0, Value.slice none 0 0, Value.slice none 0 0, Value.int .i64 0, Value.int .i64 0, Value.int .i64 0, Value.int .i64 0, Value.int .i64 0, Value.int .i64 0, Value.slice none 0 0] 0 (Array.toList (edL e s).toArray)).toArray = (edL e s).toArray := by
 rw [setL_all (by rfl)]
end Go.Proofs
namespace Go.Proofs
open Go.Sh
variable {H0 H : Heap} {σ : List Rs} {R : Value → Heap → Prop}
theorem docs_pd {P : Sl3} {ds : List DocL} (hs : St H0 H (docsRs P ds :: σ)) : ∃ l : List PD, l.map Prod.snd = ds ∧ St H0 H (.sl P.p P.l P.c 27 4 (cellsP l) :: pdRs l :: σ) := by
 obtain ⟨l, h1, h2⟩ := St_docsOut hs
 refine ⟨l, h1, ?_⟩
 have h3 : St H0 H ((l.map fun x => docRs (arrP x) x.2) ++ (.sl P.p P.l P.c 27 4 (cellsP l) :: σ)) := h2.perm (List.perm_middle (l₁ := l.map fun x => docRs (arrP x) x.2)).symm
 exact (St.persOf (τ := l.map fun x => docRs (arrP x) x.2) h3 fun H' h' => docs_all h' fun x hx => List.mem_map_of_mem hx).swap
theorem pdJoin {l l' : List PD} (hs : St H0 H (pdRs l :: pdRs l' :: σ)) : St H0 H (pdRs (l ++ l') :: σ) :=
 St.persOf (τ := [pdRs l, pdRs l']) hs fun H' h' x hx => by
  rcases List.mem_append.1 hx with hx | hx
  ·exact h'.pd 0 rfl hx
  ·exact h'.pd 1 rfl hx
theorem c18 {n : Nat} {m : HM} (hs : St H0 H σ) (hd : DocK H m.now) (hp : PdsR H m.P m.past) (hf : PdsR H m.F m.fut) (hk : HOk n m.abs) (hn : n ≤ 1000000) (hR : ∀ b H', St H0 H' (histRs b m.abs :: σ) → R (.pointer (some ⟨b, 0, none⟩)) H') :
    CallsH Try.prog 18 #[.agg (histA m.now m.P m.F)] H R := by
  have hlen := hk.len
  have hlen : (m.past.map Prod.snd).length + (m.fut.map Prod.snd).length ≤ n := hlen
  rw [List.length_map, List.length_map] at hlen
  have hip : ∀ x ∈ m.past, Inv x.2 := fun x hx => (hk.inv x.2 (.inr (.inl (List.mem_map_of_mem hx)))).1
  have hif : ∀ x ∈ m.fut, Inv x.2 := fun x hx => (hk.inv x.2 (.inr (.inr (List.mem_map_of_mem hx)))).1
  refine Try.s18 ?_
  unfold Try.S18
  refine (St.nil H).alc fun b2 H3 hs3 => ⟨arrP m.now, arrP_size _, hist_row (hs3.block 0 rfl), m.P.p, m.P.l, m.P.c, hs3.get 0 rfl (j := 4) rfl, m.F.p, m.F.l, m.F.c, hs3.get 0 rfl (j := 5) rfl, ?_⟩
  refine c21 hs3 (DocK.ext hd hs3.ext) hk.now.1 fun A' H8 hd' hs8 => ⟨_, rfl, .inr ⟨⟨_, _, _, hs8.get 1 rfl (j := 5) rfl, rfl⟩, ⟨_, _, _, hs8.get 1 rfl (j := 4) rfl, rfl⟩⟩, ?_⟩
  obtain ⟨K', rfl⟩ := docR_arr hd'
  refine c27 hs8 (P := m.P) (l := m.past) (hp.ext hs8.ext) hip (by omega) fun P' H11 hP' hs11 => ⟨_, _, _, rfl, .inr ⟨_, _, _, hs11.get 2 rfl (j := 5) rfl, rfl⟩, ?_⟩
  refine c27 hs11 (P := m.F) (l := m.fut) (hf.ext hs11.ext) hif (by omega) fun F' H14 hF' hs14 => ⟨_, _, _, rfl, arrP_size (K', m.now.2), by decide, rfl, by decide, rfl, by decide, ?_⟩
  refine (hs14.del 3).alc fun b16 H17 hs17 => hR b16 H17 ?_
  have h17 : St H H17 (docsRs F' (m.fut.map Prod.snd) :: docsRs P' (m.past.map Prod.snd) :: docRs (arrP (K', m.now.2)) m.now.2 :: [.cell b16 (histA (K', m.now.2) P' F') 62]) := hs17.perm (permC (a := [_, _, _, _]) (b := [_, _, _, _]) fun _ y => by simp only [List.count_cons, List.count_nil]; ac_rfl)
  obtain ⟨lf, hlf, h18⟩ := docs_pd h17
  have h19 : St H H17 (docsRs P' (m.past.map Prod.snd) :: docRs (arrP (K', m.now.2)) m.now.2 :: .cell b16 (histA (K', m.now.2) P' F') 62 :: .sl F'.p F'.l F'.c 27 4 (cellsP lf) :: [pdRs lf]) := h18.perm (permC (a := [_, _, _, _, _]) (b := [_, _, _, _, _]) fun _ y => by simp only [List.count_cons, List.count_nil]; ac_rfl)
  obtain ⟨lp, hlp, h20⟩ := docs_pd h19
  have h21 : St H H17 (docRs (arrP (K', m.now.2)) m.now.2 :: pdRs lp :: pdRs lf :: .cell b16 (histA (K', m.now.2) P' F') 62 :: .sl P'.p P'.l P'.c 27 4 (cellsP lp) :: [.sl F'.p F'.l F'.c 27 4 (cellsP lf)]) := h20.perm (permC (a := [_, _, _, _, _, _]) (b := [_, _, _, _, _, _]) fun _ y => by simp only [List.count_cons, List.count_nil]; ac_rfl)
  have h22 := pdJoin (St.pdOne (x := (K', m.now.2)) h21)
  have h23 := pdJoin h22
  refine St_histIn ⟨(K', m.now.2), P', F', lp, lf⟩ (by simp [HM.abs, hlp, hlf]) ?_
  have h24 : St H H17 [.cell b16 (histA (K', m.now.2) P' F') 62, .sl P'.p P'.l P'.c 27 4 (cellsP lp), .sl F'.p F'.l F'.c 27 4 (cellsP lf), pdRs ((K', m.now.2) :: (lp ++ lf))] := by
    have := h23.perm (permC (a := [_, _, _, _]) (b := [.cell b16 (histA (K', m.now.2) P' F') 62, .sl P'.p P'.l P'.c 27 4 (cellsP lp), .sl F'.p F'.l F'.c 27 4 (cellsP lf), pdRs ([(K', m.now.2)] ++ lp ++ lf)]) fun _ y => by simp only [List.count_cons, List.count_nil]; ac_rfl)
    rw [List.append_assoc] at this
    exact this
  exact hs.call h24
def stL (k : Int) (e : Ed) (s : EdS) : List Value := .int .i64 k :: edL e s
abbrev SE := Int × Ed × EdS
theorem stL_one (k : Int) (e : Ed) (s : EdS) : ∀ v ∈ (stL k e s).toArray.toList, v.oneCell' = true := by
 have := edL_one e s
 show ∀ v ∈ stL k e s, v.oneCell' = true
 unfold stL
 simp only [List.forall_mem_cons]
 exact ⟨rfl, fun v hv => this v (by simpa using hv)⟩
structure StepsR (H : Heap) (p : Option Addr) (l : Nat) (ss : List SE) : Prop where
 len : ss.length = l
 get : ∀ (i : Nat) k e s, ss[i]? = some (k, e, s) → ∃ a, p = some a ∧ rowIn H (a.add (i * 20)) (stL k e s).toArray ∧ rdEd H e s
theorem StepsR.ext {H H' : Heap} {p : Option Addr} {l : Nat} {ss : List SE} (h : StepsR H p l ss) (he : Ext H H') : StepsR H' p l ss := ⟨h.len, fun i k e s hi => let ⟨a, h1, h2, h3⟩ := h.get i k e s hi; ⟨a, h1, rowAt_ext he h2, h3.ext he⟩⟩
def smallSs (ss : List SE) (most : Int) : Bool := (ss.all fun x => smallE x.2.1) && decide ((ss.length : Int) ≤ most)
theorem smallSs_ok {ss : List SE} {most : Int} (h : smallSs ss most = true) : (ss.length : Int) ≤ most ∧ ∀ x ∈ ss, x.2.1.shape.length ≤ 300 ∧ x.2.1.params.length ≤ 100 := by
 unfold smallSs at h
 rw [Bool.and_eq_true] at h
 refine ⟨of_decide_eq_true h.2, fun x hx => ?_⟩
 have := of_decide_eq_true (List.all_eq_true.1 h.1 x hx)
 exact ⟨this.2.1, this.2.2.1⟩
theorem steps_ok {p : Option Addr} {l : Nat} {ss : List SE} (h : StepsR H p l ss) (hok : ∀ x ∈ ss, x.2.1.shape.length ≤ 300 ∧ x.2.1.params.length ≤ 100) {i : Nat} {k : Int} {e : Ed} {s : EdS} (hx : ss[i]? = some (k, e, s)) : ∃ a, p = some a ∧ rowIn H (a.add (i * 20)) (stL k e s).toArray ∧ EdOk H e s := by
 obtain ⟨a, h1, h2, h3⟩ := h.get i k e s hx
 have := hok _ (List.mem_of_getElem? hx)
 exact ⟨a, h1, h2, h3, by have := this.1; simp only at this; omega, by have := this.2; simp only at this; omega⟩
theorem st_row {b : Nat} {k : Int} {e : Ed} {s : EdS} {ty : TypeId} (hb : H[b]? = some (.cells (stL k e s).toArray ty)) : rowIn H ⟨b, 1, none⟩ (edL e s).toArray :=
 rowIn_block hb fun j v hv => by
  rw [Nat.add_comm, ← hv]
  simp [stL]
theorem c16 {p : Option Addr} {l c : Nat} {ss : List SE} {most : Int} (h : StepsR H p l ss) (hl : ss.length ≤ 9223372036854775807) (hR : ∀ H', Ext H H' → R (.bool (smallSs ss most)) H') : CallsH Try.prog 16 #[.slice p l c, .int .i64 most] H R := by
 refine Try.s16 ?_
 unfold Try.S16
 have hlen := h.len
 intro X hX
 have go : ∀ k, k ≤ ss.length → ∀ H1, Ext H H1 → (ss.take k).all (fun x => smallE x.2.1) = true → X [.int .i64 (k : Nat)] H1 := by
  refine upto fun k hk ih H1 he hall => hX _ _ (br_dec (fun hlt => ?_) fun hge => ?_)
  ·have hk' : k < ss.length := by omega
   have hx := List.getElem?_eq_getElem hk'
   generalize hxe : ss[k] = x at hx
   obtain ⟨q, e, s⟩ := x
   obtain ⟨a, hp, hrow, hrd⟩ := (h.ext he).get k q e s hx
   refine ⟨a, hp, by omega, hlt, _, rfl, hrow, (St.of_ext he).alc fun b8 H9 hs9 => ⟨rfl, hs9.putAll 0 rfl rfl (stL_one q e s) fun H10 hs10 => ⟨_, rfl, st_row (hs10.block 0 rfl), rfl, by decide, ?_⟩⟩⟩
   rw [elemE]
   have hrd0 : rdEd H e s := (h.get k q e s hx).choose_spec.2.2
   refine hs10.alc fun b12 H13 hs13 => c7 (one_eds (hs13.block 0 rfl) (hrd0.ext hs13.ext)) (by decide) fun H15 he15 => ⟨_, rfl, ?_⟩
   have hsm : smallB [(e, s)] 1 = smallE e := by simp [smallB]
   rw [hsm]
   refine br_not (fun hf => ?_) fun ht => ?_
   ·have := hR H15 (hs13.step he15).ext
    rw [show smallSs ss most = false from by
     unfold smallSs
     rw [show (ss.all fun x => smallE x.2.1) = false from Bool.eq_false_iff.2 fun hh => by
      have := List.all_eq_true.1 hh _ (List.mem_of_getElem? hx)
      rw [hf] at this; cases this]
     rfl] at this
    exact this
   ·rw [wrap_id (by omega) (by omega)]
    refine ih hk' H15 (hs13.step he15).ext ?_
    rw [List.take_add_one, hx, List.all_append, hall]
    simp [ht]
  ·have hkl : k = ss.length := by omega
   subst hkl
   rw [List.take_of_length_le (Nat.le_refl _)] at hall
   have := hR H1 he
   rw [show smallSs ss most = decide ((l : Int) ≤ most) from by unfold smallSs; rw [hall, Bool.true_and, hlen]] at this
   exact this
 exact go 0 (Nat.zero_le _) H (Ext.refl H) rfl
theorem c17 {b n : Nat} {h : HL} {k : Int} {e : Ed} {s : EdS} (hs : St H0 H (histRs b h :: σ)) (hk : HOk n h) (hn : n ≤ 1000000) (hed : EdOk H e s) (hR : ∀ H', St H0 H' (histRs b (stepH h k e).2 :: σ) → R (.int .i64 (stepH h k e).1) H') :
    CallsH Try.prog 17 #[.pointer (some ⟨b, 0, none⟩), .agg (stL k e s).toArray] H R := by
  refine Try.s17 ?_
  unfold Try.S17
  refine hs.alcE fun b3 H4 he4 hs4 => ⟨k, hs4.get 0 rfl (j := 0) rfl, br_eq (fun h0 => ⟨_, rfl, st_row (hs4.block 0 rfl), ?_⟩) fun h0 => br_eq (fun h1 => ?_) fun h1 => br_eq (fun h2 => ?_) fun h2 => ?_⟩
  · have e1 : stepH h k e = doH h e := by unfold stepH; rw [if_pos h0]
    rw [e1] at hR
    exact c10 hs4.swap hk hn ⟨hed.rd.ext he4, hed.shape, hed.params⟩ fun H8 hs8 => ⟨_, rfl, hR H8 (hs8.del 1)⟩
  · have e1 : stepH h k e = undoH h := by unfold stepH; rw [if_neg h0, if_pos h1]
    rw [e1] at hR
    exact c12 hs4.swap hk hn fun H8 hs8 => ⟨_, rfl, hR H8 (hs8.del 1)⟩
  · have e1 : stepH h k e = redoH h := by unfold stepH; rw [if_neg h0, if_neg h1, if_pos h2]
    rw [e1] at hR
    exact c14 hs4.swap hk hn fun H8 hs8 => ⟨_, rfl, hR H8 (hs8.del 1)⟩
  · have e1 : stepH h k e = (0, h) := by unfold stepH; rw [if_neg h0, if_neg h1, if_neg h2]
    rw [e1] at hR
    exact hR H4 hs4.tail
def hnE : Ed := ed0 1 0 0 (-1) 1 0 0 0 0 0
def hn0 : DocL := ⟨2, 2, 1, []⟩
def hn1 : DocL := (doD hn0 hnE).2
def hn2 : DocL := (doD hn1 hnE).2
theorem hn_ok : (doD hn0 hnE).1 = 0 ∧ (doD hn1 hnE).1 = 0 ∧ cntKs hn2.ks = 2 := by decide +kernel
theorem doH_ok {d : DocL} {p f : List DocL} {e : Ed} (h : (doD d e).1 = 0) : doH ⟨d, p, f⟩ e = (0, ⟨(doD d e).2, p ++ [d], []⟩) := by unfold doH; rw [if_pos h]
theorem c6 (hR : ∀ H', Ext H H' → R (.bool true) H') : CallsH Try.prog 6 #[] H R := by
 obtain ⟨x1, x2, x3⟩ := hn_ok
 have k0 : HOk 0 ⟨hn0, [], []⟩ := HOk.start (by decide)
 have e1 : doH ⟨hn0, [], []⟩ hnE = (0, ⟨hn1, [hn0], []⟩) := doH_ok x1
 have e2 : doH ⟨hn1, [hn0], []⟩ hnE = (0, ⟨hn2, [hn0, hn1], []⟩) := doH_ok x2
 have e3 : undoH ⟨hn2, [hn0, hn1], []⟩ = (0, ⟨hn1, [hn0], [hn2]⟩) := rfl
 have e4 : doH ⟨hn1, [hn0], [hn2]⟩ hnE = (0, ⟨hn2, [hn0, hn1], []⟩) := doH_ok x2
 have e5 : redoH ⟨hn2, [hn0, hn1], []⟩ = (44, ⟨hn2, [hn0, hn1], []⟩) := rfl
 have k1 := k0.doH hnE; rw [e1] at k1
 have k2 := k1.doH hnE; rw [e2] at k2
 have k3 := k2.undoH; rw [e3] at k3
 have k4 := k3.doH hnE; rw [e4] at k4
 have ok : ∀ {H' : Heap}, EdOk H' hnE es0 := fun {H'} => ed0_ok H' ..
 refine Try.s6 (_u := ()) ?_
 unfold Try.S6
 refine c8 (fun _ H2 he2 => ⟨_, _, rfl, ?_⟩) fun h => absurd h (by decide)
 refine (St.of_ext he2).alc fun b5 H6 hs6 => ⟨rfl, hs6.putAll 0 rfl rfl (docA_one 2 2 1 .nil) fun H7 hs7 => ⟨_, rfl, rowIn_whole (hs7.block 0 rfl), ?_⟩⟩
 refine c9 (D := hn0) hs7 (DocR.new H7 2 2) (new_inv (by decide)) fun hb H10 hs10 => ⟨_, rfl, br_f rfl ?_⟩
 refine hs10.alc fun b12 H13 hs13 => ⟨rfl, hs13.putAll 0 rfl rfl (edL_one hnE es0) fun H14 hs14 => ⟨_, rfl, rowIn_whole (hs14.block 0 rfl), _, rfl, rowIn_whole (hs14.block 0 rfl), _, rfl, rowIn_whole (hs14.block 0 rfl), ?_⟩⟩
 refine c10 (e := hnE) (s := es0) (hs14.front 1 rfl) k0 (by decide) ok fun H19 hs19 => ⟨_, rfl, .inr ⟨⟨_, rfl, rowIn_whole (hs19.block 1 rfl), rfl⟩, _, rfl, rowIn_whole (hs19.block 1 rfl), rfl⟩, ?_⟩
 rw [e1] at hs19 ⊢
 refine c10 (e := hnE) (s := es0) hs19 k1 (by decide) ok fun H22 hs22 => ⟨_, rfl, .inr ⟨_, rfl, rowIn_whole (hs22.block 1 rfl), rfl⟩, ?_⟩
 rw [e2] at hs22 ⊢
 refine c12 hs22 k2 (by decide) fun H25 hs25 => ⟨_, rfl, .inr ⟨_, rfl, rowIn_whole (hs25.block 1 rfl), rfl⟩, ?_⟩
 rw [e3] at hs25 ⊢
 refine c10 (e := hnE) (s := es0) hs25 k3 (by decide) ok fun H28 hs28 => ⟨_, rfl, ?_⟩
 rw [e4] at hs28 ⊢
 refine c15 hs28 k4 (by decide) fun K' P' F' H31 hP hF hs31 => ⟨_, rfl, ?_⟩
 refine hs31.alc fun b33 H34 hs34 => ⟨rfl, hs34.putAll 0 rfl rfl (histA_one _ _ _) fun H35 hs35 => br_t rfl (br_t rfl (br_t rfl (br_t rfl ⟨P'.p, P'.l, P'.c, hs35.get 0 rfl (j := 4) rfl, br_t (by rw [hP]; rfl) ⟨F'.p, F'.l, F'.c, hs35.get 0 rfl (j := 5) rfl, br_t (by rw [hF]; rfl) ⟨_, arrP_size (K', hn2), hist_row (hs35.block 0 rfl), ?_⟩⟩⟩)))⟩
 refine c19 (D := hn2) (hs35.doc 1 rfl) (by rw [x3]; decide) fun H40 he40 => ⟨_, rfl, ?_⟩
 rw [x3]
 refine br_t rfl ?_
 refine c14 ((hs35.step he40).front 4 rfl) k4 (by decide) fun H43 hs43 => ⟨_, rfl, ?_⟩
 rw [e5]
 exact hR H43 hs43.ext
end Go.Proofs
namespace Go.Proofs
open Go.Sh
variable {H0 H : Heap} {σ : List Rs} {R : Value → Heap → Prop}
theorem HOk.at {n : Nat} {all : List DocL} (h : ∀ d ∈ all, Inv d ∧ d.next ≤ n + 1) (hl : all.length ≤ n + 1) {k : Nat} (hk : k < all.length) : HOk n (atH all k) := by
 obtain ⟨h1, h2⟩ := at_len all k hk
 refine ⟨fun d hd => h d ?_, by omega⟩
 unfold atH at hd
 simp only at hd
 rcases hd with rfl | hd | hd
 ·rw [List.getD_eq_getElem?_getD, List.getElem?_eq_getElem hk]; exact List.getElem_mem hk
 ·exact List.mem_of_mem_take hd
 ·exact List.mem_of_mem_drop (List.mem_reverse.1 hd)
theorem HOk.all {n : Nat} {all : List DocL} {k : Nat} (hk : k < all.length) (h : HOk n (atH all k)) : ∀ d ∈ all, Inv d ∧ d.next ≤ n + 1 := fun d hd => by
 obtain ⟨a, x, b, rfl, rfl⟩ := at_split all hk
 rw [at_app] at h
 refine h.inv d ?_
 simp only [List.mem_append, List.mem_cons, List.mem_reverse] at hd ⊢
 rcases hd with h | h | h <;> simp [h]
end Go.Proofs
namespace Go.Proofs
open Go.Sh
variable {H0 H : Heap} {σ : List Rs} {R : Value → Heap → Prop}
end Go.Proofs
namespace Go.Proofs
open Go.Sh
variable {H0 H : Heap} {σ : List Rs} {R : Value → Heap → Prop}
theorem restore_st {n : Nat} {h : HL} {K P F : Sl3} (hs : St H0 H σ) (i : Nat) (h0 : σ[i]? = some (docRs (arrP (K, h.now)) h.now)) (h1 : σ[i + 1]? = some (docsRs P h.past)) (h2 : σ[i + 2]? = some (docsRs F h.fut)) (hk : HOk n h) (hn : n ≤ 1000000)
    (hR : ∀ b H', St H0 H' (histRs b h :: σ) → R (.pointer (some ⟨b, 0, none⟩)) H') : CallsH Try.prog 18 #[.agg (histA (K, h.now) P F)] H R := by
  obtain ⟨lp, hlp, hp⟩ := hs.docs (i + 1) h1
  obtain ⟨lf, hlf, hf⟩ := hs.docs (i + 2) h2
  have habs : (HM.mk (K, h.now) P F lp lf).abs = h := by simp [HM.abs, hlp, hlf]
  refine c18 (m := ⟨(K, h.now), P, F, lp, lf⟩) hs (hs.doc i h0) hp hf (by rw [habs]; exact hk) hn fun b H' hs' => hR b H' ?_
  rw [habs] at hs'; exact hs'
theorem restores_law {p q : Option Addr} {l c m d : Nat} {ss ts : List SE} (hss : StepsR H p l ss) (hts : StepsR H q m ts) (hl : ss.length ≤ 9223372036854775807) (hm : ts.length ≤ 9223372036854775807) (hR : ∀ H', Ext H H' → R (.bool true) H') : CallsH Try.prog 5 #[.slice p l c, .slice q m d] H R := by
 refine Try.s5 ?_
 unfold Try.S5
 refine c6 fun H4 he4 => ⟨_, rfl, br_f rfl ?_⟩
 intro J6 hJ6
 refine c16 (hss.ext he4) hl fun H80 he80 => ⟨_, rfl, br_not (fun _ => hR _ (he4.trans he80)) fun hsm => ?_⟩
 refine c16 (hts.ext (he4.trans he80)) hm fun H83 he83 => ⟨_, rfl, br_not (fun _ => hR _ ((he4.trans he80).trans he83)) fun hsm2 => hJ6 _ ?_⟩
 have he := (he4.trans he80).trans he83
 obtain ⟨hmost, hok⟩ := smallSs_ok hsm
 obtain ⟨hmost2, hok2⟩ := smallSs_ok hsm2
 have hssl := hss.len
 have htsl := hts.len
 refine c8 (fun hsz H9 he9 => ⟨_, _, rfl, ?_⟩) fun h => absurd h (by decide)
 refine (St.of_ext (he.trans he9)).alc fun b12 H13 hs13 => ⟨rfl, hs13.putAll 0 rfl rfl (docA_one 5 5 1 .nil) fun H14 hs14 => ⟨_, rfl, rowIn_whole (hs14.block 0 rfl), ?_⟩⟩
 refine c9 (D := ⟨5, 5, 1, []⟩) hs14 (DocR.new H14 5 5) (new_inv hsz) fun hb H17 hs17 => ⟨_, rfl, br_f rfl ?_⟩
 intro X19 hX19
 have go : ∀ i, i ≤ ss.length → ∀ (h : HL) (H1 : Heap), HOk i h → St H H1 [histRs hb h] → X19 [.int .i64 (i : Nat)] H1 := by
  refine upto fun i hi ih h H1 hk hs1 => hX19 _ _ (br_dec (fun hlt => ?_) fun hge => ?_)
  ·have hi' : i < ss.length := by omega
   have hx := List.getElem?_eq_getElem hi'
   generalize ss[i] = x at hx
   obtain ⟨k, e, s⟩ := x
   obtain ⟨a, hp, hrow, hed⟩ := steps_ok (hss.ext hs1.ext) hok hx
   have hedH : ∀ {H' : Heap}, Ext H H' → EdOk H' e s := fun he => let ⟨_, _, _, h3⟩ := steps_ok (hss.ext he) hok hx; h3
   refine ⟨a, hp, by omega, hlt, _, rfl, hrow, hs1.alc fun b24 H25 hs25 => ⟨rfl, hs25.putAll 0 rfl rfl (stL_one k e s) fun H26 hs26 => ⟨_, rfl, rowIn_whole (hs26.block 0 rfl), ?_⟩⟩⟩
   refine c17 hs26.tail hk (by omega) (hedH hs26.ext) fun H29 hs29 => ⟨_, rfl, ?_⟩
   rw [wrap_id (by omega) (by omega)]
   exact ih hi' _ H29 (hk.stepH k e) hs29
  ·have hin : i = ss.length := by omega
   refine c15 hs1 hk (by omega) fun K' P' F' H32 hP' hF' hs32 => ⟨_, rfl, ?_⟩
   refine restore_st hs32 0 rfl rfl rfl hk (by omega) fun yb H35 hs35 => ⟨_, rfl, br_f rfl ?_⟩
   have h35 : St H H35 [histRs yb h, histRs hb h] := ((hs35.del 1).del 1).del 1
   intro X37 hX37
   have go2 : ∀ j, j ≤ ts.length → ∀ (h : HL) (H1 : Heap), HOk (i + j) h → St H H1 [histRs yb h, histRs hb h] → X37 [.int .i64 (j : Nat)] H1 := by
    refine upto fun j hj ihj h H1 hk hs1 => hX37 _ _ (br_dec (fun hlt => ?_) fun hge => ?_)
    ·have hj' : j < ts.length := by omega
     have hx := List.getElem?_eq_getElem hj'
     generalize ts[j] = x at hx
     obtain ⟨k, e, s⟩ := x
     obtain ⟨a, hp, hrow, hed⟩ := steps_ok (hts.ext hs1.ext) hok2 hx
     have hedH : ∀ {H' : Heap}, Ext H H' → EdOk H' e s := fun he => let ⟨_, _, _, h3⟩ := steps_ok (hts.ext he) hok2 hx; h3
     refine ⟨a, hp, by omega, hlt, _, rfl, hrow, hs1.alc fun b42 H43 hs43 => ⟨rfl, hs43.putAll 0 rfl rfl (stL_one k e s) fun H44 hs44 => ⟨_, rfl, rowIn_whole (hs44.block 0 rfl), _, rfl, rowIn_whole (hs44.block 0 rfl), ?_⟩⟩⟩
     refine c17 (hs44.front 2 rfl) hk (by omega) (hedH hs44.ext) fun H48 hs48 => ⟨_, rfl, .inr ⟨_, rfl, rowIn_whole (hs48.block 1 rfl), rfl⟩, ?_⟩
     refine c17 (hs48.front 2 rfl) hk (by omega) (hedH hs48.ext) fun H51 hs51 => ⟨_, rfl, br_ne (fun h => absurd rfl h) fun _ => ?_⟩
     have hk1 := hk.stepH k e
     have h51 : St H H51 [histRs hb (stepH h k e).2, histRs yb (stepH h k e).2] := (hs51.del 2).swap
     refine c11 h51 hk1 fun A' H54 hd' hs54 => ⟨_, rfl, ?_⟩
     refine c11 (hs54.front 2 rfl) hk1 fun B' H57 hdb hs57 => ⟨_, rfl, ?_⟩
     have hiD := hk1.now.1
     have hcD := hiD.cnt
     refine c13 (hs57.doc 2 rfl) hdb hiD.ok (by omega) fun H60 he60 => ⟨_, rfl, ?_⟩
     rw [sameD_iff.2 rfl]
     refine br_f rfl ?_
     rw [wrap_id (by omega) (by omega)]
     exact ihj hj' _ H60 hk1 (((hs57.step he60).del 2).del 0)
    ·refine c15 hs1.swap hk (by omega) fun K1 P1 F1 H64 hP1 hF1 hs64 => ⟨_, rfl, ?_⟩
     refine c15 (hs64.front 4 rfl) hk (by omega) fun K2 P2 F2 H67 hP2 hF2 hs67 => ⟨_, rfl, ?_⟩
     refine hs67.alc fun b69 H70 hs70 => hs70.alc fun b71 H72 hs72 => ⟨rfl, hs72.putAll 1 rfl rfl (histA_one _ _ _) fun H73 hs73 => ⟨rfl, hs73.putAll 0 rfl rfl (histA_one _ _ _) fun H74 hs74 => ⟨P1.p, P1.l, P1.c, hs74.get 1 rfl (j := 4) rfl, P2.p, P2.l, P2.c, hs74.get 0 rfl (j := 4) rfl, br_t (by rw [hP1, hP2]; simp) ⟨F1.p, F1.l, F1.c, hs74.get 1 rfl (j := 5) rfl, F2.p, F2.l, F2.c, hs74.get 0 rfl (j := 5) rfl, ?_⟩⟩⟩⟩
     rw [hF1, hF2]
     have := hR H74 hs74.ext
     rw [show ((h.fut.length : Nat) : Int) == ((h.fut.length : Nat) : Int) from beq_self_eq_true _]
     exact this
   exact go2 0 (Nat.zero_le _) h H35 hk h35
 exact go 0 (Nat.zero_le _) ⟨⟨5, 5, 1, []⟩, [], []⟩ H17 (HOk.start hsz) (hs17.del 1)
end Go.Proofs
namespace Go.Proofs
open Go.Sh Go.RowKit Go.ChangeShapes Go.WideShapes Go.ChangeAt
end Go.Proofs
namespace Go.Proofs
open Go.Sh Go.RowKit Go.ChangeShapes Go.WideShapes Go.ChangeAt Go.Deep
section
variable {H : Type} {enc : TypeId × Value → H} {W : World}
abbrev TrP (enc : TypeId × Value → H) (W : World) (fuel : Nat) (t : TypeId) (cs : List Value) (x : DataW H × List MemPlace) : Prop := DataW.trod enc Try.prog W 0 (fun _ => true) true fuel t cs = some x
theorem intsAt {fuel : Nat} {a0 : Option Addr} {len cap : Nat} {x : DataW H × List MemPlace} (hf : TrP enc W fuel 34 [.slice a0 len cap] x) : ∃ ls, len ≤ cap ∧ IS W.heap a0 len (ints ls) := by
 rcases open_ints Try.underlying34 Try.underlying3 (by kernel_rfl) hf with ⟨hcs, _⟩ | ⟨a, len2, cap2, zs, hcs, _, hl, _, hz, _, hc, hw⟩
 ·simp at hcs
  obtain ⟨rfl, rfl, rfl⟩ := hcs
  exact ⟨[], Nat.le_refl _, ⟨rfl, fun i v hv => by simp [ints] at hv⟩⟩
 ·simp at hcs
  obtain ⟨rfl, rfl, rfl⟩ := hcs
  have hzl : len ≤ zs.length := by rw [hz]; simp; omega
  refine ⟨zs.take len, hl, ⟨by rw [ints_len]; simp; omega, fun i v hv => ⟨a, rfl, ?_⟩⟩⟩
  have hi : i < len := by have := (List.getElem?_eq_some_iff.1 hv).1; rw [ints_len] at this; simp at this; omega
  have := hc i (by omega)
  rw [cell_eq] at this
  rw [this]
  have hg : (zs.take len)[i]? = some (zs.getD i 0) := by
   rw [List.getElem?_take_of_lt hi, List.getD_eq_getElem?_getD, List.getElem?_eq_getElem (by omega)]; rfl
  rw [ints_get hg] at hv
  exact hv
theorem fieldAt {t : TypeId} {fs : Array Field} {fuel : Nat} {cs : List Value} {x : DataW H × List MemPlace} (hs : Try.prog.underlying t = some (.struct fs)) (h : TrP enc W fuel t cs x) (i : Nat) {f : Field} {o ty c : Nat} (hf : fs[i]? = some f) (ho : f.offset = o) (ht : f.type = ty) (hc : Try.prog.cellsOf ty = c) :
    ∃ n y, n < fuel ∧ TrP enc W n ty ((cs.drop o).take c) y := by
  obtain ⟨xs, n, hfu, _, hl, hlen, hg⟩ := DataW.trod_struct hs h
  have := hg i f hf
  have hi := (Array.getElem?_eq_some_iff.1 hf).1
  rw [List.getElem?_eq_getElem (by omega), ho, ht, hc] at this
  exact ⟨n, _, by omega, this⟩
theorem one_get {cs : List Value} {o : Nat} {v : Value} (h : (cs.drop o).take 1 = [v]) : cs[o]? = some v := by
 have h4 : ((cs.drop o).take 1)[0]? = some v := by rw [h]; rfl
 rw [List.getElem?_take_of_lt (by omega), List.getElem?_drop] at h4
 simpa using h4
theorem intF {n : Nat} {cs : List Value} {o : Nat} {y : DataW H × List MemPlace} (h : TrP enc W n 3 ((cs.drop o).take 1) y) : ∃ m : Int, cs[o]? = some (.int .i64 m) := by
 obtain ⟨m, hm, _, _⟩ := DataW.trod_int Try.underlying3 h
 exact ⟨m, one_get hm⟩
theorem slF {t e n : Nat} {cs : List Value} {o : Nat} {y : DataW H × List MemPlace} (ht : Try.prog.underlying t = some (.slice e)) (h : TrP enc W n t ((cs.drop o).take 1) y) : ∃ s : Sl3, cs[o]? = some s.v ∧ TrP enc W n t [s.v] y := by
 rcases DataW.trod_slice ht h with ⟨h0, _⟩ | ⟨a, len, cap, elems, rest, m, _, h0, _⟩
 ·rw [h0] at h; exact ⟨.nil, one_get h0, h⟩
 ·rw [h0] at h; exact ⟨⟨some a, len, cap⟩, one_get h0, h⟩
theorem list19 {α : Type} {l : List α} (h : l.length = 19) : ∃ a b c d e f g i j k m n o p q r s t u, l = [a, b, c, d, e, f, g, i, j, k, m, n, o, p, q, r, s, t, u] := by
 match l, h with
 | [a, b, c, d, e, f, g, i, j, k, m, n, o, p, q, r, s, t, u], _ => exact ⟨a, b, c, d, e, f, g, i, j, k, m, n, o, p, q, r, s, t, u, rfl⟩
theorem sixF {t n : Nat} {cs : List Value} {o : Nat} {y : DataW H × List MemPlace} (ht : Try.prog.underlying t = some (.array 6 3)) (h : TrP enc W n t ((cs.drop o).take 6) y) :
    ∃ m : M6, cs[o]? = some (.int .i64 m.a) ∧ cs[o + 1]? = some (.int .i64 m.b) ∧ cs[o + 2]? = some (.int .i64 m.c) ∧ cs[o + 3]? = some (.int .i64 m.d) ∧ cs[o + 4]? = some (.int .i64 m.e) ∧ cs[o + 5]? = some (.int .i64 m.f) := by
  obtain ⟨xs, m, _, _, hl, hlen, hg⟩ := DataW.trod_array ht h
  have hc : Try.prog.cellsOf 3 = 1 := by kernel_rfl
  have each : ∀ i, i < 6 → ∃ z : Int, cs[o + i]? = some (.int .i64 z) := fun i hi => by
    have := hg i hi
    rw [hc, Nat.mul_one, List.getElem?_eq_getElem (by omega)] at this
    obtain ⟨z, hz⟩ := intF this
    rw [List.getElem?_take_of_lt hi, List.getElem?_drop] at hz
    exact ⟨z, hz⟩
  obtain ⟨a, ha⟩ := each 0 (by omega)
  obtain ⟨b, hb⟩ := each 1 (by omega)
  obtain ⟨c, hc⟩ := each 2 (by omega)
  obtain ⟨d, hd⟩ := each 3 (by omega)
  obtain ⟨e, he⟩ := each 4 (by omega)
  obtain ⟨f, hf⟩ := each 5 (by omega)
  exact ⟨⟨a, b, c, d, e, f⟩, ha, hb, hc, hd, he, hf⟩
theorem ptAt {n : Nat} {cs : List Value} {y : DataW H × List MemPlace} (h : TrP enc W n 120 cs y) : ∃ p : Pt, cs = [.int .i64 p.1, .int .i64 p.2] := by
 obtain ⟨_, _, _, h0⟩ := fieldAt (o := 0) (ty := 3) (c := 1) Try.underlying120 h 0 rfl rfl rfl (by kernel_rfl)
 obtain ⟨_, _, _, h1⟩ := fieldAt (o := 1) (ty := 3) (c := 1) Try.underlying120 h 1 rfl rfl rfl (by kernel_rfl)
 obtain ⟨x, hx⟩ := intF h0
 obtain ⟨y, hy⟩ := intF h1
 obtain ⟨xs, m, _, _, hl, _⟩ := DataW.trod_struct Try.underlying120 h
 have hl2 : cs.length = 2 := by rw [hl]; kernel_rfl
 match cs, hl2 with
 | [a, b], _ =>
  simp only [List.getElem?_cons_zero, List.getElem?_cons_succ, Option.some.injEq] at hx hy
  subst hx; subst hy
  exact ⟨(x, y), rfl⟩
theorem choose_list {α : Type} {P : Nat → α → Prop} {n : Nat} [Inhabited α] (h : ∀ i, i < n → ∃ x, P i x) : ∃ l : List α, l.length = n ∧ ∀ i x, l[i]? = some x → P i x := by
 obtain ⟨f, hf⟩ : ∃ f : Nat → α, ∀ i, i < n → P i (f i) := by
  have : ∀ i, ∃ x, i < n → P i x := fun i => by
   by_cases hi : i < n
   ·obtain ⟨x, hx⟩ := h i hi; exact ⟨x, fun _ => hx⟩
   ·exact ⟨default, fun h => absurd h hi⟩
  exact Classical.axiomOfChoice this
 refine ⟨(List.range n).map f, by simp, fun i x hx => ?_⟩
 have hi : i < n := by have := (List.getElem?_eq_some_iff.1 hx).1; simpa using this
 simp [hi] at hx
 subst hx
 exact hf i hi
theorem ptsAt {fuel : Nat} {s : Sl3} {x : DataW H × List MemPlace} (hf : TrP enc W fuel 35 [s.v] x) : ∃ pts : List Pt, s.l ≤ s.c ∧ IS2 W.heap s.p s.l pts := by
 rcases open_slice Try.underlying35 hf with ⟨hcs, _⟩ | ⟨a, len', cap', m, n, D, Pl, hcs, _, hl, hm, hmm, _, hx⟩
 ·obtain ⟨p, l, c⟩ := s
  simp only [Sl3.v, List.cons.injEq, Value.slice.injEq, and_true] at hcs
  obtain ⟨rfl, rfl, rfl⟩ := hcs
  exact ⟨[], Nat.le_refl _, IS2.nil _⟩
 ·obtain ⟨p, l, c⟩ := s
  simp only [Sl3.v, List.cons.injEq, Value.slice.injEq, and_true] at hcs
  obtain ⟨rfl, rfl, rfl⟩ := hcs
  have hml : l ≤ m := by rw [hmm]; simp; omega
  obtain ⟨pts, hlen, hpts⟩ := choose_list (P := fun i (p : Pt) => rowIn W.heap (a.add (i * 2)) #[.int .i64 p.1, .int .i64 p.2]) (n := l) fun i hi => by
   obtain ⟨cs, h1, h2⟩ := hx i (by omega)
   rw [show Try.prog.cellsOf 120 = 2 from by kernel_rfl] at h1
   obtain ⟨p, rfl⟩ := ptAt h2
   obtain ⟨_, _, hc⟩ := World.cells?_some h1
   refine ⟨p, fun j v hv => ?_⟩
   have hj : j < 2 := (Array.getElem?_eq_some_iff.1 hv).1
   have := hc j hj
   rw [cell_eq] at this
   rw [this]
   simpa using hv
  exact ⟨pts, hl, hlen, fun i x y hi => ⟨a, rfl, hpts i (x, y) hi⟩⟩
theorem edAt {fuel : Nat} {cs : List Value} {x : DataW H × List MemPlace} (h : TrP enc W fuel 39 cs x) : ∃ e s, cs = edL e s ∧ rdEd W.heap e s := by
 have hu := Try.underlying39
 obtain ⟨_, _, _, h0⟩ := fieldAt (o := 0) (ty := 3) (c := 1) hu h 0 rfl rfl rfl (by kernel_rfl)
 obtain ⟨_, _, _, h1⟩ := fieldAt (o := 1) (ty := 3) (c := 1) hu h 1 rfl rfl rfl (by kernel_rfl)
 obtain ⟨_, _, _, h2⟩ := fieldAt (o := 2) (ty := 3) (c := 1) hu h 2 rfl rfl rfl (by kernel_rfl)
 obtain ⟨_, _, _, h3⟩ := fieldAt (o := 3) (ty := 3) (c := 1) hu h 3 rfl rfl rfl (by kernel_rfl)
 obtain ⟨_, _, _, h4⟩ := fieldAt (o := 4) (ty := 3) (c := 1) hu h 4 rfl rfl rfl (by kernel_rfl)
 obtain ⟨_, _, _, h5⟩ := fieldAt (o := 5) (ty := 3) (c := 1) hu h 5 rfl rfl rfl (by kernel_rfl)
 obtain ⟨_, _, _, h6⟩ := fieldAt (o := 6) (ty := 3) (c := 1) hu h 6 rfl rfl rfl (by kernel_rfl)
 obtain ⟨_, _, _, h7⟩ := fieldAt (o := 7) (ty := 3) (c := 1) hu h 7 rfl rfl rfl (by kernel_rfl)
 obtain ⟨_, _, _, h8⟩ := fieldAt (o := 8) (ty := 3) (c := 1) hu h 8 rfl rfl rfl (by kernel_rfl)
 obtain ⟨_, _, _, h9⟩ := fieldAt (o := 9) (ty := 3) (c := 1) hu h 9 rfl rfl rfl (by kernel_rfl)
 obtain ⟨_, _, _, h10⟩ := fieldAt (o := 10) (ty := 34) (c := 1) hu h 10 rfl rfl rfl (by kernel_rfl)
 obtain ⟨_, _, _, h11⟩ := fieldAt (o := 11) (ty := 35) (c := 1) hu h 11 rfl rfl rfl (by kernel_rfl)
 obtain ⟨_, _, _, h12⟩ := fieldAt (o := 12) (ty := 37) (c := 6) hu h 12 rfl rfl rfl (by kernel_rfl)
 obtain ⟨_, _, _, h13⟩ := fieldAt (o := 18) (ty := 34) (c := 1) hu h 13 rfl rfl rfl (by kernel_rfl)
 obtain ⟨v0, g0⟩ := intF h0
 obtain ⟨v1, g1⟩ := intF h1
 obtain ⟨v2, g2⟩ := intF h2
 obtain ⟨v3, g3⟩ := intF h3
 obtain ⟨v4, g4⟩ := intF h4
 obtain ⟨v5, g5⟩ := intF h5
 obtain ⟨v6, g6⟩ := intF h6
 obtain ⟨v7, g7⟩ := intF h7
 obtain ⟨v8, g8⟩ := intF h8
 obtain ⟨v9, g9⟩ := intF h9
 obtain ⟨P, g10, t10⟩ := slF Try.underlying34 h10
 obtain ⟨S, g11, t11⟩ := slF Try.underlying35 h11
 obtain ⟨m, ga, gb, gc, gd, ge, gf⟩ := sixF Try.underlying37 h12
 obtain ⟨A, g18, t18⟩ := slF Try.underlying34 h13
 obtain ⟨ps, _, hps⟩ := intsAt t10
 obtain ⟨pts, _, hpts⟩ := ptsAt t11
 obtain ⟨qs, _, hqs⟩ := intsAt t18
 obtain ⟨xs, k, _, _, hl, _⟩ := DataW.trod_struct hu h
 have hl2 : cs.length = 19 := by rw [hl]; kernel_rfl
 refine ⟨⟨v0, v1, v2, v3, v4, v5, v6, v7, v8, v9, ps, pts, m, qs⟩, ⟨P, S, A⟩, ?_, ⟨hps, hpts, hqs⟩⟩
 obtain ⟨a, b, c, d, e, f, g, i, j, k, m', n, o, p, q, r, s, t, u, rfl⟩ := list19 hl2
 simp only [List.getElem?_cons_zero, List.getElem?_cons_succ, Option.some.injEq] at g0 g1 g2 g3 g4 g5 g6 g7 g8 g9 g10 g11 ga gb gc gd ge gf g18
 subst g0 g1 g2 g3 g4 g5 g6 g7 g8 g9 g10 g11 ga gb gc gd ge gf g18
 rfl
instance : Inhabited (Ed × EdS) := ⟨⟨0, 0, 0, 0, 0, 0, 0, 0, 0, 0, [], [], ⟨0, 0, 0, 0, 0, 0⟩, []⟩, ⟨.nil, .nil, .nil⟩⟩
end
end Go.Proofs
namespace Go.Proofs
open Go.Sh Go.RowKit Go.ChangeShapes Go.WideShapes Go.ChangeAt Go.Deep
section
variable {H : Type} {enc : TypeId × Value → H} {W : World}
theorem okWide_cap {P : Program} {t e : TypeId} {base : Nat} {a : Option Addr} {l c : Nat} (ht : P.underlying t = some (.slice e)) (h : Value.okWide P W .any base t (.slice a l c)) : c ≤ 9223372036854775807 := by
 unfold Value.okWide at h
 rw [ht] at h
 simp only [Cell.okWide, ht] at h
 unfold Cell.ok at h
 rw [ht] at h
 cases a with
 | none =>
  split at h <;> rename_i h1 h2 <;> simp_all
 | some a =>
  have := h.2.1
  simp [IntKind.max, IntKind.signed, IntKind.bits] at this
  omega
theorem stepAt {fuel : Nat} {cs : List Value} {x : DataW H × List MemPlace} (h : TrP enc W fuel 52 cs x) : ∃ k e s, cs = stL k e s ∧ rdEd W.heap e s := by
 have hu := Try.underlying52
 obtain ⟨_, _, _, h0⟩ := fieldAt (o := 0) (ty := 3) (c := 1) hu h 0 rfl rfl rfl (by kernel_rfl)
 obtain ⟨_, _, _, h1⟩ := fieldAt (o := 1) (ty := 39) (c := 19) hu h 1 rfl rfl rfl (by kernel_rfl)
 obtain ⟨k, g0⟩ := intF h0
 obtain ⟨e, s, g1, hrd⟩ := edAt h1
 obtain ⟨xs, m, _, _, hl, _⟩ := DataW.trod_struct hu h
 have hl2 : cs.length = 20 := by rw [hl]; kernel_rfl
 refine ⟨k, e, s, ?_, hrd⟩
 cases cs with
 | nil => simp at hl2
 | cons v cs =>
  simp only [List.getElem?_cons_zero, Option.some.injEq] at g0
  subst g0
  unfold stL
  rw [← g1, List.drop_succ_cons, List.drop_zero, List.take_of_length_le (by simp at hl2; omega)]
instance : Inhabited SE := ⟨(0, default)⟩
theorem stepsIn_of {v : Value} {d : DataW H} {ps : List MemPlace} {base : Nat} (hv : Value.okWide Try.prog W .any base 49 v) (h : DataW.Trod enc Try.prog W 0 (fun _ => true) true 49 v d ps) :
    ∃ a l c ss, v = .slice a l c ∧ ss.length ≤ 9223372036854775807 ∧ StepsR W.heap a l ss := by
  obtain ⟨a0, len, cap, rfl⟩ := okWide_slice Try.underlying49 hv
  have hcap := okWide_cap Try.underlying49 hv
  obtain ⟨fuel, hf⟩ := h
  rcases open_slice Try.underlying49 hf with ⟨hcs, _⟩ | ⟨a, len', cap', m, n, D, Pl, hcs, _, hl, hm, hmm, _, hx⟩
  · simp only [Value.cells] at hcs
    simp at hcs
    obtain ⟨rfl, rfl, rfl⟩ := hcs
    exact ⟨none, 0, 0, [], rfl, by simp, rfl, fun i k e s hx => by simp at hx⟩
  · simp only [Value.cells] at hcs
    simp at hcs
    obtain ⟨rfl, rfl, rfl⟩ := hcs
    have hml : len ≤ m := by rw [hmm]; simp; omega
    obtain ⟨es, hlen, hes⟩ := choose_list (P := fun i (x : SE) => rowIn W.heap (a.add (i * 20)) (stL x.1 x.2.1 x.2.2).toArray ∧ rdEd W.heap x.2.1 x.2.2) (n := len) fun i hi => by
      obtain ⟨cs, h1, h2⟩ := hx i (by omega)
      rw [show Try.prog.cellsOf 52 = 20 from by kernel_rfl] at h1
      obtain ⟨k, e, s, rfl, hrd⟩ := stepAt h2
      obtain ⟨_, _, hc⟩ := World.cells?_some h1
      refine ⟨(k, e, s), fun j v hv => ?_, hrd⟩
      have hj : j < 20 := (Array.getElem?_eq_some_iff.1 hv).1
      have := hc j hj
      rw [cell_eq] at this
      rw [this]
      simpa using hv
    exact ⟨some a, len, cap, es, rfl, by omega, hlen, fun i k e s hi => let ⟨h1, h2⟩ := hes i (k, e, s) hi; ⟨a, rfl, h1, h2⟩⟩
end
end Go.Proofs
