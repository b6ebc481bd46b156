/-
  OWN WORK. Several texts in one: HsBack, HsBranch, HsRest, TtL, TtM, HsK, HsL, HsM, HsN, HsOwn, HsOwnL, OpBytes, OpTree, OpHist.
-/
import Derived.Test.YtgmhjfnnhfjgkaaGreatMgHistOwnF
import Derived.Test.YtgmhjfnnhfjgkaaGreatMgHistOwnE
import Derived.Test.YtgmhjfnnhfjgkaaGreatRows
import Derived.Test.YtgmhjfnnhfjgkaaGreatMgHistOwnB
import Derived.ChangeSlices
import Derived.Deep.Slices

set_option linter.unusedVariables false
set_option linter.unusedSimpArgs false
set_option maxRecDepth 10000
namespace Go.Proofs
open Go.Sh
variable {H0 H : Heap} {σ : List Rs} {R : Value → Heap → Prop}
theorem HOk.at {n : Nat} {all : List DocL} (h : ∀ d ∈ all, Inv d ∧ d.next ≤ n + 1) (hl : all.length ≤ n + 1) {k : Nat} (hk : k < all.length) : HOk n (atH all k) := by
 obtain ⟨h1, h2⟩ := at_len all k hk
 refine ⟨fun d hd => h d ?_, by omega⟩
 unfold atH at hd
 simp only at hd
 rcases hd with rfl | hd | hd
 ·rw [List.getD_eq_getElem?_getD, List.getElem?_eq_getElem hk]; exact List.getElem_mem hk
 ·exact List.mem_of_mem_take hd
 ·exact List.mem_of_mem_drop (List.mem_reverse.1 hd)
theorem HOk.all {n : Nat} {all : List DocL} {k : Nat} (hk : k < all.length) (h : HOk n (atH all k)) : ∀ d ∈ all, Inv d ∧ d.next ≤ n + 1 := fun d hd => by
 obtain ⟨a, x, b, rfl, rfl⟩ := at_split all hk
 rw [at_app] at h
 refine h.inv d ?_
 simp only [List.mem_append, List.mem_cons, List.mem_reverse] at hd ⊢
 rcases hd with h | h | h <;> simp [h]
end Go.Proofs
namespace Go.Proofs
open Go.Sh
variable {H0 H : Heap} {σ : List Rs} {R : Value → Heap → Prop}
end Go.Proofs
namespace Go.Proofs
open Go.Sh
variable {H0 H : Heap} {σ : List Rs} {R : Value → Heap → Prop}
theorem restore_st {n : Nat} {h : HL} {K P F : Sl3} (hs : St H0 H σ) (i : Nat) (h0 : σ[i]? = some (docRs (arrP (K, h.now)) h.now)) (h1 : σ[i + 1]? = some (docsRs P h.past)) (h2 : σ[i + 2]? = some (docsRs F h.fut)) (hk : HOk n h) (hn : n ≤ 1000000)
    (hR : ∀ b H', St H0 H' (histRs b h :: σ) → R (.pointer (some ⟨b, 0, none⟩)) H') : CallsH Tryz.prog 15 #[.agg (histA (K, h.now) P F)] H R := by
  obtain ⟨lp, hlp, hp⟩ := hs.docs (i + 1) h1
  obtain ⟨lf, hlf, hf⟩ := hs.docs (i + 2) h2
  have habs : (HM.mk (K, h.now) P F lp lf).abs = h := by simp [HM.abs, hlp, hlf]
  refine c15 (m := ⟨(K, h.now), P, F, lp, lf⟩) hs (hs.doc i h0) hp hf (by rw [habs]; exact hk) hn fun b H' hs' => hR b H' ?_
  rw [habs] at hs'; exact hs'
end Go.Proofs
namespace Go.Proofs
open Go.Sh
variable {H0 H : Heap} {σ : List Rs} {R : Value → Heap → Prop}
theorem kidsZ_row {g : Int} {L : List Rw} {i : Nat} {w : Int} (h : (kidsZ g L)[i]? = some w) : ∃ k : Nat, w = k ∧ k < L.length ∧ L[k]? = (ofG g L)[i]? := by
 rw [kidsZ, List.getElem?_map] at h
 cases hk : (kidsI g 0 L)[i]? with
 | none => rw [hk] at h; cases h
 | some k =>
  rw [hk] at h
  cases h
  obtain ⟨A, r, B, h1, h2, h3, h4⟩ := kidsI_at hk
  refine ⟨k, rfl, ?_, ?_⟩
  ·rw [h1, List.length_append, List.length_cons]; omega
  ·rw [h1, ofG_app, ofG_cons_eq h3, List.getElem?_append_right (by omega), List.getElem?_append_right (by omega), show k - A.length = 0 from by omega, show i - (ofG g A).length = 0 from by omega]
   rfl
theorem likeKs_take {L : List Rw} : ∀ {ts : List Lay} {k : Nat} {t : Lay}, likeKs L (ts.take k) = true → ts[k]? = some t → likeKs L (ts.take (k + 1)) = likeT L t := by
 intro ts
 induction ts with
 | nil => intro k t _ h; simp at h
 | cons a ts ih =>
  intro k t h1 h2
  cases k with
  | zero =>
   simp at h2; subst h2
   rw [List.take_succ_cons, List.take_zero, likeKs, likeKs, Bool.and_true]
  | succ k =>
   rw [List.getElem?_cons_succ] at h2
   rw [List.take_succ_cons, likeKs, Bool.and_eq_true] at h1
   rw [List.take_succ_cons, likeKs, h1.1, Bool.true_and]
   exact ih h1.2 h2
theorem likeKs_false {L : List Rw} {ts : List Lay} {t : Lay} (ht : t ∈ ts) (h : likeT L t = false) : likeKs L ts = false := by
 induction ts with
 | nil => cases ht
 | cons a ts ih =>
  rw [likeKs]
  rcases List.mem_cons.1 ht with rfl | ht
  ·rw [h, Bool.false_and]
  ·rw [ih ht, Bool.and_false]
def LikeOk (rs : List RT) (w h next : Int) (Kd : Sl3) (t : T) : Prop := ∀ {H : Heap} {R : Value → Heap → Prop}, rdT H t → gKs okM (layKs t.kids) → RD H Kd rs → (∀ H', Ext H H' → R (.bool (likeG (rwS rs) t.f.id (layKs t.kids))) H') →
 CallsH Tryz.prog 29 #[t.K.v, .agg (docA w h next Kd), .int .i64 t.f.id] H R
theorem kids_of {rs : List RT} {w h next : Int} {Kd : Sl3} (mr : ∀ r ∈ rs, okM r.f) {ks : List T} (ih : ∀ t ∈ ks, LikeOk rs w h next Kd t) {K : Sl3} {to : Int} (hg : grp H K ks) (hm : gKs okM (layKs ks)) (hd : RD H Kd rs) (hR : ∀ H', Ext H H' → R (.bool (likeG (rwS rs) to (layKs ks))) H') :
    CallsH Tryz.prog 29 #[K.v, .agg (docA w h next Kd), .int .i64 to] H R := by
  show CallsH Tryz.prog 29 #[.slice K.p K.l K.c, .agg (docA w h next Kd), .int .i64 to] H R
  refine Tryz.s29 ?_
  unfold Tryz.S29
  have hKl := hg.1.1
  have hdl := hd.l.len
  have hfew := hd.l.few
  refine (St.nil H).alc fun b4 H5 hs5 => ⟨docA w h next Kd, rfl, rowIn_whole (hs5.block 0 rfl), c49 (hd.l.ext hs5.ext) fun q H8 hq => ⟨q.p, q.l, q.c, rfl, ?_⟩⟩
  have hs8 := hs5.callR hq
  have hqi := hq.is 0 rfl
  have hql : q.l = (ofG to (rwS rs)).length := by have := hqi.len; rw [ints_len, kidsZ_len] at this; exact this.symm
  have hle := kidsZ_le to (rwS rs)
  rw [kidsZ_len, rwS_len] at hle
  have bad : likeG (rwS rs) to (layKs ks) = false → ∀ {H' : Heap}, Ext H H' → R (.bool false) H' := fun hb H' he => by have := hR H' he; rw [hb] at this; exact this
  refine br_ne (fun hne => bad ?_ hs8.ext) fun he => ?_
  · unfold likeG
    rw [decide_eq_false (fun hh => by have := congrArg List.length hh; rw [List.length_map, List.length_map, layKs_len] at this; omega), Bool.false_and]
  have he : K.l = q.l := by omega
  intro X10 hX10
  have go : ∀ k, k ≤ ks.length → ∀ H1, St H H1 [.cell b4 (docA w h next Kd) 33, .sl q.p q.l q.c 3 1 (ints (kidsZ to (rwS rs)))] → ((layKs ks).map Lay.f).take k = ((ofG to (rwS rs)).map Rw.f).take k → likeKs (rwS rs) ((layKs ks).take k) = true → X10 [.int .i64 (k : Nat)] H1 := by
    refine upto fun k hk ih2 H1 hs1 heq hlk => hX10 _ _ (br_dec (fun hlt => ?_) fun hge => ?_)
    · have hk' : k < ks.length := by omega
      have ht := List.getElem?_eq_getElem hk'
      have htm := List.getElem_mem hk'
      generalize ks[k] = t at ht htm
      obtain ⟨a, h1, h2, h3⟩ := (hg.ext hs1.ext).get ht
      have hkz : k < (kidsZ to (rwS rs)).length := by rw [kidsZ_len]; omega
      have hz := List.getElem?_eq_getElem hkz
      generalize (kidsZ to (rwS rs))[k] = z at hz
      obtain ⟨m, rfl, hml, hrow⟩ := kidsZ_row hz
      rw [rwS_len] at hml
      have hx := List.getElem?_eq_getElem hml
      generalize rs[m] = r at hx
      rw [rws_get hx] at hrow
      obtain ⟨blk, hpk, hrw⟩ := (hd.l.ext hs1.ext).row hx
      have htl := layKs_get ht
      have h1f : ((layKs ks).map Lay.f)[k]? = some t.f := by rw [List.getElem?_map, htl]; show some (layT t).f = _; rw [layT_f]
      have h2f : ((ofG to (rwS rs)).map Rw.f)[k]? = some r.f := by rw [List.getElem?_map, ← hrow]; rfl
      have hgt : gT okM (layT t) := gKs_iff.1 hm _ (List.mem_of_getElem? htl)
      have htf : okM t.f := by have := hgt; cases t with | mk f P M A K' ks' => exact this.1
      have hgk : gKs okM (layKs t.kids) := by have := hgt; cases t with | mk f P M A K' ks' => exact this.2.2
      refine ⟨a, h1, by omega, hlt, (cellsT t).toArray, by simp [cellsT_len], h2, hs1.alc fun b15 H16 hs16 => ⟨by simp [cellsT_len], hs16.putAll 0 rfl (by simp [cellsT_len]) (by simpa using cellsT_one t) fun H17 hs17 => ?_⟩⟩
      obtain ⟨ad, hap, hac⟩ := (hs17.is 2 rfl).get _ _ (ints_get hz)
      refine ⟨(cellsT t).toArray, by simp [cellsT_len], rowIn_whole (hs17.block 0 rfl), _, _, _, hs17.get 1 rfl (docA_3 _ _ _ _), ad, hap, by omega, by omega, (m : Int), by rw [Nat.mul_one]; exact hac, _, hpk, by omega, by omega, (cellsR r).toArray, rfl, ?_, ?_⟩
      · obtain ⟨blk2, hpk2, hrw2⟩ := (hd.l.ext hs17.ext).row hx
        rw [hpk] at hpk2; cases hpk2
        exact rowR0 hrw2
      have hrm := List.mem_of_getElem? hx
      refine c50 (rdT.ext hs17.ext _ (rdKs_iff.1 hg.2 _ htm)) ((hd.rd r hrm).ext hs17.ext) htf (mr r hrm) fun H25 he25 => ⟨_, rfl, br_not (fun hf => bad ?_ (hs17.ext.trans he25)) fun hf => ?_⟩
      · have hf := of_decide_eq_false hf
        unfold likeG
        rw [decide_eq_false fun hh => hf ?_, Bool.false_and]
        rw [hh, h2f] at h1f
        exact (Option.some.inj h1f).symm
      have hf := of_decide_eq_true hf
      have hs25 := hs17.step he25
      have h0 : Sh.cell H25 (Addr.add ⟨b15, 0, none⟩ 0) = some (.int .i64 t.f.id) := hs25.get 0 rfl (j := 0) (cellsT_0 t)
      refine ⟨_, _, _, hs25.get 0 rfl (j := 18) (cellsT_18 t), docA w h next Kd, rfl, rowIn_whole (hs25.block 1 rfl), t.f.id, h0, ih t htm (rdT.ext hs25.ext _ (rdKs_iff.1 hg.2 _ htm)) hgk (hd.ext hs25.ext) fun H31 he31 => ⟨_, rfl, br_not (fun hb => bad ?_ (hs25.ext.trans he31)) fun hb => ?_⟩⟩
      · unfold likeG
        rw [likeKs_false (List.mem_of_getElem? htl) ?_, Bool.and_false]
        cases t with | mk f P M A K' ks' => exact hb
      · rw [wrap_id (by omega) (by omega)]
        refine ih2 hk' H31 ((hs25.step he31).drop 1) ((eq_take heq h1f h2f).2 hf) ?_
        rw [likeKs_take hlk htl]
        cases t with | mk f P M A K' ks' => exact hb
    · have : k = ks.length := by omega
      subst this
      rw [List.take_of_length_le (by rw [List.length_map, layKs_len]; exact Nat.le_refl _), List.take_of_length_le (by rw [List.length_map]; omega)] at heq
      rw [List.take_of_length_le (by rw [layKs_len]; exact Nat.le_refl _)] at hlk
      have := hR H1 hs1.ext
      rw [show likeG (rwS rs) to (layKs ks) = true from by unfold likeG; rw [hlk, decide_eq_true heq]; rfl] at this
      exact this
  exact go 0 (by omega) H8 hs8 (by simp) (by rw [List.take_zero]; rfl)
theorem kids_all {rs : List RT} {w h next : Int} {Kd : Sl3} (mr : ∀ r ∈ rs, okM r.f) : ∀ t, LikeOk rs w h next Kd t := T.ind fun f P M A K ks ih => fun {H R} hr hm hd hR => kids_of mr ih (rdT.grp hr) hm hd hR
def likeD (D : DocL) (w h next : Int) (L : List Rw) : Bool := decide (D.w = w) && (decide (D.h = h) && (decide (D.next = next) && likeG L 0 D.ks))
theorem c17 {A : Array Value} {D : DocL} {w h next : Int} {Kd : Sl3} {rs : List RT} (ha : DocR H A D) (hm : gKs okM D.ks) (hd : RD H Kd rs) (mr : ∀ r ∈ rs, okM r.f) (hR : ∀ H', Ext H H' → R (.bool (likeD D w h next (rwS rs))) H') :
    CallsH Tryz.prog 17 #[.agg A, .agg (docA w h next Kd)] H R := by
  obtain ⟨K, ks, rfl, hg, hl⟩ := ha
  refine Tryz.s17 ?_
  unfold Tryz.S17
  refine (St.nil H).alc fun b3 H4 hs4 => hs4.alc fun b5 H6 hs6 => ?_
  have bad : likeD D w h next (rwS rs) = false → R (.bool false) H6 := fun hb => by have := hR H6 hs6.ext; rw [hb] at this; exact this
  refine ⟨D.w, hs6.get 1 rfl (j := 0) rfl, w, hs6.get 0 rfl (j := 0) rfl, br_eq (fun h1 => ?_) fun h1 => bad (by unfold likeD; rw [decide_eq_false h1, Bool.false_and])⟩
  refine ⟨D.h, hs6.get 1 rfl (j := 1) rfl, h, hs6.get 0 rfl (j := 1) rfl, br_eq (fun h2 => ?_) fun h2 => bad (by unfold likeD; rw [decide_eq_false h2, Bool.false_and, Bool.and_false])⟩
  refine ⟨D.next, hs6.get 1 rfl (j := 2) rfl, next, hs6.get 0 rfl (j := 2) rfl, br_eq (fun h3 => ?_) fun h3 => bad (by unfold likeD; rw [decide_eq_false h3, Bool.false_and, Bool.and_false, Bool.and_false])⟩
  refine ⟨K.p, K.l, K.c, hs6.get 1 rfl (j := 3) rfl, docA w h next Kd, rfl, rowIn_whole (hs6.block 0 rfl), ?_⟩
  refine kids_of mr (fun t _ => kids_all mr t) (hg.ext hs6.ext) (by rw [hl]; exact hm) (hd.ext hs6.ext) fun H16 he16 => ⟨_, rfl, ?_⟩
  have := hR H16 (hs6.ext.trans he16)
  unfold likeD at this
  rw [decide_eq_true h1, decide_eq_true h2, decide_eq_true h3, ← hl] at this
  exact this
theorem likeD_iff {D E : DocL} {L : List Rw} (hr : Rel E.ks L) (hi : Ids E.ks) : likeD D E.w E.h E.next L = true ↔ D = E := by
 unfold likeD
 simp only [Bool.and_eq_true, decide_eq_true_iff, like_iff hr hi]
 constructor
 ·rintro ⟨h1, h2, h3, h4⟩; cases D; cases E; simp_all
 ·intro h; subst h; exact ⟨rfl, rfl, rfl, rfl⟩
theorem Inv.okM {D : DocL} (h : Inv D) : gKs Go.Proofs.okM D.ks := gKs_imp (fun f hg => hg.okM) h.good
theorem gKs_flat {G : LayF → Prop} {ts : List Lay} (h : gKs G ts) : ∀ (g : Int) (x : Rw), x ∈ flatKs g ts → G x.f := by
 have key : ∀ t, gT G t → ∀ (g : Int) (x : Rw), x ∈ flatT g t → G x.f := Lay.ind fun f ks ih hg g x hx => by
  rw [gT] at hg
  rw [flatT] at hx
  rcases List.mem_cons.1 hx with rfl | hx
  ·exact hg.1
  ·have : ∀ (us : List Lay), (∀ t ∈ us, t ∈ ks) → gKs G us → x ∈ flatKs f.id us → G x.f := by
    intro us
    induction us with
    | nil => intro _ _ hx; cases hx
    | cons t us ih2 =>
     intro hm hg2 hx
     rw [gKs] at hg2
     rw [flatKs] at hx
     rcases List.mem_append.1 hx with hx | hx
     ·exact ih t (hm t List.mem_cons_self) hg2.1 _ x hx
     ·exact ih2 (fun t ht => hm t (List.mem_cons_of_mem _ ht)) hg2.2 hx
   exact this ks (fun _ h => h) hg.2.2 hx
 intro g x hx
 induction ts with
 | nil => cases hx
 | cons t ts ih =>
  rw [gKs] at h
  rw [flatKs] at hx
  rcases List.mem_append.1 hx with hx | hx
  ·exact key t h.1 g x hx
  ·exact ih h.2 hx
theorem Rel.okM {D : DocL} (h : Inv D) {rs : List RT} (hr : Rel D.ks (rwS rs)) : ∀ r ∈ rs, Go.Proofs.okM r.f := fun r hm => gKs_flat h.okM 0 r.rw (hr.mem.1 (List.mem_map.2 ⟨r, hm, rfl⟩))
end Go.Proofs
namespace Go.Proofs
open Go.Sh
variable {H0 H : Heap} {σ : List Rs} {R : Value → Heap → Prop}
def poolRs (L : List (Sl3 × List RT)) : Rs := .pers fun H => ∀ x ∈ L, RD H x.1 x.2
theorem _root_.Go.Sh.St.pool (hs : St H0 H σ) (i : Nat) {L : List (Sl3 × List RT)} (hi : σ[i]? = some (poolRs L)) {K : Sl3} {rs : List RT} (hm : (K, rs) ∈ L) : RD H K rs := hs.persGet i hi (K, rs) hm
def nxt (D : DocL) (e : Ed) : DocL := if (doD D e).1 = 0 then (doD D e).2 else D
theorem nxt_inv {D : DocL} (h : Inv D) (e : Ed) : Inv (nxt D e) := by
 unfold nxt
 split
 ·rename_i h0; exact do_inv h h0
 ·exact h
theorem doD_eq {D : DocL} {e : Ed} : (doD D e).1 = (doL D.w D.h D.next D.ks e).1 ∧ ((doD D e).1 = 0 → (doD D e).2 = ⟨D.w, D.h, (doL D.w D.h D.next D.ks e).2.1, (doL D.w D.h D.next D.ks e).2.2⟩) := by
 unfold doD
 by_cases h0 : (doL D.w D.h D.next D.ks e).1 = 0
 ·rw [if_neg (fun hh => hh h0)]; exact ⟨h0.symm, fun _ => rfl⟩
 ·rw [if_pos h0]; exact ⟨rfl, fun hh => absurd hh h0⟩
theorem rdo_st {D : DocL} {e : Ed} {s : EdS} {K : Sl3} {rs : List RT} {L : List (Sl3 × List RT)} (hs : St H0 H σ) (i : Nat) (hi : σ[i]? = some (poolRs L)) (hm : (K, rs) ∈ L) (hr : Rel D.ks (rwS rs)) (hv : Inv D) (hnx : D.next ≤ 1000000000000000) (hed : EdOk H e s)
    (hR : ∀ (q : Sl3) rs' L' H', (q, rs') ∈ L' → (∀ x ∈ L, x ∈ L') → Rel (nxt D e).ks (rwS rs') → Ext H H' → St H0 H' (σ.set i (poolRs L')) → R (.tuple #[.agg (docA (nxt D e).w (nxt D e).h (nxt D e).next q), .int .i64 (doD D e).1]) H') :
    CallsH Tryz.prog 23 #[.agg (docA D.w D.h D.next K), .agg (edL e s).toArray] H R := by
  obtain ⟨e1, e2⟩ := doD_eq (D := D) (e := e)
  refine c23 (hs.pool i hi hm) hr hv hnx hed ⟨fun hb H' he => ?_, fun h0 q rs' H' τ hrel hst hrr => ?_⟩
  · have hn : nxt D e = D := by unfold nxt; rw [if_neg (by rw [e1]; exact hb)]
    have := hR K rs L H' hm (fun x hx => hx) (by rw [hn]; exact hr) he (by
      have hself : σ.set i (poolRs L) = σ := by
        obtain ⟨h1, h2⟩ := List.getElem?_eq_some_iff.1 hi
        rw [← h2, List.set_getElem_self]
      rw [hself]; exact hs.step he)
    rw [hn, e1] at this; exact this
  · have hn : nxt D e = ⟨D.w, D.h, (doL D.w D.h D.next D.ks e).2.1, (doL D.w D.h D.next D.ks e).2.2⟩ := by unfold nxt; rw [if_pos (by rw [e1]; exact h0), e2 (by rw [e1]; exact h0)]
    have he : Ext H H' := hst.ext
    have hc := hs.call hst
    have hfew : rs'.length ≤ 1000000 := by
      have hiv := nxt_inv hv e
      rw [hn] at hiv
      have h1 := hrel.len
      have h2 := hiv.cnt
      rw [rwS_len] at h1
      have h2 : cntKs (doL D.w D.h D.next D.ks e).2.2 ≤ 4096 := h2
      omega
    have hst2 : St H0 H' (σ.set i (poolRs ((q, rs') :: L))) := by
      have hp : (Rs.sl q.p q.l q.c 95 19 (cellsRs rs') :: τ ++ σ).Perm ((Rs.sl q.p q.l q.c 95 19 (cellsRs rs') :: τ ++ [poolRs L]) ++ σ.eraseIdx i) := by
        rw [List.append_assoc]
        exact List.Perm.append_left _ ((perm_front σ i hi).1)
      have h1 := St.persIn (Q := fun H => ∀ x ∈ (q, rs') :: L, RD H x.1 x.2) (hc.perm hp) fun H'' fps hL x hx => by
        obtain ⟨a, b, _, hL1, hL2⟩ := hL.split
        obtain ⟨fp, hfp, hat⟩ := hL2.get (i := 0) rfl
        have hold : ∀ x ∈ L, RD H'' x.1 x.2 := hat.2 H'' fun b _ o ho => ho
        rcases List.mem_cons.1 hx with rfl | hx
        · have hK := hold (K, rs) hm
          match a, hL1 with
          | f :: a, hL1 => exact ⟨FS.rl hL1.1.1 hfew, hrr H'' a hK.rd hL1.2⟩
        · exact hold x hx
      exact h1.back hi
    have := hR q rs' _ H' (List.mem_cons_self) (fun x hx => List.mem_cons_of_mem _ hx) (by rw [hn]; exact hrel) he hst2
    rw [hn, e1, h0] at this; exact this
end Go.Proofs
namespace Go.Proofs
open Go.Sh
variable {H0 H : Heap} {σ : List Rs} {R : Value → Heap → Prop}
def bkRs (l : List PD) : Rs := .ex fun (L : List (Sl3 × List RT)) => .pu (∀ x ∈ l, ∃ rs, (x.1, rs) ∈ L ∧ Rel x.2.ks (rwS rs)) (poolRs L)
theorem bkIn {l : List PD} (L : List (Sl3 × List RT)) (h : ∀ x ∈ l, ∃ rs, (x.1, rs) ∈ L ∧ Rel x.2.ks (rwS rs)) (hs : St H0 H (poolRs L :: σ)) : St H0 H (bkRs l :: σ) :=
 St.inex (f := fun (L : List (Sl3 × List RT)) => .pu (∀ x ∈ l, ∃ rs, (x.1, rs) ∈ L ∧ Rel x.2.ks (rwS rs)) (poolRs L)) L (St.with h hs)
theorem bkOut {l : List PD} (hs : St H0 H (bkRs l :: σ)) : ∃ L : List (Sl3 × List RT), (∀ x ∈ l, ∃ rs, (x.1, rs) ∈ L ∧ Rel x.2.ks (rwS rs)) ∧ St H0 H (poolRs L :: σ) := by
 obtain ⟨L, h1⟩ := St.unex hs
 obtain ⟨h2, h3⟩ := St.fact h1
 exact ⟨L, h2, h3⟩
theorem bkSub {l l' : List PD} (hs : St H0 H (bkRs l :: σ)) (h : ∀ x ∈ l', x ∈ l) : St H0 H (bkRs l' :: σ) := by
 obtain ⟨L, h1, h2⟩ := bkOut hs
 exact bkIn L (fun x hx => h1 x (h x hx)) h2
theorem bkGet (hs : St H0 H σ) (i : Nat) {l : List PD} (hi : σ[i]? = some (bkRs l)) {x : PD} (hx : x ∈ l) : ∃ rs, RD H x.1 rs ∧ Rel x.2.ks (rwS rs) := by
 obtain ⟨L, h1, h2⟩ := bkOut (hs.front i hi)
 obtain ⟨rs, h3, h4⟩ := h1 x hx
 exact ⟨rs, h2.pool 0 rfl h3, h4⟩
theorem bkStart (hs : St H0 H σ) (w h : Int) : St H0 H (bkRs [(.nil, ⟨w, h, 1, []⟩)] :: σ) := by
 refine bkIn [(.nil, [])] (fun x hx => ?_) (St.persIn (τ := []) hs fun H' fps _ x hx => ?_)
 ·rw [List.mem_singleton] at hx; subst hx
  exact ⟨[], List.mem_singleton.2 rfl, fun to => rfl⟩
 ·rw [List.mem_singleton] at hx; subst hx
  exact ⟨RL.nil H', fun r hr => by cases hr⟩
theorem rdo_bk {e : Ed} {s : EdS} {x : PD} {l : List PD} (hs : St H0 H (bkRs l :: σ)) (hm : x ∈ l) (hv : Inv x.2) (hnx : x.2.next ≤ 1000000000000000) (hed : EdOk H e s)
    (hR : ∀ (q : Sl3) H', Ext H H' → St H0 H' (bkRs ((q, nxt x.2 e) :: l) :: σ) → R (.tuple #[.agg (arrP (q, nxt x.2 e)), .int .i64 (doD x.2 e).1]) H') :
    CallsH Tryz.prog 23 #[.agg (arrP x), .agg (edL e s).toArray] H R := by
  obtain ⟨L, h1, h2⟩ := bkOut hs
  obtain ⟨rs, h3, h4⟩ := h1 x hm
  refine rdo_st h2 0 rfl h3 h4 hv hnx hed fun q rs' L' H' hq hsub hrel he hs' => hR q H' he (bkIn L' (fun y hy => ?_) hs')
  rcases List.mem_cons.1 hy with rfl | hy
  · exact ⟨rs', hq, hrel⟩
  · obtain ⟨r2, h5, h6⟩ := h1 y hy
    exact ⟨r2, hsub _ h5, h6⟩
def HM.book (m : HM) (b : Nat) : List Rs := [.cell b (histA m.now m.P m.F) 41, .sl m.P.p m.P.l m.P.c 33 4 (cellsP m.past), .sl m.F.p m.F.l m.F.c 33 4 (cellsP m.fut), bkRs (m.now :: (m.past ++ m.fut))]
def bookRs (b : Nat) (h : HL) : Rs := .ex fun (m : HM) => .pu (m.abs = h) (starAll (m.book b))
theorem bookIn {b : Nat} (m : HM) {h : HL} (hm : m.abs = h) (hs : St H0 H (m.book b ++ σ)) : St H0 H (bookRs b h :: σ) :=
 St.inex (f := fun (m : HM) => .pu (m.abs = h) (starAll (m.book b))) m (St.with hm (St.packAll _ hs))
theorem bookOut {b : Nat} {h : HL} (hs : St H0 H (bookRs b h :: σ)) : ∃ m : HM, m.abs = h ∧ St H0 H (m.book b ++ σ) := by
 obtain ⟨m, h1⟩ := St.unex hs
 obtain ⟨h2, h3⟩ := St.fact h1
 exact ⟨m, h2, St.unpackAll _ h3⟩
theorem pz {a b c d : Rs} {σ : List Rs} : (a :: b :: c :: d :: σ).Perm (b :: c :: d :: a :: σ) := ((permC (a := [a, b, c, d]) (b := [b, c, d, a]) fun _ y => by simp only [List.count_cons, List.count_nil]; ac_rfl)).append_right σ
end Go.Proofs
namespace Go.Proofs
open Go.Sh
variable {H0 H : Heap} {σ : List Rs} {R : Value → Heap → Prop}
theorem hA_row {u : Bool} {b : Nat} {x : PD} {P F : Sl3} {ty : TypeId} (hb : H[b]? = some (.cells (hA u x P F) ty)) : rowIn H ⟨b, 0, none⟩ (arrP x) := by
 cases u <;> exact hist_row hb
theorem hA_T (u : Bool) (x : PD) (P F : Sl3) : (hA u x P F)[jT u]? = some F.v := by cases u <;> rfl
theorem hA_F (u : Bool) (x : PD) (P F : Sl3) : (hA u x P F)[jF u]? = some P.v := by cases u <;> rfl
theorem hA_setT (u : Bool) (x : PD) (P F Q : Sl3) : (hA u x P F).setIfInBounds (jT u) Q.v = hA u x P Q := by cases u <;> rfl
theorem hA_setF (u : Bool) (x : PD) (P F Q : Sl3) : (hA u x P F).setIfInBounds (jF u) Q.v = hA u x Q F := by cases u <;> rfl
theorem hA_setN (u : Bool) (x y : PD) (P F : Sl3) : (setL (hA u x P F).toList 0 (arrP y).toList).toArray = hA u y P F := by cases u <;> rfl
theorem jT_lt (u : Bool) (x : PD) (P F : Sl3) : jT u < (hA u x P F).size := by cases u <;> (rw [hA_size]; decide)
theorem jF_lt (u : Bool) (x : PD) (P F : Sl3) : jF u < (hA u x P F).size := by cases u <;> (rw [hA_size]; decide)
theorem put_more {u : Bool} {b : Nat} {x : PD} {P F : Sl3} {lf lt : List PD} {J : Heap → Prop} (hs : St H0 H (.cell b (hA u x P F) 41 :: .sl P.p P.l P.c 33 4 (cellsP lf) :: .sl F.p F.l F.c 33 4 (cellsP lt) :: σ)) (hl : F.l ≤ 1000000)
    (hJ : ∀ (Q : Sl3) H', St H0 H' (.cell b (hA u x P Q) 41 :: .sl P.p P.l P.c 33 4 (cellsP lf) :: .sl Q.p Q.l Q.c 33 4 (cellsP (lt ++ [x])) :: σ) → J H') :
    ∃ a127 : Addr, (some ⟨b, 0, none⟩ : Option Addr) = some a127 ∧ ∃ fp fl fc, Sh.cell H (a127.add (jT u)) = some (.slice fp fl fc) ∧ ∃ a129 : Addr, (some ⟨b, 0, none⟩ : Option Addr) = some a129 ∧ ∃ no130 : Array Value, no130.size = 4 ∧ rowIn H (a129.add 0) no130 ∧
      (alc H (.cells #[] 33) fun b131 H132 => (Ext H H132 ∨ (∃ no151 : Array Value, no151.size = 4 ∧ rowIn H132 (a129.add 0) no151 ∧ Value.agg no151 = .agg no130) ∧ (∃ p l c, Sh.cell H132 (a127.add (jT u)) = some (.slice p l c) ∧ Value.slice p l c = .slice fp fl fc)) ∧
        (appQ 4 48 #[.int .i64 0, .int .i64 0, .int .i64 0, .slice none 0 0] H132 (some ⟨b131, 0, none⟩) 0 0 fp fl 33 fun p1 l1 c1 H134 => (Ext H132 H134 ∨ (∃ no141 : Array Value, no141.size = 4 ∧ rowIn H134 (a129.add 0) no141 ∧ Value.agg no141 = .agg no130)) ∧ no130.size = 4 ∧ 0 + 4 ≤ 4 ∧ alc H134 (.cells (List.toArray (setL [.int .i64 0, .int .i64 0, .int .i64 0, .slice none 0 0] 0 no130.toList)) 33) fun b135 H136 => appQ 4 48 #[.int .i64 0, .int .i64 0, .int .i64 0, .slice none 0 0] H136 p1 l1 c1 (some ⟨b135, 0, none⟩) 1 33 fun p2 l2 c2 H138 => ∃ a139 : Addr, (some ⟨b, 0, none⟩ : Option Addr) = some a139 ∧ stAt H138 (a139.add (jT u)) [.slice p2 l2 c2] fun H140 => J H140) ∧
        (no130.size = 4 ∧ 0 + 4 ≤ 4 ∧ alc H132 (.cells (List.toArray (setL [.int .i64 0, .int .i64 0, .int .i64 0, .slice none 0 0] 0 no130.toList)) 33) fun b142 H143 => (Ext H132 H143 ∨ (∃ p l c, Sh.cell H143 (a127.add (jT u)) = some (.slice p l c) ∧ Value.slice p l c = .slice fp fl fc)) ∧ appQ 4 48 #[.int .i64 0, .int .i64 0, .int .i64 0, .slice none 0 0] H143 (some ⟨b131, 0, none⟩) 0 0 fp fl 33 fun p1 l1 c1 H145 => appQ 4 48 #[.int .i64 0, .int .i64 0, .int .i64 0, .slice none 0 0] H145 p1 l1 c1 (some ⟨b142, 0, none⟩) 1 33 fun p2 l2 c2 H147 => ∃ a148 : Addr, (some ⟨b, 0, none⟩ : Option Addr) = some a148 ∧ stAt H147 (a148.add (jT u)) [.slice p2 l2 c2] fun H149 => J H149)) ∧
      (no130.size = 4 ∧ 0 + 4 ≤ 4 ∧ alc H (.cells (List.toArray (setL [.int .i64 0, .int .i64 0, .int .i64 0, .slice none 0 0] 0 no130.toList)) 33) fun b153 H154 => (Ext H H154 ∨ (∃ p l c, Sh.cell H154 (a127.add (jT u)) = some (.slice p l c) ∧ Value.slice p l c = .slice fp fl fc)) ∧ alc H154 (.cells #[] 33) fun b155 H156 => (Ext H154 H156 ∨ (∃ p l c, Sh.cell H156 (a127.add (jT u)) = some (.slice p l c) ∧ Value.slice p l c = .slice fp fl fc)) ∧ appQ 4 48 #[.int .i64 0, .int .i64 0, .int .i64 0, .slice none 0 0] H156 (some ⟨b155, 0, none⟩) 0 0 fp fl 33 fun p1 l1 c1 H158 => appQ 4 48 #[.int .i64 0, .int .i64 0, .int .i64 0, .slice none 0 0] H158 p1 l1 c1 (some ⟨b153, 0, none⟩) 1 33 fun p2 l2 c2 H160 => ∃ a161 : Addr, (some ⟨b, 0, none⟩ : Option Addr) = some a161 ∧ stAt H160 (a161.add (jT u)) [.slice p2 l2 c2] fun H162 => J H162) := by
  have fin : ∀ (bn : Nat) (p2 : Option Addr) (l2 c2 : Nat) (H1 : Heap), St H0 H1 (.cell bn (arrP x) 33 :: .sl p2 l2 c2 33 4 ([] ++ cellsP lt ++ (arrP x).toList) :: .cell b (hA u x P F) 41 :: .sl P.p P.l P.c 33 4 (cellsP lf) :: .sl F.p F.l F.c 33 4 (cellsP lt) :: σ) →
      ∃ a139 : Addr, (some ⟨b, 0, none⟩ : Option Addr) = some a139 ∧ stAt H1 (a139.add (jT u)) [.slice p2 l2 c2] fun H140 => J H140 := fun bn p2 l2 c2 H1 hs1 => by
    refine ⟨_, rfl, ?_⟩
    rw [add_none, Nat.zero_add]
    refine hs1.put 2 rfl (j := jT u) (jT_lt u x P F) rfl fun H2 hs2 => hJ ⟨p2, l2, c2⟩ H2 ?_
    have h2 : St H0 H2 (.cell bn (arrP x) 33 :: .sl p2 l2 c2 33 4 (cellsP lt ++ (arrP x).toList) :: .cell b ((hA u x P F).setIfInBounds (jT u) (Sl3.v ⟨p2, l2, c2⟩)) 41 :: .sl P.p P.l P.c 33 4 (cellsP lf) :: .sl F.p F.l F.c 33 4 (cellsP lt) :: σ) := hs2
    rw [hA_setT, ← cellsP_one x, ← cellsP_app] at h2
    exact ((h2.del 4).del 0).perm ((permC (a := [_, _, _]) (b := [_, _, _]) fun _ y => by simp only [List.count_cons, List.count_nil]; ac_rfl).append_right σ)
  have gt : ∀ {H1 : Heap} {σ' : List Rs} (i : Nat), St H0 H1 σ' → σ'[i]? = some (.cell b (hA u x P F) 41) → Sh.cell H1 (Addr.add ⟨b, 0, none⟩ (jT u)) = some (.slice F.p F.l F.c) := fun {H1 σ'} i h hi => by
    rw [add_none, Nat.zero_add]; exact h.get i hi (hA_T u x P F)
  refine ⟨_, rfl, F.p, F.l, F.c, gt 0 hs rfl, _, rfl, arrP x, arrP_size x, hA_row (hs.block 0 rfl), ?_, arrP_size x, by decide, ?_⟩
  · refine hs.alcE fun b131 H132 he132 hs132 => ⟨.inl he132, ?_, arrP_size x, by decide, ?_⟩
    · have h1 := hs132.toSl 0 (l := 0) (k := 4) (fs := []) rfl rfl rfl (by simp)
      refine h1.appR 0 rfl (h1.rs 3 rfl) (by decide) rfl (by omega) (by omega) fun p1 c1 H134 hs134 => ⟨.inr ⟨_, arrP_size x, hA_row (hs134.block 1 rfl), rfl⟩, arrP_size x, by decide, ?_⟩
      rw [elemD (arrP_size x)]
      exact hs134.alc fun b135 H136 hs136 => hs136.appC 1 0 rfl rfl (arrP_size x) (arrP_one x) (by decide) rfl (by omega) (by omega) fun p2 c2 H138 hs138 => fin b135 p2 _ c2 H138 hs138
    · rw [elemD (arrP_size x)]
      have h1 := hs132.toSl 0 (l := 0) (k := 4) (fs := []) rfl rfl rfl (by simp)
      refine h1.alcE fun b142 H143 he143 hs143 => ⟨.inl he143, hs143.appR 1 rfl (hs143.rs 4 rfl) (by decide) rfl (by omega) (by omega) fun p1 c1 H145 hs145 => ?_⟩
      exact hs145.appC 1 0 rfl rfl (arrP_size x) (arrP_one x) (by decide) rfl (by omega) (by omega) fun p2 c2 H138 hs138 => fin b142 p2 _ c2 H138 hs138
  · rw [elemD (arrP_size x)]
    refine hs.alcE fun b153 H154 he154 hs154 => ⟨.inl he154, hs154.alcE fun b155 H156 he156 hs156 => ⟨.inl he156, ?_⟩⟩
    have h1 := hs156.toSl 0 (l := 0) (k := 4) (fs := []) rfl rfl rfl (by simp)
    refine h1.appR 0 rfl (h1.rs 4 rfl) (by decide) rfl (by omega) (by omega) fun p1 c1 H158 hs158 => ?_
    exact hs158.appC 0 1 rfl rfl (arrP_size x) (arrP_one x) (by decide) rfl (by omega) (by omega) fun p2 c2 H160 hs160 => fin b153 p2 _ c2 H160 hs160.swap
theorem take_back {u : Bool} {b : Nat} {x y : PD} {P F : Sl3} {m : List PD} {K : Heap → Prop} {w : Int} (hw : w = (m.length : Nat)) (hs : St H0 H (.cell b (hA u x P F) 41 :: .sl P.p P.l P.c 33 4 (cellsP (m ++ [y])) :: σ))
    (hK : ∀ (P' : Sl3) H', St H0 H' (.cell b (hA u y P' F) 41 :: .sl P'.p P'.l P'.c 33 4 (cellsP m) :: σ) → K H') :
    ∃ a117 : Addr, (some ⟨b, 0, none⟩ : Option Addr) = some a117 ∧ ∃ p l c, Sh.cell H (a117.add (jF u)) = some (.slice p l c) ∧ ∃ a119 : Addr, p = some a119 ∧ 0 ≤ w ∧ w < ((l : Nat) : Int) ∧ ∃ v120 : Array Value, v120.size = 4 ∧ rowIn H (a119.add (Int.toNat w * 4)) v120 ∧ ∃ a121 : Addr, (some ⟨b, 0, none⟩ : Option Addr) = some a121 ∧ ∃ p2 l2 c2, Sh.cell H (a121.add (jF u)) = some (.slice p2 l2 c2) ∧ 0 ≤ w ∧ w ≤ ((c2 : Nat) : Int) ∧ ∃ a123 : Addr, (some ⟨b, 0, none⟩ : Option Addr) = some a123 ∧ v120.size = 4 ∧
      stAt H (a123.add 0) v120.toList fun H124 => ∃ a125 : Addr, (some ⟨b, 0, none⟩ : Option Addr) = some a125 ∧ stAt H124 (a125.add (jF u)) [.slice (if c2 = 0 then p2 else Option.map (fun x => Addr.add x (0 * 4)) p2) (Int.toNat w - 0) (c2 - 0)] fun H126 => K H126 := by
  subst hw
  have hPl : P.l = m.length + 1 := by have := (hs.rs 1 rfl).len; rw [cellsP_len, List.length_append, List.length_singleton] at this; omega
  have hle := (hs.fs 1 rfl).le
  have gt : ∀ {H1 : Heap} {σ' : List Rs} {z : PD} (i : Nat), St H0 H1 σ' → σ'[i]? = some (.cell b (hA u z P F) 41) → Sh.cell H1 (Addr.add ⟨b, 0, none⟩ (jF u)) = some (.slice P.p P.l P.c) := fun {H1 σ' z} i h hi => by
    rw [add_none, Nat.zero_add]; exact h.get i hi (hA_F u z P F)
  obtain ⟨b', hb'⟩ := hs.slSome 1 (j := 0) rfl (by rw [cellsP_len, List.length_append, List.length_singleton]; omega)
  have hrow : rowIn H ⟨b', m.length * 4, none⟩ (arrP y) := by
    obtain ⟨blk, h1, h2⟩ := (hs.rs 1 rfl).row (i := m.length) (by omega) (by decide) (xs := arrP y) fun j v hv => cellsP_get (by simp) hv
    rw [hb'] at h1; cases h1
    exact h2
  have hval : Value.slice (if P.c = 0 then P.p else Option.map (fun x => Addr.add x (0 * 4)) P.p) (Int.toNat ((m.length : Nat) : Int) - 0) (P.c - 0) = .slice P.p m.length P.c := by
    rw [hb', if_neg (by omega)]
    rfl
  refine ⟨_, rfl, P.p, P.l, P.c, gt 0 hs rfl, _, hb', by omega, by omega, arrP y, arrP_size y, by rw [Int.toNat_natCast, add_none, Nat.zero_add]; exact hrow, _, rfl, P.p, P.l, P.c, gt 0 hs rfl, by omega, by omega, _, rfl, arrP_size y, ?_⟩
  refine hs.putRow 0 rfl (j := 0) (vs := (arrP y).toList) (by rw [hA_size, Array.length_toList, arrP_size]; decide) (arrP_one y) fun H124 hs124 => ⟨_, rfl, ?_⟩
  have h124 : St H0 H124 (.cell b (setL (hA u x P F).toList 0 (arrP y).toList).toArray 41 :: .sl P.p P.l P.c 33 4 (cellsP (m ++ [y])) :: σ) := hs124
  rw [hA_setN] at h124
  rw [hval, add_none, Nat.zero_add]
  refine h124.put 0 rfl (j := jF u) (jF_lt u y P F) rfl fun H126 hs126 => hK ⟨P.p, m.length, P.c⟩ H126 ?_
  have h126 : St H0 H126 (.cell b ((hA u y P F).setIfInBounds (jF u) (Sl3.v ⟨P.p, m.length, P.c⟩)) 41 :: .sl P.p P.l P.c 33 4 (cellsP (m ++ [y])) :: σ) := hs126
  rw [hA_setF] at h126
  have h127 := h126.slTake 1 rfl (n := m.length) (by omega)
  rw [cellsP_take] at h127
  exact h127
end Go.Proofs
namespace Go.Proofs
open Go.Sh
variable {H0 H : Heap} {σ : List Rs} {R : Value → Heap → Prop}
theorem q5 {a b c d e : Rs} {σ : List Rs} : (a :: b :: c :: d :: e :: σ).Perm (b :: c :: d :: e :: a :: σ) := ((permC (a := [a, b, c, d, e]) (b := [b, c, d, e, a]) fun _ y => by simp only [List.count_cons, List.count_nil]; ac_rfl)).append_right σ
theorem stepH0 {h : HL} {k : Int} {e : Ed} (h0 : k = 0) : stepH h k e = doH h e := by unfold stepH; rw [if_pos h0]
theorem c10 {bb n : Nat} {h : HL} {k : Int} {e : Ed} {s : EdS} (hs : St H0 H (bookRs bb h :: σ)) (hk : HOk n h) (hn : n ≤ 1000000) (hed : EdOk H e s) (hR : ∀ H', St H0 H' (bookRs bb (stepH h k e).2 :: σ) → R (.int .i64 (stepH h k e).1) H') :
    CallsH Tryz.prog 10 #[.pointer (some ⟨bb, 0, none⟩), .agg (stL k e s).toArray] H R := by
  obtain ⟨m, rfl, hm⟩ := bookOut hs
  obtain ⟨now, P, F, past, fut⟩ := m
  have hs : St H0 H (.cell bb (histA now P F) 41 :: .sl P.p P.l P.c 33 4 (cellsP past) :: .sl F.p F.l F.c 33 4 (cellsP fut) :: bkRs (now :: (past ++ fut)) :: σ) := hm
  have hPl : P.l = past.length := by have := (hs.rs 1 rfl).len; rw [cellsP_len] at this; omega
  have hFl : F.l = fut.length := by have := (hs.rs 2 rfl).len; rw [cellsP_len] at this; omega
  obtain ⟨hinv, hnx⟩ := hk.now
  have hlen := hk.len
  have hinv : Inv now.2 := hinv
  have hnx : now.2.next ≤ n + 1 := hnx
  have hlen : (past.map Prod.snd).length + (fut.map Prod.snd).length ≤ n := hlen
  rw [List.length_map, List.length_map] at hlen
  refine Tryz.s10 ?_
  unfold Tryz.S10
  refine hs.alcE fun b3 H4 he4 hs4 => ⟨k, hs4.get 0 rfl (j := 0) rfl, br_eq (fun h0 => ?_) fun h0 => br_eq (fun h1 => ?_) fun h1 => br_eq (fun h2 => ?_) fun h2 => ?_⟩
  · rw [stepH0 h0] at hR
    intro J6 hJ6
    have after : ∀ (bn : Nat) (q : Sl3) (H1 : Heap), St H0 H1 (.cell bn (arrP (q, nxt now.2 e)) 33 :: .cell bb (histA now P F) 41 :: .sl P.p P.l P.c 33 4 (cellsP past) :: .sl F.p F.l F.c 33 4 (cellsP fut) :: bkRs ((q, nxt now.2 e) :: now :: (past ++ fut)) :: σ) → J6 [.pointer (some ⟨bn, 0, none⟩), .int .i64 (doD now.2 e).1] H1 := fun bn q H1 hs1 => by
      generalize hx : ((q, nxt now.2 e) : PD) = x at hs1
      have hxs : ∀ {H' : Heap} {σ' : List Rs} (i : Nat), St H0 H' σ' → σ'[i]? = some (.cell bn (arrP x) 33) → ∃ v : Array Value, v.size = 4 ∧ rowIn H' ⟨bn, 0, none⟩ v ∧ Value.agg v = .agg (arrP x) := fun i h hi => ⟨_, arrP_size x, rowIn_whole (h.block i hi), rfl⟩
      have hns : ∀ {H' : Heap} {σ' : List Rs} (i : Nat), St H0 H' σ' → σ'[i]? = some (.cell bb (histA now P F) 41) → ∃ v : Array Value, v.size = 4 ∧ rowIn H' ⟨bb, 0, none⟩ v ∧ Value.agg v = .agg (arrP now) := fun i h hi => ⟨_, arrP_size now, hist_row (h.block i hi), rfl⟩
      refine hJ6 _ _ _ (br_eq (fun he0 => ?_) fun hne => ?_)
      · have hd : doH ⟨now.2, past.map Prod.snd, fut.map Prod.snd⟩ e = (0, ⟨x.2, past.map Prod.snd ++ [now.2], []⟩) := by
          unfold doH
          rw [if_pos he0, ← hx]
          simp only [nxt, if_pos he0]
        have hr := hR
        simp only [HM.abs] at hr
        rw [hd] at hr
        have fin : ∀ (b19 : Nat) (p2 : Option Addr) (l2 c2 : Nat) (H22 : Heap), St H0 H22 (.cell b19 (arrP now) 33 :: .sl p2 l2 c2 33 4 ([] ++ cellsP past ++ (arrP now).toList) :: .cell bn (arrP x) 33 :: .cell bb (histA now P F) 41 :: .sl P.p P.l P.c 33 4 (cellsP past) :: .sl F.p F.l F.c 33 4 (cellsP fut) :: bkRs (x :: now :: (past ++ fut)) :: σ) →
            ∃ a23 : Addr, (some ⟨bb, 0, none⟩ : Option Addr) = some a23 ∧ stAt H22 (a23.add 4) [.slice p2 l2 c2] fun H24 => (Ext H22 H24 ∨ (∃ v30 : Array Value, v30.size = 4 ∧ rowIn H24 ⟨bn, 0, none⟩ v30 ∧ Value.agg v30 = .agg (arrP x))) ∧ ∃ a25 : Addr, (some ⟨bb, 0, none⟩ : Option Addr) = some a25 ∧ stAt H24 (a25.add 5) [.slice none 0 0] fun H26 => (Ext H24 H26 ∨ (∃ v29 : Array Value, v29.size = 4 ∧ rowIn H26 ⟨bn, 0, none⟩ v29 ∧ Value.agg v29 = .agg (arrP x))) ∧ ∃ a27 : Addr, (some ⟨bb, 0, none⟩ : Option Addr) = some a27 ∧ (arrP x).size = 4 ∧ stAt H26 (a27.add 0) (arrP x).toList fun H28 => R (.int .i64 (doD now.2 e).1) H28 := fun b19 p2 l2 c2 H22 hs22 => by
          refine ⟨_, rfl, hs22.put 3 rfl (j := 4) (Nat.le_of_ble_eq_true rfl) rfl fun H24 hs24 => ⟨.inr (hxs 2 hs24 rfl), _, rfl, hs24.put 3 rfl (j := 5) (Nat.le_of_ble_eq_true rfl) rfl fun H26 hs26 => ⟨.inr (hxs 2 hs26 rfl), _, rfl, arrP_size x, ?_⟩⟩⟩
          refine hs26.putRow 3 rfl (j := 0) (vs := (arrP x).toList) (Nat.le_of_ble_eq_true rfl) (arrP_one x) fun H28 hs28 => ?_
          rw [he0]
          refine hr H28 (bookIn ⟨x, ⟨p2, l2, c2⟩, .nil, past ++ [now], []⟩ (by simp [HM.abs]) ?_)
          have h28 : St H0 H28 (.cell b19 (arrP now) 33 :: .sl p2 l2 c2 33 4 (cellsP past ++ (arrP now).toList) :: .cell bn (arrP x) 33 :: .cell bb (histA x ⟨p2, l2, c2⟩ .nil) 41 :: .sl P.p P.l P.c 33 4 (cellsP past) :: .sl F.p F.l F.c 33 4 (cellsP fut) :: bkRs (x :: now :: (past ++ fut)) :: σ) := hs28
          rw [← cellsP_one now, ← cellsP_app] at h28
          have h29 : St H0 H28 (.sl p2 l2 c2 33 4 (cellsP (past ++ [now])) :: .cell bb (histA x ⟨p2, l2, c2⟩ .nil) 41 :: bkRs (x :: now :: (past ++ fut)) :: σ) := (((h28.del 5).del 4).del 2).tail
          have h30 := bkSub (l' := x :: ((past ++ [now]) ++ [])) (h29.front 2 rfl) (fun y hy => by
            simp only [List.append_nil, List.mem_cons, List.mem_append, List.not_mem_nil, or_false] at hy ⊢
            rcases hy with h | h | h <;> simp [h])
          have h31 := h30.nilSl 33 4
          exact h31.perm ((permC (a := [_, _, _, _]) (b := [_, _, _, _]) fun _ y => by simp only [List.count_cons, List.count_nil]; ac_rfl).append_right σ)
        refine ⟨_, rfl, P.p, P.l, P.c, hs1.get 1 rfl (j := 4) rfl, _, rfl, arrP now, arrP_size now, hist_row (hs1.block 1 rfl), arrP x, arrP_size x, rowIn_whole (hs1.block 0 rfl), ?_, arrP_size now, by decide, ?_⟩
        · refine hs1.alcE fun b15 H16 he16 hs16 => ⟨.inl he16, ?_, arrP_size now, by decide, ?_⟩
          · have g1 := hs16.toSl 0 (l := 0) (k := 4) (fs := []) rfl rfl rfl (by simp)
            refine g1.appR 0 rfl (g1.rs 3 rfl) (by decide) rfl (by omega) (by omega) fun p1 c1 H18 hs18 => ⟨.inr ⟨hxs 1 hs18 rfl, hns 2 hs18 rfl⟩, arrP_size now, by decide, ?_⟩
            rw [elemD (arrP_size now)]
            refine hs18.alcE fun b19 H20 he20 hs20 => ⟨.inl he20, hs20.appC 1 0 rfl rfl (arrP_size now) (arrP_one now) (by decide) rfl (by omega) (by omega) fun p2 c2 H22 hs22 => ⟨.inr (hxs 2 hs22 rfl), fin b19 p2 _ c2 H22 hs22⟩⟩
          · rw [elemD (arrP_size now)]
            have g1 := hs16.toSl 0 (l := 0) (k := 4) (fs := []) rfl rfl rfl (by simp)
            refine g1.alcE fun b35 H36 he36 hs36 => ⟨.inl he36, hs36.appR 1 rfl (hs36.rs 4 rfl) (by decide) rfl (by omega) (by omega) fun p1 c1 H38 hs38 => ⟨.inr (hxs 2 hs38 rfl), ?_⟩⟩
            exact hs38.appC 1 0 rfl rfl (arrP_size now) (arrP_one now) (by decide) rfl (by omega) (by omega) fun p2 c2 H40 hs40 => ⟨.inr (hxs 2 hs40 rfl), fin b35 p2 _ c2 H40 hs40⟩
        · rw [elemD (arrP_size now)]
          refine hs1.alcE fun b56 H57 he57 hs57 => ⟨.inl he57, hs57.alcE fun b58 H59 he59 hs59 => ⟨.inl he59, ?_⟩⟩
          have g1 := hs59.toSl 0 (l := 0) (k := 4) (fs := []) rfl rfl rfl (by simp)
          refine g1.appR 0 rfl (g1.rs 4 rfl) (by decide) rfl (by omega) (by omega) fun p1 c1 H61 hs61 => ⟨.inr (hxs 2 hs61 rfl), ?_⟩
          exact hs61.appC 0 1 rfl rfl (arrP_size now) (arrP_one now) (by decide) rfl (by omega) (by omega) fun p2 c2 H63 hs63 => ⟨.inr (hxs 2 hs63 rfl), fin b56 p2 _ c2 H63 hs63.swap⟩
      · have hd : doH ⟨now.2, past.map Prod.snd, fut.map Prod.snd⟩ e = ((doD now.2 e).1, ⟨now.2, past.map Prod.snd, fut.map Prod.snd⟩) := by unfold doH; rw [if_neg hne]
        have hr := hR H1
        simp only [HM.abs] at hr
        rw [hd] at hr
        have h2 := bkSub (l' := now :: (past ++ fut)) (hs1.tail.front 3 rfl) (fun y hy => List.mem_cons_of_mem _ hy)
        exact hr (bookIn ⟨now, P, F, past, fut⟩ rfl (h2.perm pz))
    have hedH : ∀ {H' : Heap}, Ext H H' → EdOk H' e s := fun he => ⟨hed.rd.ext he, hed.shape, hed.params⟩
    have hnx2 : now.2.next ≤ 1000000000000000 := by omega
    refine ⟨_, rfl, arrP now, arrP_size now, hist_row (hs4.block 1 rfl), _, rfl, st_row (hs4.block 0 rfl), ?_, ?_⟩
    · refine c24 (hedH he4) fun s' H82 he82 hed' => ⟨_, rfl, .inl he82, ?_, ?_⟩
      · have h82 := (hs4.step he82).front 4 rfl
        refine rdo_bk h82 List.mem_cons_self hinv hnx2 hed' fun q H85 he85 hs85 => ⟨_, _, rfl, ?_⟩
        refine hs85.alc fun b88 H89 hs89 => ⟨rfl, hs89.putAll 0 rfl (arrP_size _) (arrP_one _) fun H90 hs90 => after b88 q H90 ?_⟩
        exact (hs90.del 2).perm (List.Perm.cons _ pz)
      · refine (hs4.step he82).alcE fun b91 H92 he92 hs92 => ⟨.inl he92, ?_⟩
        refine rdo_bk (hs92.front 5 rfl) List.mem_cons_self hinv hnx2 ⟨hed'.rd.ext he92, hed'.shape, hed'.params⟩ fun q H94 he94 hs94 => ⟨_, _, rfl, rfl, ?_⟩
        refine hs94.putAll 1 rfl (arrP_size _) (arrP_one _) fun H97 hs97 => after b91 q H97 ?_
        exact (St.swap (hs97.del 2)).perm (List.Perm.cons _ pz)
    · refine hs4.alcE fun b100 H101 he101 hs101 => ⟨.inl he101, ?_⟩
      refine c24 (hedH (he4.trans he101)) fun s' H103 he103 hed' => ⟨_, rfl, .inl he103, ?_⟩
      refine rdo_bk ((hs101.step he103).front 5 rfl) List.mem_cons_self hinv hnx2 hed' fun q H106 he106 hs106 => ⟨_, _, rfl, rfl, ?_⟩
      refine hs106.putAll 1 rfl (arrP_size _) (arrP_one _) fun H109 hs109 => after b100 q H109 ?_
      exact (St.swap (hs109.del 2)).perm (List.Perm.cons _ pz)
  · have e1 : stepH ⟨now.2, past.map Prod.snd, fut.map Prod.snd⟩ k e = undoH ⟨now.2, past.map Prod.snd, fut.map Prod.snd⟩ := by unfold stepH; rw [if_neg h0, if_pos h1]
    simp only [HM.abs] at hR
    rw [e1] at hR
    refine ⟨_, rfl, P.p, P.l, P.c, hs4.get 1 rfl (j := 4) rfl, br_eq (fun hz => ?_) fun hnz => ?_⟩
    · have : past = [] := List.length_eq_zero_iff.1 (by omega)
      subst this
      exact hR H4 (bookIn ⟨now, P, F, [], fut⟩ rfl hs4.tail)
    · rcases snoc_or past with rfl | ⟨m, y, rfl⟩
      · exact absurd (by rw [hPl]; rfl) hnz
      simp only [List.map_append, List.map_cons, List.map_nil, undo_snoc] at hR
      have hw : IntKind.wrap .i64 ((P.l : Int) - 1) = (m.length : Nat) := by rw [List.length_append, List.length_singleton] at hPl hlen; rw [wrap_id (by omega) (by omega)]; omega
      intro J115 hJ115
      have h5 : St H0 H4 (.cell bb (hA true now P F) 41 :: .sl P.p P.l P.c 33 4 (cellsP (m ++ [y])) :: .sl F.p F.l F.c 33 4 (cellsP fut) :: bkRs (now :: ((m ++ [y]) ++ fut)) :: σ) := hs4.tail
      refine put_more (u := true) (J := fun H' => J115 [] H') h5 (by omega) fun Q H' hs6 => hJ115 _ (take_back (u := true) hw hs6 fun P' H2 hs7 => hR H2 ?_)
      refine bookIn ⟨y, P', Q, m, fut ++ [now]⟩ (by simp [HM.abs]) ?_
      have h8 := bkSub (l' := y :: (m ++ (fut ++ [now]))) (hs7.front 3 rfl) (fun z hz => by
        simp only [List.mem_cons, List.mem_append, List.not_mem_nil, or_false] at hz ⊢
        rcases hz with h | h | h | h <;> simp [h])
      exact h8.perm pz
  · have e1 : stepH ⟨now.2, past.map Prod.snd, fut.map Prod.snd⟩ k e = redoH ⟨now.2, past.map Prod.snd, fut.map Prod.snd⟩ := by unfold stepH; rw [if_neg h0, if_neg h1, if_pos h2]
    simp only [HM.abs] at hR
    rw [e1] at hR
    refine ⟨_, rfl, F.p, F.l, F.c, hs4.get 1 rfl (j := 5) rfl, br_eq (fun hz => ?_) fun hnz => ?_⟩
    · have : fut = [] := List.length_eq_zero_iff.1 (by omega)
      subst this
      exact hR H4 (bookIn ⟨now, P, F, past, []⟩ rfl hs4.tail)
    · rcases snoc_or fut with rfl | ⟨m, y, rfl⟩
      · exact absurd (by rw [hFl]; rfl) hnz
      simp only [List.map_append, List.map_cons, List.map_nil, redo_snoc] at hR
      have hw : IntKind.wrap .i64 ((F.l : Int) - 1) = (m.length : Nat) := by rw [List.length_append, List.length_singleton] at hFl hlen; rw [wrap_id (by omega) (by omega)]; omega
      intro J167 hJ167
      have h5 : St H0 H4 (.cell bb (hA false now F P) 41 :: .sl F.p F.l F.c 33 4 (cellsP (m ++ [y])) :: .sl P.p P.l P.c 33 4 (cellsP past) :: bkRs (now :: (past ++ (m ++ [y]))) :: σ) := hs4.tail.perm (List.Perm.cons _ (List.Perm.swap _ _ _))
      refine put_more (u := false) (J := fun H' => J167 [] H') h5 (by omega) fun Q H' hs6 => hJ167 _ (take_back (u := false) hw hs6 fun P' H2 hs7 => hR H2 ?_)
      refine bookIn ⟨y, Q, P', past ++ [now], m⟩ (by simp [HM.abs]) ?_
      have h8 := bkSub (l' := y :: ((past ++ [now]) ++ m)) (hs7.front 3 rfl) (fun z hz => by
        simp only [List.mem_cons, List.mem_append, List.not_mem_nil, or_false] at hz ⊢
        rcases hz with h | (h | h) | h <;> simp [h])
      exact h8.perm ((permC (a := [_, _, _, _]) (b := [_, _, _, _]) fun _ y => by simp only [List.count_cons, List.count_nil]; ac_rfl).append_right σ)
  · have e1 : stepH ⟨now.2, past.map Prod.snd, fut.map Prod.snd⟩ k e = (0, ⟨now.2, past.map Prod.snd, fut.map Prod.snd⟩) := by unfold stepH; rw [if_neg h0, if_neg h1, if_neg h2]
    simp only [HM.abs] at hR
    rw [e1] at hR
    exact hR H4 (bookIn ⟨now, P, F, past, fut⟩ rfl hs4.tail)
end Go.Proofs
namespace Go.Proofs
open Go.Sh
variable {H0 H : Heap} {σ : List Rs} {R : Value → Heap → Prop}
theorem like_rd {A : Array Value} {D : DocL} {x : PD} {rs : List RT} (ha : DocR H A D) (hD : Inv D) (hx : x.2 = D) (hrd : RD H x.1 rs) (hr : Rel x.2.ks (rwS rs)) (hR : ∀ H', Ext H H' → R (.bool true) H') : CallsH Tryz.prog 17 #[.agg A, .agg (arrP x)] H R := by
 refine c17 ha hD.okM hrd (Rel.okM (hx ▸ hD) hr) fun H' he => ?_
 have := (likeD_iff hr (hx ▸ hD : Inv x.2).ids' (D := D)).2 hx.symm
 rw [this]
 exact hR H' he
structure BkR (H : Heap) (bb : Nat) (m : HM) : Prop where
 cell : H[bb]? = some (.cells (histA m.now m.P m.F) 41)
 past : RS H m.P.p m.P.l 33 4 (cellsP m.past)
 fut : RS H m.F.p m.F.l 33 4 (cellsP m.fut)
 doc : ∀ x, x = m.now ∨ x ∈ m.past ∨ x ∈ m.fut → ∃ rs, RD H x.1 rs ∧ Rel x.2.ks (rwS rs)
theorem BkR.ext {H H' : Heap} {bb : Nat} {m : HM} (h : BkR H bb m) (he : Ext H H') : BkR H' bb m := ⟨he _ _ h.cell, h.past.ext he, h.fut.ext he, fun x hx => let ⟨rs, h1, h2⟩ := h.doc x hx; ⟨rs, h1.ext he, h2⟩⟩
theorem bkR_of {bb : Nat} {m : HM} (hs : St H0 H (m.book bb ++ σ)) : BkR H bb m :=
 ⟨hs.block 0 rfl, hs.rs 1 rfl, hs.rs 2 rfl, fun x hx => bkGet hs 3 rfl (by simp only [List.mem_cons, List.mem_append]; exact hx)⟩
theorem rowE {P : Sl3} {el : TypeId} {l : List PD} {i : Nat} {x : PD} (h : RS H P.p P.l el 4 (cellsP l)) (hx : l[i]? = some x) : ∃ a, P.p = some a ∧ rowIn H (a.add (i * 4)) (arrP x) := by
 have hi := (List.getElem?_eq_some_iff.1 hx).1
 have hl : P.l = l.length := by have := h.len; rw [cellsP_len] at this; omega
 obtain ⟨blk, h1, h2⟩ := h.row (i := i) (by omega) (by decide) (xs := arrP x) fun j v hv => cellsP_get hx hv
 refine ⟨_, h1, ?_⟩
 rw [add_none, Nat.zero_add]
 exact h2
theorem map_at {l l' : List PD} (h : l.map Prod.snd = l'.map Prod.snd) {i : Nat} {x : PD} (hx : l[i]? = some x) : ∃ y, l'[i]? = some y ∧ y.2 = x.2 := by
 have h1 : (l.map Prod.snd)[i]? = some x.2 := by rw [List.getElem?_map, hx]; rfl
 rw [h, List.getElem?_map] at h1
 cases hy : l'[i]? with
 | none => rw [hy] at h1; cases h1
 | some y => rw [hy] at h1; exact ⟨y, rfl, Option.some.inj h1⟩
theorem like_state {bb n : Nat} {h : HL} {K P F : Sl3} (hs : St H0 H σ) (i j : Nat) (h0 : σ[i]? = some (docRs (arrP (K, h.now)) h.now)) (h1 : σ[i + 1]? = some (docsRs P h.past)) (h2 : σ[i + 2]? = some (docsRs F h.fut)) (hb : σ[j]? = some (bookRs bb h)) (hk : HOk n h) (hn : n ≤ 1000000)
    (hR : ∀ H', Ext H H' → R (.bool true) H') : CallsH Tryz.prog 16 #[.pointer (some ⟨bb, 0, none⟩), .agg (histA (K, h.now) P F)] H R := by
  obtain ⟨lp, hlp, hp⟩ := hs.docs (i + 1) h1
  obtain ⟨lf, hlf, hf⟩ := hs.docs (i + 2) h2
  have hd := hs.doc i h0
  obtain ⟨m, rfl, hm⟩ := bookOut (hs.front j hb)
  have hbk := bkR_of hm
  have hPl := hp.len
  have hFl := hf.len
  have hmPl : m.P.l = m.past.length := by have := hbk.past.len; rw [cellsP_len] at this; omega
  have hmFl : m.F.l = m.fut.length := by have := hbk.fut.len; rw [cellsP_len] at this; omega
  have hlp : lp.map Prod.snd = m.past.map Prod.snd := hlp
  have hlf : lf.map Prod.snd = m.fut.map Prod.snd := hlf
  have hll : lp.length = m.past.length := by have := congrArg List.length hlp; simpa using this
  have hfl : lf.length = m.fut.length := by have := congrArg List.length hlf; simpa using this
  have hlen := hk.len
  have hlen : (m.past.map Prod.snd).length + (m.fut.map Prod.snd).length ≤ n := hlen
  rw [List.length_map, List.length_map] at hlen
  refine Tryz.s16 ?_
  unfold Tryz.S16
  refine (St.nil H).alc fun b3 H4 hs4 => ?_
  intro J5 hJ5
  have he4 := hs4.ext
  have hbk4 := hbk.ext he4
  obtain ⟨rs, hrd, hrel⟩ := hbk4.doc m.now (.inl rfl)
  refine ⟨arrP (K, m.now.2), arrP_size _, hist_row (hs4.block 0 rfl), _, rfl, arrP m.now, arrP_size _, hist_row hbk4.cell, ?_⟩
  refine like_rd (D := m.now.2) (hd.ext he4) hk.now.1 rfl hrd hrel fun H45 he45 => ⟨_, rfl, br_f rfl ?_⟩
  have hs45 := hs4.step he45
  have hbk45 := hbk4.ext he45
  have cP : ∀ {H1 : Heap}, BkR H1 bb m → Sh.cell H1 (Addr.add ⟨bb, 0, none⟩ 4) = some (.slice m.P.p m.P.l m.P.c) := fun hb => by rw [add_none]; exact cell_get hb.cell rfl
  have cF : ∀ {H1 : Heap}, BkR H1 bb m → Sh.cell H1 (Addr.add ⟨bb, 0, none⟩ 5) = some (.slice m.F.p m.F.l m.F.c) := fun hb => by rw [add_none]; exact cell_get hb.cell rfl
  refine ⟨P.p, P.l, P.c, hs45.get 0 rfl (j := 4) rfl, _, rfl, m.P.p, m.P.l, m.P.c, cP hbk45, br_ne (fun hne => absurd (by omega) hne) fun _ => ⟨F.p, F.l, F.c, hs45.get 0 rfl (j := 5) rfl, _, rfl, m.F.p, m.F.l, m.F.c, cF hbk45, br_ne (fun hne => absurd (by omega) hne) fun _ => hJ5 _ ?_⟩⟩
  refine ⟨P.p, P.l, P.c, hs45.get 0 rfl (j := 4) rfl, ?_⟩
  intro X8 hX8
  have goP : ∀ k, k ≤ lp.length → ∀ H1, St H H1 [.cell b3 (histA (K, m.now.2) P F) 55] → X8 [.int .i64 (k : Nat)] H1 := by
    refine upto fun k hk1 ih H1 hs1 => hX8 _ _ (br_dec (fun hlt => ?_) fun hge => ?_)
    · have hk' : k < lp.length := by omega
      have hx := List.getElem?_eq_getElem hk'
      generalize lp[k] = x at hx
      obtain ⟨y, hy, hyx⟩ := map_at hlp hx
      obtain ⟨a, ha, hrow, hdk⟩ := (hp.ext hs1.ext).row hx
      refine ⟨a, ha, by omega, hlt, arrP x, arrP_size x, by rw [Int.toNat_natCast]; exact hrow, hs1.alc fun b13 H14 hs14 => ⟨arrP_size x, hs14.putAll 0 rfl (arrP_size x) (arrP_one x) fun H15 hs15 => ?_⟩⟩
      have hb15 := hbk.ext hs15.ext
      obtain ⟨a2, ha2, hrow2⟩ := rowE hb15.past hy
      obtain ⟨rs, hrd, hrel⟩ := hb15.doc y (.inr (.inl (List.mem_of_getElem? hy)))
      refine ⟨_, arrP_size x, rowIn_whole (hs15.block 0 rfl), _, rfl, m.P.p, m.P.l, m.P.c, cP hb15, a2, ha2, by omega, by omega, arrP y, arrP_size y, by rw [Int.toNat_natCast]; exact hrow2, ?_⟩
      have hdx : DocR H15 (arrP x) x.2 := DocK.ext (hp.doc x (List.mem_of_getElem? hx)) hs15.ext
      refine like_rd hdx (hk.inv x.2 (.inr (.inl (by show x.2 ∈ m.past.map Prod.snd; rw [← hlp]; exact List.mem_map_of_mem (List.mem_of_getElem? hx))))).1 hyx hrd hrel fun H22 he22 => ⟨_, rfl, br_f rfl ?_⟩
      rw [wrap_id (by omega) (by omega)]
      exact ih hk' H22 (hs15.step he22).tail
    · refine ⟨F.p, F.l, F.c, hs1.get 0 rfl (j := 5) rfl, ?_⟩
      intro X25 hX25
      have goF : ∀ k, k ≤ lf.length → ∀ H1, St H H1 [.cell b3 (histA (K, m.now.2) P F) 55] → X25 [.int .i64 (k : Nat)] H1 := by
        refine upto fun k hk1 ih H1 hs1 => hX25 _ _ (br_dec (fun hlt => ?_) fun hge => ?_)
        · have hk' : k < lf.length := by omega
          have hx := List.getElem?_eq_getElem hk'
          generalize lf[k] = x at hx
          obtain ⟨y, hy, hyx⟩ := map_at hlf hx
          obtain ⟨a, ha, hrow, hdk⟩ := (hf.ext hs1.ext).row hx
          refine ⟨a, ha, by omega, hlt, arrP x, arrP_size x, by rw [Int.toNat_natCast]; exact hrow, hs1.alc fun b13 H14 hs14 => ⟨arrP_size x, hs14.putAll 0 rfl (arrP_size x) (arrP_one x) fun H15 hs15 => ?_⟩⟩
          have hb15 := hbk.ext hs15.ext
          obtain ⟨a2, ha2, hrow2⟩ := rowE hb15.fut hy
          obtain ⟨rs, hrd, hrel⟩ := hb15.doc y (.inr (.inr (List.mem_of_getElem? hy)))
          refine ⟨_, arrP_size x, rowIn_whole (hs15.block 0 rfl), _, rfl, m.F.p, m.F.l, m.F.c, cF hb15, a2, ha2, by omega, by omega, arrP y, arrP_size y, by rw [Int.toNat_natCast]; exact hrow2, ?_⟩
          have hdx : DocR H15 (arrP x) x.2 := DocK.ext (hf.doc x (List.mem_of_getElem? hx)) hs15.ext
          refine like_rd hdx (hk.inv x.2 (.inr (.inr (by show x.2 ∈ m.fut.map Prod.snd; rw [← hlf]; exact List.mem_map_of_mem (List.mem_of_getElem? hx))))).1 hyx hrd hrel fun H22 he22 => ⟨_, rfl, br_f rfl ?_⟩
          rw [wrap_id (by omega) (by omega)]
          exact ih hk' H22 (hs15.step he22).tail
        · exact hR H1 hs1.ext
      exact goF 0 (Nat.zero_le _) H1 hs1
  exact goP 0 (Nat.zero_le _) H45 hs45
end Go.Proofs
namespace Go.Proofs
open Go.Sh
variable {H0 H : Heap} {σ : List Rs} {R : Value → Heap → Prop}
abbrev Sp7 (bd : Nat) (J : Heap → Prop) (H : Heap) : Prop :=
 ∃ p l c, Sh.cell H (Addr.add ⟨bd, 0, none⟩ 3) = some (.slice p l c) ∧ ∀ X85 : List Value → Heap → Prop, (∀ (i86 : Int) H87, (br (decide (i86 < ((l : Nat) : Int)))
  (∃ p l c, Sh.cell H87 (Addr.add ⟨bd, 0, none⟩ 3) = some (.slice p l c) ∧ ∃ a89 : Addr, p = some a89 ∧ 0 ≤ i86 ∧ i86 < ((l : Nat) : Int) ∧ stAt H87 (.add (.add a89 (Int.toNat i86 * 19)) 0) [.int .i64 (-7)] fun H90 => ∃ p l c, Sh.cell H90 (Addr.add ⟨bd, 0, none⟩ 3) = some (.slice p l c) ∧ ∃ a92 : Addr, p = some a92 ∧ 0 ≤ i86 ∧ i86 < ((l : Nat) : Int) ∧ ∃ p93 l93 c93, Sh.cell H90 (.add (.add a92 (Int.toNat i86 * 19)) 7) = some (.slice p93 l93 c93) ∧ ∀ X94 : List Value → Heap → Prop, (∀ (k95 : Int) H96, (br (decide (k95 < ((l93 : Nat) : Int)))
   (∃ p l c, Sh.cell H96 (Addr.add ⟨bd, 0, none⟩ 3) = some (.slice p l c) ∧ ∃ a98 : Addr, p = some a98 ∧ 0 ≤ i86 ∧ i86 < ((l : Nat) : Int) ∧ ∃ p99 l99 c99, Sh.cell H96 (.add (.add a98 (Int.toNat i86 * 19)) 7) = some (.slice p99 l99 c99) ∧ ∃ a100 : Addr, p99 = some a100 ∧ 0 ≤ k95 ∧ k95 < ((l99 : Nat) : Int) ∧ stAt H96 (.add a100 (Int.toNat k95 * 1)) [.int .i64 (-7)] fun H101 => X94 [.int .i64 (IntKind.wrap .i64 (k95 + 1))] H101)
   (X85 [.int .i64 (IntKind.wrap .i64 (i86 + 1))] H96)) → X94 [.int .i64 k95] H96) → X94 [.int .i64 0] H90)
  (J H87)) → X85 [.int .i64 i86] H87) → X85 [.int .i64 0] H
theorem spoil7 {A : Array Value} {D : DocL} {bd : Nat} {J : Heap → Prop} (hi : Inv D) (hs : St H0 H (docRs A D :: .cell bd A 27 :: σ)) (hJ : ∀ H', St H0 H' (.cell bd A 27 :: σ) → J H') : Sp7 bd J H := by
 obtain ⟨K, ks, rfl, hlk, hs0⟩ := St_docOut hs
 have hcnt : ks.length ≤ 1000000000 := by have h1 := len_cnt D.ks; have := hi.cnt; rw [← hlk, layKs_len] at h1; rw [← hlk] at this; omega
 have hokl := hi.ok
 rw [← hlk] at hokl
 have hKl : K.l = ks.length := hs0.grp.1.1
 have hs1 := (hs0.perm (List.perm_middle (l₁ := resG K ks)))
 refine ⟨K.p, K.l, K.c, hs1.get 0 rfl (j := 3) rfl, ?_⟩
 intro X85 hX85
 have go : ∀ i, i ≤ ks.length → ∀ (pre : List T) H1, pre.length = i → St H0 H1 (resG K (pre ++ ks.drop i) ++ (.cell bd (docA D.w D.h D.next K) 27 :: σ)) → X85 [.int .i64 (i : Nat)] H1 := by
  refine upto fun i hi ihi pre H1 hpl hs1 => hX85 _ _ (br_dec (fun hlt => ?_) fun hge => hJ H1 hs1.app.2)
  have hi' : i < ks.length := by omega
  have ht := List.getElem?_eq_getElem hi'
  rw [List.drop_eq_getElem_cons hi'] at hs1
  generalize ks[i] = t at ht hs1
  have hot := okKs_iff.1 hokl _ (List.mem_of_getElem? (layKs_get ht))
  cases t with | mk f P M A K2 ks2 =>
  obtain ⟨o1, o2, o3, o4, o5⟩ := hot
  generalize hpost : ks.drop (i + 1) = post at hs1
  have hA : (cellsKs pre).length = i * 19 := by rw [cellsKs_len, hpl]
  have hop : ∀ {Hx : Heap} {f' : LayF} {σ' : List Rs}, St H0 Hx (openR ⟨K, pre, f', P, M, A, post⟩ [] K2 ks2 ++ σ') → St H0 Hx (resG K (pre ++ .mk f' P M A K2 ks2 :: post) ++ σ') := fun h => h.closed
  have hs1 : St H0 H1 (openR ⟨K, pre, f, P, M, A, post⟩ [] K2 ks2 ++ (.cell bd (docA D.w D.h D.next K) 27 :: σ)) := hs1.opened rfl
  obtain ⟨a, ha⟩ := hs1.elAd 0 (n := i) (A := cellsKs pre) (cs := (⟨K, pre, f, P, M, A, post⟩ : Fr).cells K2) (B := cellsKs post) rfl rfl
  obtain ⟨a5, hp5, rfl⟩ : ∃ a5, K.p = some a5 ∧ a5.add (i * 19) = a := by
   cases hk : K.p with
   | none => rw [hk] at ha; cases ha
   | some a5 => rw [hk] at ha; exact ⟨a5, rfl, Option.some.inj ha⟩
  have rd : ∀ {Hx : Heap} {f' : LayF} {σ' : List Rs} (hx : St H0 Hx (openR ⟨K, pre, f', P, M, A, post⟩ [] K2 ks2 ++ σ')) {j : Nat} {v : Value}, (cellsL f' P.v M.v A.v K2.v)[j]? = some v → Sh.cell Hx ((a5.add (i * 19)).add j) = some v := by
   intro Hx f' σ' hx j v hv
   exact hx.elCell 0 (A := cellsKs pre) (B := cellsKs post) (cs := cellsL f' P.v M.v A.v K2.v) rfl hA hv ha
  have kid : ∀ {Hx : Heap} {f' : LayF}, St H0 Hx (openR ⟨K, pre, f', P, M, A, post⟩ [] K2 ks2 ++ (.cell bd (docA D.w D.h D.next K) 27 :: σ)) → Sh.cell Hx (Addr.add ⟨bd, 0, none⟩ 3) = some (.slice K.p K.l K.c) := fun hx => (hx.perm List.perm_middle).get 0 rfl (j := 3) rfl
  refine ⟨K.p, K.l, K.c, kid hs1, a5, hp5, by omega, hlt, ?_⟩
  rw [Int.toNat_natCast]
  refine hs1.elPut 0 (A := cellsKs pre) (B := cellsKs post) (cs := (⟨K, pre, f, P, M, A, post⟩ : Fr).cells K2) rfl hA (j := 0) (by show 0 < 19; decide) rfl ha fun H90 hs90 => ?_
  have hs90 : St H0 H90 (openR ⟨K, pre, { f with id := -7 }, P, M, A, post⟩ [] K2 ks2 ++ (.cell bd (docA D.w D.h D.next K) 27 :: σ)) := hs90
  refine ⟨K.p, K.l, K.c, kid hs90, a5, hp5, by omega, hlt, P.p, P.l, P.c, rd hs90 rfl, ?_⟩
  have hPl : P.l = f.p.length := by have := (hs1.fs 1 rfl).len; rw [ints_len] at this; have this : f.p.length = P.l * 1 := this; omega
  intro X94 hX94
  have goP : ∀ k, k ≤ P.l → ∀ (f' : LayF) Hx, f'.p.length = P.l → St H0 Hx (openR ⟨K, pre, f', P, M, A, post⟩ [] K2 ks2 ++ (.cell bd (docA D.w D.h D.next K) 27 :: σ)) → X94 [.int .i64 (k : Nat)] Hx := by
   refine upto fun k hk ihk f' Hx q1 hx => hX94 _ _ (br_dec (fun hlt2 => ?_) fun hge => ?_)
   ·have hk' : k < f'.p.length := by omega
    obtain ⟨b, hb⟩ := hx.slSome 1 (j := k) rfl (by rw [ints_len]; exact hk')
    refine ⟨K.p, K.l, K.c, kid hx, a5, hp5, by omega, hlt, P.p, P.l, P.c, rd hx rfl, ⟨b, 0, none⟩, hb, by omega, hlt2, ?_⟩
    rw [show Int.toNat (k : Int) * 1 = k from Nat.mul_one k, add_none, Nat.zero_add]
    have hx1 : (openR ⟨K, pre, f', P, M, A, post⟩ [] K2 ks2 ++ (.cell bd (docA D.w D.h D.next K) 27 :: σ))[1]? = some (.sl (some ⟨b, 0, none⟩) P.l P.c 3 1 (ints f'.p)) := by rw [← hb]; rfl
    refine hx.slPut 1 hx1 (by rw [ints_len]; exact hk') rfl fun Hy hy => ?_
    rw [ints_set] at hy
    rw [wrap_id (by omega) (by omega)]
    refine ihk (by omega) { f' with p := f'.p.set k (-7) } Hy (by rw [List.length_set]; exact q1) ?_
    rw [← hb] at hy
    exact hy
   ·rw [wrap_id (by omega) (by omega)]
    refine ihi hi' (pre ++ [.mk f' P M A K2 ks2]) Hx (by rw [List.length_append]; simp [hpl]) ?_
    have := hop hx
    rw [List.append_assoc, hpost]
    exact this
  exact goP 0 (by omega) { f with id := -7 } H90 hPl.symm hs90
 exact go 0 (by omega) [] H rfl (hs1.perm List.perm_middle.symm)
theorem spoil_list {Q : Sl3} {l : List PD} {J : Heap → Prop} (hi : ∀ x ∈ l, Inv x.2) (hlen : l.length ≤ 1000000) (hs : St H0 H ((.sl Q.p Q.l Q.c 27 4 (cellsP l) :: l.map fun x => docRs (arrP x) x.2) ++ σ)) (hJ : ∀ H', St H0 H' (.sl Q.p Q.l Q.c 27 4 (cellsP l) :: σ) → J H') :
    ∀ X76 : List Value → Heap → Prop, (∀ (t77 : Int) H78, (br (decide (t77 < ((Q.l : Nat) : Int)))
      (∃ a79 : Addr, Q.p = some a79 ∧ 0 ≤ t77 ∧ t77 < ((Q.l : Nat) : Int) ∧ ∃ v80 : Array Value, v80.size = 4 ∧ rowIn H78 (.add a79 (Int.toNat t77 * 4)) v80 ∧ alc H78 (.cells #[.int .i64 0, .int .i64 0, .int .i64 0, .slice none 0 0] 27) fun b81 H82 => v80.size = 4 ∧ stAt H82 ⟨b81, 0, none⟩ v80.toList fun H83 => Sp7 b81 (fun H87 => X76 [.int .i64 (IntKind.wrap .i64 (t77 + 1))] H87) H83)
      (J H78)) → X76 [.int .i64 t77] H78) → X76 [.int .i64 0] H := by
  have hQl : Q.l = l.length := by have := (hs.rs 0 rfl).len; rw [cellsP_len] at this; omega
  intro X76 hX76
  have go : ∀ k, k ≤ l.length → ∀ H1, St H0 H1 ((.sl Q.p Q.l Q.c 27 4 (cellsP l) :: (l.drop k).map fun x => docRs (arrP x) x.2) ++ σ) → X76 [.int .i64 (k : Nat)] H1 := by
    refine upto fun k hk ih H1 hs1 => hX76 _ _ (br_dec (fun hlt => ?_) fun hge => ?_)
    · have hk' : k < l.length := by omega
      have hx := List.getElem?_eq_getElem hk'
      rw [List.drop_eq_getElem_cons hk'] at hs1
      generalize l[k] = x at hx hs1
      obtain ⟨a, ha, hrow⟩ := pds_row (hs1.rs 0 rfl) hx
      refine ⟨a, ha, by omega, hlt, arrP x, arrP_size x, by rw [Int.toNat_natCast]; exact hrow, hs1.alc fun b81 H82 hs82 => ⟨arrP_size x, hs82.putAll 0 rfl (arrP_size x) (arrP_one x) fun H83 hs83 => ?_⟩⟩
      have h83 : St H0 H83 (docRs (arrP x) x.2 :: .cell b81 (arrP x) 27 :: .sl Q.p Q.l Q.c 27 4 (cellsP l) :: (((l.drop (k + 1)).map fun x => docRs (arrP x) x.2) ++ σ)) := hs83.front 2 rfl
      refine spoil7 (hi x (List.mem_of_getElem? hx)) h83 fun H' hs' => ?_
      rw [wrap_id (by omega) (by omega)]
      exact ih hk' H' hs'.tail
    · obtain rfl : k = l.length := by omega
      rw [List.drop_length] at hs1
      exact hJ H1 hs1
  exact go 0 (Nat.zero_le _) H hs
end Go.Proofs
namespace Go.Proofs
open Go.Sh
variable {H0 H : Heap} {σ : List Rs} {R : Value → Heap → Prop}
theorem histown_law {p : Option Addr} {l c : Nat} {ss : List SE} (hss : StepsR H p l ss) (hl : ss.length ≤ 9223372036854775807) (hR : ∀ H', Ext H H' → R (.bool true) H') : CallsH Tryz.prog 3 #[.slice p l c] H R := by
 refine Tryz.s3 ?_
 unfold Tryz.S3
 refine c5 fun H3 he3 => ⟨_, rfl, br_f rfl ?_⟩
 have hssl := hss.len
 refine c6 (hss.ext he3) hl fun H6 he6 => ⟨_, rfl, br_not (fun _ => hR _ (he3.trans he6)) fun hsm => ?_⟩
 obtain ⟨hmost, hok⟩ := smallSs_ok hsm
 refine c7 (fun hsz H9 he9 => ⟨_, _, rfl, ?_⟩) fun h => absurd h (by decide)
 refine (St.of_ext ((he3.trans he6).trans he9)).alc fun b12 H13 hs13 => ⟨rfl, hs13.putAll 0 rfl rfl (docA_one 5 5 1 .nil) fun H14 hs14 => ?_⟩
 refine c8 (fun _ H16 he16 => ⟨_, _, rfl, ?_⟩) fun h => absurd h (by decide)
 refine (hs14.step he16).alc fun b19 H20 hs20 => ⟨rfl, hs20.putAll 0 rfl rfl (docA_one 5 5 1 .nil) fun H21 hs21 => ⟨_, rfl, rowIn_whole (hs21.block 1 rfl), ?_⟩⟩
 refine c9 (D := ⟨5, 5, 1, []⟩) hs21 (DocR.new H21 5 5) (new_inv hsz) fun hb H24 hs24 => ⟨_, rfl, br_f rfl ⟨_, rfl, rowIn_whole (hs24.block 1 rfl), rfl, by decide, ?_⟩⟩
 refine hs24.alc fun b27 H28 hs28 => ?_
 intro X29 hX29
 have go : ∀ i, i ≤ ss.length → ∀ (g : HL) (H1 : Heap), HOk i g → St H H1 [histRs hb g, bookRs b27 g] → X29 [.int .i64 (i : Nat)] H1 := by
  refine upto fun i hi ih g H1 hk hs1 => hX29 _ _ (br_dec (fun hlt => ?_) fun hge => ?_)
  ·have hi' : i < ss.length := by omega
   have hx := List.getElem?_eq_getElem hi'
   generalize ss[i] = x at hx
   obtain ⟨k, e, s⟩ := x
   obtain ⟨a, hp, hrow, hed⟩ := steps_ok (hss.ext hs1.ext) hok hx
   have hedH : ∀ {H' : Heap}, Ext H H' → EdOk H' e s := fun he => let ⟨_, _, _, h3⟩ := steps_ok (hss.ext he) hok hx; h3
   intro J32 hJ32
   refine ⟨a, hp, by omega, hlt, _, rfl, hrow, hs1.alc fun b36 H37 hs37 => ⟨rfl, hs37.putAll 0 rfl rfl (stL_one k e s) fun H38 hs38 => ⟨_, rfl, rowIn_whole (hs38.block 0 rfl), ?_⟩⟩⟩
   refine c10 (hs38.front 2 rfl) hk (by omega) (hedH hs38.ext) fun H41 hs41 => ⟨_, rfl, ?_⟩
   have h41 : St H H41 [histRs hb g, bookRs b27 (stepH g k e).2, .cell b36 (stL k e s).toArray 49] := hs41.front 2 rfl
   have hk1 := hk.stepH k e
   generalize hg : (stepH g k e).2 = g2 at h41 hk1
   have after : ∀ (H1 : Heap), St H H1 [histRs hb g2, bookRs b27 g2] → J32 [] H1 := fun H1 hs1 => by
    refine hJ32 _ ?_
    rw [wrap_id (by omega) (by omega)]
    exact ih hi' g2 H1 hk1 hs1
   refine ⟨k, h41.get 2 rfl (j := 0) rfl, br_eq (fun h0 => ⟨_, rfl, st_row (h41.block 2 rfl), ?_⟩) fun h0 => br_eq (fun h1 => ?_) fun h1 => br_eq (fun h2 => ?_) fun h2 => ?_⟩
   ·rw [stepH0 h0] at hg
    refine c11 h41 hk (by omega) (hedH h41.ext) fun H65 hs65 => ⟨_, rfl, after H65 ?_⟩
    rw [hg] at hs65
    exact hs65.take 2
   ·rw [show stepH g k e = undoH g from by unfold stepH; rw [if_neg h0, if_pos h1]] at hg
    refine c12 h41 hk (by omega) fun H65 hs65 => ⟨_, rfl, after H65 ?_⟩
    rw [hg] at hs65
    exact hs65.take 2
   ·rw [show stepH g k e = redoH g from by unfold stepH; rw [if_neg h0, if_neg h1, if_pos h2]] at hg
    refine c13 h41 hk (by omega) fun H65 hs65 => ⟨_, rfl, after H65 ?_⟩
    rw [hg] at hs65
    exact hs65.take 2
   ·rw [show stepH g k e = (0, g) from by unfold stepH; rw [if_neg h0, if_neg h1, if_neg h2]] at hg
    have hg : g = g2 := hg
    subst hg
    exact after H41 (h41.take 2)
  ·have hlenk := hk.len
   have hip : ∀ d ∈ g.past, Inv d := fun d hd => (hk.inv d (.inr (.inl hd))).1
   have hif : ∀ d ∈ g.fut, Inv d := fun d hd => (hk.inv d (.inr (.inr hd))).1
   refine c14 hs1 hk (by omega) fun K' P' F' H55 hP' hF' hs55 => ⟨_, rfl, hs55.alc fun b57 H58 hs58 => ⟨rfl, hs58.putAll 0 rfl rfl (histA_one _ _ _) fun H59 hs59 => ⟨_, rfl, rowIn_whole (hs59.block 0 rfl), ?_⟩⟩⟩
   refine restore_st hs59 1 rfl rfl rfl hk (by omega) fun yb H62 hs62 => ⟨_, rfl, br_f rfl ⟨_, arrP_size (K', g.now), hist_row (hs62.block 1 rfl), arrP_size (K', g.now), by decide, ?_⟩⟩
   rw [elemD (arrP_size (K', g.now))]
   refine hs62.alc fun b65 H66 hs66 => ⟨P'.p, P'.l, P'.c, hs66.get 2 rfl (j := 4) rfl, F'.p, F'.l, F'.c, hs66.get 2 rfl (j := 5) rfl, hs66.alc fun b69 H70 hs70 => ?_⟩
   have h70 : St H H70 [.cell b69 #[.slice (some ⟨b65, 0, none⟩) 1 1, P'.v, F'.v] 53, .cell b65 (arrP (K', g.now)) 27, histRs yb g, .cell b57 (histA (K', g.now) P' F') 55, docRs (arrP (K', g.now)) g.now, docsRs P' g.past, docsRs F' g.fut, histRs hb g, bookRs b27 g] := hs70
   have e1 : cellsP [(K', g.now)] = (arrP (K', g.now)).toList := cellsP_one _
   have h71 : St H H70 [.cell b69 #[.slice (some ⟨b65, 0, none⟩) 1 1, P'.v, F'.v] 53, .sl (some ⟨b65, 0, none⟩) 1 1 27 4 (cellsP [(K', g.now)]), histRs yb g, .cell b57 (histA (K', g.now) P' F') 55, docRs (arrP (K', g.now)) g.now, docsRs P' g.past, docsRs F' g.fut, histRs hb g, bookRs b27 g] := h70.toSl 1 rfl rfl e1.symm (by rw [e1]; exact arrP_one _)
   intro X71 hX71
   have rd : ∀ {H1 : Heap} {σ' : List Rs} (q : Nat), St H H1 σ' → σ'[q]? = some (.cell b57 (histA (K', g.now) P' F') 55) → Sh.cell H1 (Addr.add ⟨b57, 0, none⟩ 4) = some (.slice P'.p P'.l P'.c) := fun q h hi => by
    rw [add_none]; exact h.get q hi rfl
   have step3 : ∀ (lp : List PD) H1, lp.length = P'.l → St H H1 [.sl P'.p P'.l P'.c 27 4 (cellsP lp), .cell b69 #[.slice (some ⟨b65, 0, none⟩) 1 1, P'.v, F'.v] 53, .cell b57 (histA (K', g.now) P' F') 55, histRs yb g, histRs hb g, bookRs b27 g] → X71 [.int .i64 3] H1 := fun lp H1 hlp hs1 => by
    refine hX71 _ _ (br_n (by decide) ⟨P'.p, P'.l, P'.c, rd 2 hs1 rfl, ?_⟩)
    intro X103 hX103
    have zero : ∀ k, k ≤ P'.l → ∀ (fs : List Value) H1, fs.length = P'.l * 4 → St H H1 [.sl P'.p P'.l P'.c 27 4 fs, .cell b69 #[.slice (some ⟨b65, 0, none⟩) 1 1, P'.v, F'.v] 53, .cell b57 (histA (K', g.now) P' F') 55, histRs yb g, histRs hb g, bookRs b27 g] → X103 [.int .i64 (k : Nat)] H1 := by
     refine upto fun k hkl ihk fs H1 hfs hs1 => hX103 _ _ (br_dec (fun hlt => ?_) fun hge => ?_)
     ·have hk' : k < P'.l := by omega
      obtain ⟨b, hbp⟩ := hs1.slSome 0 (j := 0) rfl (by omega)
      refine ⟨P'.p, P'.l, P'.c, rd 2 hs1 rfl, ⟨b, 0, none⟩, hbp, by omega, hlt, rfl, ?_⟩
      rw [Int.toNat_natCast, add_none, Nat.zero_add]
      have hx1 : [Rs.sl P'.p P'.l P'.c 27 4 fs, .cell b69 #[.slice (some ⟨b65, 0, none⟩) 1 1, P'.v, F'.v] 53, .cell b57 (histA (K', g.now) P' F') 55, histRs yb g, histRs hb g, bookRs b27 g][0]? = some (.sl (some ⟨b, 0, none⟩) P'.l P'.c 27 4 fs) := by rw [← hbp]; rfl
      refine hs1.slIn 0 hx1 (by show k * 4 + 4 ≤ fs.length; omega) (docA_one 0 0 0 .nil) fun H2 hs2 => ?_
      rw [wrap_id (by omega) (by omega)]
      refine ihk hk' _ H2 ?_ (by rw [← hbp] at hs2; exact hs2)
      rw [setL_len (by show k * 4 + 4 ≤ fs.length; omega)]; exact hfs
     ·refine c14 (hs1.front 4 rfl) hk (by omega) fun K1 P1 F1 H110 hP1 hF1 hs110 => ⟨_, rfl, ?_⟩
      refine like_state hs110 0 8 rfl rfl rfl rfl hk (by omega) fun H113 he113 => ⟨_, rfl, br_t rfl ?_⟩
      refine c14 ((hs110.step he113).front 7 rfl) hk (by omega) fun K2 P2 F2 H116 hP2 hF2 hs116 => ⟨_, rfl, ?_⟩
      refine like_state hs116 0 11 rfl rfl rfl rfl hk (by omega) fun H119 he119 => ⟨_, rfl, ?_⟩
      exact hR H119 (hs116.step he119).ext
    exact zero 0 (Nat.zero_le _) (cellsP lp) H1 (by rw [cellsP_len, hlp]) hs1
   have step2 : ∀ (lp : List PD) H1, lp.length = P'.l → St H H1 [docsRs F' g.fut, .sl P'.p P'.l P'.c 27 4 (cellsP lp), .cell b69 #[.slice (some ⟨b65, 0, none⟩) 1 1, P'.v, F'.v] 53, .cell b57 (histA (K', g.now) P' F') 55, histRs yb g, histRs hb g, bookRs b27 g] → X71 [.int .i64 2] H1 := fun lp H1 hlp hs1 => by
    refine hX71 _ _ (br_y (by decide) ⟨_, rfl, by decide, by decide, F'.p, F'.l, F'.c, hs1.get 2 rfl (j := 2) rfl, ?_⟩)
    obtain ⟨lf, hlf, hs2⟩ := St_docsOut hs1
    have hlfl : lf.length = g.fut.length := by rw [← hlf, List.length_map]
    refine spoil_list (Q := F') (l := lf) (fun x hx => hif x.2 (by rw [← hlf]; exact List.mem_map_of_mem hx)) (by omega) hs2 fun H' hs' => ?_
    exact step3 lp H' hlp hs'.tail
   have step1 : ∀ H1, St H H1 [docsRs P' g.past, docsRs F' g.fut, .cell b69 #[.slice (some ⟨b65, 0, none⟩) 1 1, P'.v, F'.v] 53, .cell b57 (histA (K', g.now) P' F') 55, histRs yb g, histRs hb g, bookRs b27 g] → X71 [.int .i64 1] H1 := fun H1 hs1 => by
    refine hX71 _ _ (br_y (by decide) ⟨_, rfl, by decide, by decide, P'.p, P'.l, P'.c, hs1.get 2 rfl (j := 1) rfl, ?_⟩)
    obtain ⟨lp, hlp, hs2⟩ := St_docsOut hs1
    have hlpl : lp.length = g.past.length := by rw [← hlp, List.length_map]
    refine spoil_list (Q := P') (l := lp) (fun x hx => hip x.2 (by rw [← hlp]; exact List.mem_map_of_mem hx)) (by omega) hs2 fun H' hs' => ?_
    exact step2 lp H' (by omega) hs'.swap
   refine hX71 _ _ (br_y (by decide) ⟨_, rfl, by decide, by decide, some ⟨b65, 0, none⟩, 1, 1, h71.get 0 rfl (j := 0) rfl, ?_⟩)
   have h72 : St H H70 (([.sl (some ⟨b65, 0, none⟩) 1 1 27 4 (cellsP [(K', g.now)])] ++ [(K', g.now)].map fun x => docRs (arrP x) x.2) ++ [docsRs P' g.past, docsRs F' g.fut, .cell b69 #[.slice (some ⟨b65, 0, none⟩) 1 1, P'.v, F'.v] 53, .cell b57 (histA (K', g.now) P' F') 55, histRs yb g, histRs hb g, bookRs b27 g]) :=
    h71.perm (permC (a := [_, _, _, _, _, _, _, _, _]) (b := [_, _, _, _, _, _, _, _, _]) fun _ y => by simp only [List.count_cons, List.count_nil]; ac_rfl)
   refine spoil_list (Q := ⟨some ⟨b65, 0, none⟩, 1, 1⟩) (l := [(K', g.now)]) (fun x hx => by rw [List.mem_singleton] at hx; subst hx; exact hk.now.1) (by simp) h72 fun H' hs' => ?_
   exact step1 H' hs'.tail
 have h29 : St H H28 [.cell b27 (histA (.nil, ⟨5, 5, 1, []⟩) .nil .nil) 41, histRs hb ⟨⟨5, 5, 1, []⟩, [], []⟩, .cell b19 (docA 5 5 1 .nil) 33, .cell b12 (docA 5 5 1 .nil) 27] := hs28
 have h30 := ((bkStart (h29.take 2) 5 5).nilSl 33 4).nilSl 33 4
 refine go 0 (Nat.zero_le _) ⟨⟨5, 5, 1, []⟩, [], []⟩ H28 (HOk.start hsz) (St.swap (bookIn ⟨(.nil, ⟨5, 5, 1, []⟩), .nil, .nil, [], []⟩ rfl ?_))
 exact h30.perm (permC (a := [_, _, _, _, _]) (b := [_, _, _, _, _]) fun _ y => by simp only [List.count_cons, List.count_nil]; ac_rfl)
end Go.Proofs
namespace Go.Proofs
open Go.Sh Go.RowKit Go.ChangeShapes Go.WideShapes Go.ChangeAt
end Go.Proofs
namespace Go.Proofs
open Go.Sh Go.RowKit Go.ChangeShapes Go.WideShapes Go.ChangeAt Go.Deep
section
variable {H : Type} {enc : TypeId × Value → H} {W : World}
abbrev TrP (enc : TypeId × Value → H) (W : World) (fuel : Nat) (t : TypeId) (cs : List Value) (x : DataW H × List MemPlace) : Prop := DataW.trod enc Tryz.prog W 0 (fun _ => true) true fuel t cs = some x
theorem intsAt {fuel : Nat} {a0 : Option Addr} {len cap : Nat} {x : DataW H × List MemPlace} (hf : TrP enc W fuel 42 [.slice a0 len cap] x) : ∃ ls, len ≤ cap ∧ IS W.heap a0 len (ints ls) := by
 rcases open_ints Tryz.underlying42 Tryz.underlying3 (by kernel_rfl) hf with ⟨hcs, _⟩ | ⟨a, len2, cap2, zs, hcs, _, hl, _, hz, _, hc, hw⟩
 ·simp at hcs
  obtain ⟨rfl, rfl, rfl⟩ := hcs
  exact ⟨[], Nat.le_refl _, ⟨rfl, fun i v hv => by simp [ints] at hv⟩⟩
 ·simp at hcs
  obtain ⟨rfl, rfl, rfl⟩ := hcs
  have hzl : len ≤ zs.length := by rw [hz]; simp; omega
  refine ⟨zs.take len, hl, ⟨by rw [ints_len]; simp; omega, fun i v hv => ⟨a, rfl, ?_⟩⟩⟩
  have hi : i < len := by have := (List.getElem?_eq_some_iff.1 hv).1; rw [ints_len] at this; simp at this; omega
  have := hc i (by omega)
  rw [cell_eq] at this
  rw [this]
  have hg : (zs.take len)[i]? = some (zs.getD i 0) := by
   rw [List.getElem?_take_of_lt hi, List.getD_eq_getElem?_getD, List.getElem?_eq_getElem (by omega)]; rfl
  rw [ints_get hg] at hv
  exact hv
theorem fieldAt {t : TypeId} {fs : Array Field} {fuel : Nat} {cs : List Value} {x : DataW H × List MemPlace} (hs : Tryz.prog.underlying t = some (.struct fs)) (h : TrP enc W fuel t cs x) (i : Nat) {f : Field} {o ty c : Nat} (hf : fs[i]? = some f) (ho : f.offset = o) (ht : f.type = ty) (hc : Tryz.prog.cellsOf ty = c) :
    ∃ n y, n < fuel ∧ TrP enc W n ty ((cs.drop o).take c) y := by
  obtain ⟨xs, n, hfu, _, hl, hlen, hg⟩ := DataW.trod_struct hs h
  have := hg i f hf
  have hi := (Array.getElem?_eq_some_iff.1 hf).1
  rw [List.getElem?_eq_getElem (by omega), ho, ht, hc] at this
  exact ⟨n, _, by omega, this⟩
theorem one_get {cs : List Value} {o : Nat} {v : Value} (h : (cs.drop o).take 1 = [v]) : cs[o]? = some v := by
 have h4 : ((cs.drop o).take 1)[0]? = some v := by rw [h]; rfl
 rw [List.getElem?_take_of_lt (by omega), List.getElem?_drop] at h4
 simpa using h4
theorem intF {n : Nat} {cs : List Value} {o : Nat} {y : DataW H × List MemPlace} (h : TrP enc W n 3 ((cs.drop o).take 1) y) : ∃ m : Int, cs[o]? = some (.int .i64 m) := by
 obtain ⟨m, hm, _, _⟩ := DataW.trod_int Tryz.underlying3 h
 exact ⟨m, one_get hm⟩
theorem slF {t e n : Nat} {cs : List Value} {o : Nat} {y : DataW H × List MemPlace} (ht : Tryz.prog.underlying t = some (.slice e)) (h : TrP enc W n t ((cs.drop o).take 1) y) : ∃ s : Sl3, cs[o]? = some s.v ∧ TrP enc W n t [s.v] y := by
 rcases DataW.trod_slice ht h with ⟨h0, _⟩ | ⟨a, len, cap, elems, rest, m, _, h0, _⟩
 ·rw [h0] at h; exact ⟨.nil, one_get h0, h⟩
 ·rw [h0] at h; exact ⟨⟨some a, len, cap⟩, one_get h0, h⟩
theorem list19 {α : Type} {l : List α} (h : l.length = 19) : ∃ a b c d e f g i j k m n o p q r s t u, l = [a, b, c, d, e, f, g, i, j, k, m, n, o, p, q, r, s, t, u] := by
 match l, h with
 | [a, b, c, d, e, f, g, i, j, k, m, n, o, p, q, r, s, t, u], _ => exact ⟨a, b, c, d, e, f, g, i, j, k, m, n, o, p, q, r, s, t, u, rfl⟩
theorem sixF {t n : Nat} {cs : List Value} {o : Nat} {y : DataW H × List MemPlace} (ht : Tryz.prog.underlying t = some (.array 6 3)) (h : TrP enc W n t ((cs.drop o).take 6) y) :
    ∃ m : M6, cs[o]? = some (.int .i64 m.a) ∧ cs[o + 1]? = some (.int .i64 m.b) ∧ cs[o + 2]? = some (.int .i64 m.c) ∧ cs[o + 3]? = some (.int .i64 m.d) ∧ cs[o + 4]? = some (.int .i64 m.e) ∧ cs[o + 5]? = some (.int .i64 m.f) := by
  obtain ⟨xs, m, _, _, hl, hlen, hg⟩ := DataW.trod_array ht h
  have hc : Tryz.prog.cellsOf 3 = 1 := by kernel_rfl
  have each : ∀ i, i < 6 → ∃ z : Int, cs[o + i]? = some (.int .i64 z) := fun i hi => by
    have := hg i hi
    rw [hc, Nat.mul_one, List.getElem?_eq_getElem (by omega)] at this
    obtain ⟨z, hz⟩ := intF this
    rw [List.getElem?_take_of_lt hi, List.getElem?_drop] at hz
    exact ⟨z, hz⟩
  obtain ⟨a, ha⟩ := each 0 (by omega)
  obtain ⟨b, hb⟩ := each 1 (by omega)
  obtain ⟨c, hc⟩ := each 2 (by omega)
  obtain ⟨d, hd⟩ := each 3 (by omega)
  obtain ⟨e, he⟩ := each 4 (by omega)
  obtain ⟨f, hf⟩ := each 5 (by omega)
  exact ⟨⟨a, b, c, d, e, f⟩, ha, hb, hc, hd, he, hf⟩
theorem ptAt {n : Nat} {cs : List Value} {y : DataW H × List MemPlace} (h : TrP enc W n 99 cs y) : ∃ p : Pt, cs = [.int .i64 p.1, .int .i64 p.2] := by
 obtain ⟨_, _, _, h0⟩ := fieldAt (o := 0) (ty := 3) (c := 1) Tryz.underlying99 h 0 rfl rfl rfl (by kernel_rfl)
 obtain ⟨_, _, _, h1⟩ := fieldAt (o := 1) (ty := 3) (c := 1) Tryz.underlying99 h 1 rfl rfl rfl (by kernel_rfl)
 obtain ⟨x, hx⟩ := intF h0
 obtain ⟨y, hy⟩ := intF h1
 obtain ⟨xs, m, _, _, hl, _⟩ := DataW.trod_struct Tryz.underlying99 h
 have hl2 : cs.length = 2 := by rw [hl]; kernel_rfl
 match cs, hl2 with
 | [a, b], _ =>
  simp only [List.getElem?_cons_zero, List.getElem?_cons_succ, Option.some.injEq] at hx hy
  subst hx; subst hy
  exact ⟨(x, y), rfl⟩
theorem choose_list {α : Type} {P : Nat → α → Prop} {n : Nat} [Inhabited α] (h : ∀ i, i < n → ∃ x, P i x) : ∃ l : List α, l.length = n ∧ ∀ i x, l[i]? = some x → P i x := by
 obtain ⟨f, hf⟩ : ∃ f : Nat → α, ∀ i, i < n → P i (f i) := by
  have : ∀ i, ∃ x, i < n → P i x := fun i => by
   by_cases hi : i < n
   ·obtain ⟨x, hx⟩ := h i hi; exact ⟨x, fun _ => hx⟩
   ·exact ⟨default, fun h => absurd h hi⟩
  exact Classical.axiomOfChoice this
 refine ⟨(List.range n).map f, by simp, fun i x hx => ?_⟩
 have hi : i < n := by have := (List.getElem?_eq_some_iff.1 hx).1; simpa using this
 simp [hi] at hx
 subst hx
 exact hf i hi
theorem ptsAt {fuel : Nat} {s : Sl3} {x : DataW H × List MemPlace} (hf : TrP enc W fuel 43 [s.v] x) : ∃ pts : List Pt, s.l ≤ s.c ∧ IS2 W.heap s.p s.l pts := by
 rcases open_slice Tryz.underlying43 hf with ⟨hcs, _⟩ | ⟨a, len', cap', m, n, D, Pl, hcs, _, hl, hm, hmm, _, hx⟩
 ·obtain ⟨p, l, c⟩ := s
  simp only [Sl3.v, List.cons.injEq, Value.slice.injEq, and_true] at hcs
  obtain ⟨rfl, rfl, rfl⟩ := hcs
  exact ⟨[], Nat.le_refl _, IS2.nil _⟩
 ·obtain ⟨p, l, c⟩ := s
  simp only [Sl3.v, List.cons.injEq, Value.slice.injEq, and_true] at hcs
  obtain ⟨rfl, rfl, rfl⟩ := hcs
  have hml : l ≤ m := by rw [hmm]; simp; omega
  obtain ⟨pts, hlen, hpts⟩ := choose_list (P := fun i (p : Pt) => rowIn W.heap (a.add (i * 2)) #[.int .i64 p.1, .int .i64 p.2]) (n := l) fun i hi => by
   obtain ⟨cs, h1, h2⟩ := hx i (by omega)
   rw [show Tryz.prog.cellsOf 99 = 2 from by kernel_rfl] at h1
   obtain ⟨p, rfl⟩ := ptAt h2
   obtain ⟨_, _, hc⟩ := World.cells?_some h1
   refine ⟨p, fun j v hv => ?_⟩
   have hj : j < 2 := (Array.getElem?_eq_some_iff.1 hv).1
   have := hc j hj
   rw [cell_eq] at this
   rw [this]
   simpa using hv
  exact ⟨pts, hl, hlen, fun i x y hi => ⟨a, rfl, hpts i (x, y) hi⟩⟩
theorem edAt {fuel : Nat} {cs : List Value} {x : DataW H × List MemPlace} (h : TrP enc W fuel 47 cs x) : ∃ e s, cs = edL e s ∧ rdEd W.heap e s := by
 have hu := Tryz.underlying47
 obtain ⟨_, _, _, h0⟩ := fieldAt (o := 0) (ty := 3) (c := 1) hu h 0 rfl rfl rfl (by kernel_rfl)
 obtain ⟨_, _, _, h1⟩ := fieldAt (o := 1) (ty := 3) (c := 1) hu h 1 rfl rfl rfl (by kernel_rfl)
 obtain ⟨_, _, _, h2⟩ := fieldAt (o := 2) (ty := 3) (c := 1) hu h 2 rfl rfl rfl (by kernel_rfl)
 obtain ⟨_, _, _, h3⟩ := fieldAt (o := 3) (ty := 3) (c := 1) hu h 3 rfl rfl rfl (by kernel_rfl)
 obtain ⟨_, _, _, h4⟩ := fieldAt (o := 4) (ty := 3) (c := 1) hu h 4 rfl rfl rfl (by kernel_rfl)
 obtain ⟨_, _, _, h5⟩ := fieldAt (o := 5) (ty := 3) (c := 1) hu h 5 rfl rfl rfl (by kernel_rfl)
 obtain ⟨_, _, _, h6⟩ := fieldAt (o := 6) (ty := 3) (c := 1) hu h 6 rfl rfl rfl (by kernel_rfl)
 obtain ⟨_, _, _, h7⟩ := fieldAt (o := 7) (ty := 3) (c := 1) hu h 7 rfl rfl rfl (by kernel_rfl)
 obtain ⟨_, _, _, h8⟩ := fieldAt (o := 8) (ty := 3) (c := 1) hu h 8 rfl rfl rfl (by kernel_rfl)
 obtain ⟨_, _, _, h9⟩ := fieldAt (o := 9) (ty := 3) (c := 1) hu h 9 rfl rfl rfl (by kernel_rfl)
 obtain ⟨_, _, _, h10⟩ := fieldAt (o := 10) (ty := 42) (c := 1) hu h 10 rfl rfl rfl (by kernel_rfl)
 obtain ⟨_, _, _, h11⟩ := fieldAt (o := 11) (ty := 43) (c := 1) hu h 11 rfl rfl rfl (by kernel_rfl)
 obtain ⟨_, _, _, h12⟩ := fieldAt (o := 12) (ty := 45) (c := 6) hu h 12 rfl rfl rfl (by kernel_rfl)
 obtain ⟨_, _, _, h13⟩ := fieldAt (o := 18) (ty := 42) (c := 1) hu h 13 rfl rfl rfl (by kernel_rfl)
 obtain ⟨v0, g0⟩ := intF h0
 obtain ⟨v1, g1⟩ := intF h1
 obtain ⟨v2, g2⟩ := intF h2
 obtain ⟨v3, g3⟩ := intF h3
 obtain ⟨v4, g4⟩ := intF h4
 obtain ⟨v5, g5⟩ := intF h5
 obtain ⟨v6, g6⟩ := intF h6
 obtain ⟨v7, g7⟩ := intF h7
 obtain ⟨v8, g8⟩ := intF h8
 obtain ⟨v9, g9⟩ := intF h9
 obtain ⟨P, g10, t10⟩ := slF Tryz.underlying42 h10
 obtain ⟨S, g11, t11⟩ := slF Tryz.underlying43 h11
 obtain ⟨m, ga, gb, gc, gd, ge, gf⟩ := sixF Tryz.underlying45 h12
 obtain ⟨A, g18, t18⟩ := slF Tryz.underlying42 h13
 obtain ⟨ps, _, hps⟩ := intsAt t10
 obtain ⟨pts, _, hpts⟩ := ptsAt t11
 obtain ⟨qs, _, hqs⟩ := intsAt t18
 obtain ⟨xs, k, _, _, hl, _⟩ := DataW.trod_struct hu h
 have hl2 : cs.length = 19 := by rw [hl]; kernel_rfl
 refine ⟨⟨v0, v1, v2, v3, v4, v5, v6, v7, v8, v9, ps, pts, m, qs⟩, ⟨P, S, A⟩, ?_, ⟨hps, hpts, hqs⟩⟩
 obtain ⟨a, b, c, d, e, f, g, i, j, k, m', n, o, p, q, r, s, t, u, rfl⟩ := list19 hl2
 simp only [List.getElem?_cons_zero, List.getElem?_cons_succ, Option.some.injEq] at g0 g1 g2 g3 g4 g5 g6 g7 g8 g9 g10 g11 ga gb gc gd ge gf g18
 subst g0 g1 g2 g3 g4 g5 g6 g7 g8 g9 g10 g11 ga gb gc gd ge gf g18
 rfl
instance : Inhabited (Ed × EdS) := ⟨⟨0, 0, 0, 0, 0, 0, 0, 0, 0, 0, [], [], ⟨0, 0, 0, 0, 0, 0⟩, []⟩, ⟨.nil, .nil, .nil⟩⟩
end
end Go.Proofs
namespace Go.Proofs
open Go.Sh Go.RowKit Go.ChangeShapes Go.WideShapes Go.ChangeAt Go.Deep
section
variable {H : Type} {enc : TypeId × Value → H} {W : World}
theorem okWide_cap {P : Program} {t e : TypeId} {base : Nat} {a : Option Addr} {l c : Nat} (ht : P.underlying t = some (.slice e)) (h : Value.okWide P W .any base t (.slice a l c)) : c ≤ 9223372036854775807 := by
 unfold Value.okWide at h
 rw [ht] at h
 simp only [Cell.okWide, ht] at h
 unfold Cell.ok at h
 rw [ht] at h
 cases a with
 | none =>
  split at h <;> rename_i h1 h2 <;> simp_all
 | some a =>
  have := h.2.1
  simp [IntKind.max, IntKind.signed, IntKind.bits] at this
  omega
theorem stepAt {fuel : Nat} {cs : List Value} {x : DataW H × List MemPlace} (h : TrP enc W fuel 49 cs x) : ∃ k e s, cs = stL k e s ∧ rdEd W.heap e s := by
 have hu := Tryz.underlying49
 obtain ⟨_, _, _, h0⟩ := fieldAt (o := 0) (ty := 3) (c := 1) hu h 0 rfl rfl rfl (by kernel_rfl)
 obtain ⟨_, _, _, h1⟩ := fieldAt (o := 1) (ty := 47) (c := 19) hu h 1 rfl rfl rfl (by kernel_rfl)
 obtain ⟨k, g0⟩ := intF h0
 obtain ⟨e, s, g1, hrd⟩ := edAt h1
 obtain ⟨xs, m, _, _, hl, _⟩ := DataW.trod_struct hu h
 have hl2 : cs.length = 20 := by rw [hl]; kernel_rfl
 refine ⟨k, e, s, ?_, hrd⟩
 cases cs with
 | nil => simp at hl2
 | cons v cs =>
  simp only [List.getElem?_cons_zero, Option.some.injEq] at g0
  subst g0
  unfold stL
  rw [← g1, List.drop_succ_cons, List.drop_zero, List.take_of_length_le (by simp at hl2; omega)]
instance : Inhabited SE := ⟨(0, default)⟩
theorem stepsIn_of {v : Value} {d : DataW H} {ps : List MemPlace} {base : Nat} (hv : Value.okWide Tryz.prog W .any base 22 v) (h : DataW.Trod enc Tryz.prog W 0 (fun _ => true) true 22 v d ps) :
    ∃ a l c ss, v = .slice a l c ∧ ss.length ≤ 9223372036854775807 ∧ StepsR W.heap a l ss := by
  obtain ⟨a0, len, cap, rfl⟩ := okWide_slice Tryz.underlying22 hv
  have hcap := okWide_cap Tryz.underlying22 hv
  obtain ⟨fuel, hf⟩ := h
  rcases open_slice Tryz.underlying22 hf with ⟨hcs, _⟩ | ⟨a, len', cap', m, n, D, Pl, hcs, _, hl, hm, hmm, _, hx⟩
  · simp only [Value.cells] at hcs
    simp at hcs
    obtain ⟨rfl, rfl, rfl⟩ := hcs
    exact ⟨none, 0, 0, [], rfl, by simp, rfl, fun i k e s hx => by simp at hx⟩
  · simp only [Value.cells] at hcs
    simp at hcs
    obtain ⟨rfl, rfl, rfl⟩ := hcs
    have hml : len ≤ m := by rw [hmm]; simp; omega
    obtain ⟨es, hlen, hes⟩ := choose_list (P := fun i (x : SE) => rowIn W.heap (a.add (i * 20)) (stL x.1 x.2.1 x.2.2).toArray ∧ rdEd W.heap x.2.1 x.2.2) (n := len) fun i hi => by
      obtain ⟨cs, h1, h2⟩ := hx i (by omega)
      rw [show Tryz.prog.cellsOf 49 = 20 from by kernel_rfl] at h1
      obtain ⟨k, e, s, rfl, hrd⟩ := stepAt h2
      obtain ⟨_, _, hc⟩ := World.cells?_some h1
      refine ⟨(k, e, s), fun j v hv => ?_, hrd⟩
      have hj : j < 20 := (Array.getElem?_eq_some_iff.1 hv).1
      have := hc j hj
      rw [cell_eq] at this
      rw [this]
      simpa using hv
    exact ⟨some a, len, cap, es, rfl, by omega, hlen, fun i k e s hi => let ⟨h1, h2⟩ := hes i (k, e, s) hi; ⟨a, rfl, h1, h2⟩⟩
end
end Go.Proofs
