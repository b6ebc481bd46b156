/-
  OWN WORK. Several texts in one: TtH, TtI, TtJ, TtK, HsH, HsBack, HsBranch, OpBytes, OpTree.
-/
import Derived.Test.YtgmhjfnnhfjgkaaMgHistBranchE
import Derived.Test.YtgmhjfnnhfjgkaaRows
import Derived.Test.YtgmhjfnnhfjgkaaMgHistBranchB
import Derived.ChangeSlices
import Derived.Deep.Slices

set_option linter.unusedVariables false
set_option linter.unusedSimpArgs false
set_option maxRecDepth 10000
namespace Go.Proofs
open Go.Sh
variable {H0 H : Heap} {σ : List Rs} {R : Value → Heap → Prop}
end Go.Proofs
namespace Go.Proofs
open Go.Sh
variable {H0 H : Heap} {σ : List Rs} {R : Value → Heap → Prop}
end Go.Proofs
namespace Go.Proofs
open Go.Sh
variable {H0 H : Heap} {σ : List Rs} {R : Value → Heap → Prop}
end Go.Proofs
namespace Go.Proofs
open Go.Sh
variable {H0 H : Heap} {σ : List Rs} {R : Value → Heap → Prop}
theorem IS.bs {H : Heap} {p : Option Addr} {l : Nat} {xs : List Int} (h : IS H p l (kints .u8 xs)) : bsOf H p l xs := by
 cases p with
 | none =>
  exact List.eq_nil_iff_forall_not_mem.2 fun v hv => by
   obtain ⟨i, hi⟩ := List.getElem?_of_mem hv
   obtain ⟨a, h1, _⟩ := h.get i _ (kints_get hi)
   cases h1
 | some a =>
  refine ⟨h.length, fun j v hv => ?_⟩
  obtain ⟨a', h1, h2⟩ := h.get j v (by simpa [kints] using hv)
  cases h1; exact h2
structure EdsR (H : Heap) (p : Option Addr) (l : Nat) (es : List (Ed × EdS)) : Prop where
 len : es.length = l
 get : ∀ (i : Nat) e s, es[i]? = some (e, s) → ∃ a, p = some a ∧ rowIn H (a.add (i * 19)) (edL e s).toArray ∧ rdEd H e s
theorem EdsR.ext {H H' : Heap} {p : Option Addr} {l : Nat} {es : List (Ed × EdS)} (h : EdsR H p l es) (he : Ext H H') : EdsR H' p l es := ⟨h.len, fun i e s hi => let ⟨a, h1, h2, h3⟩ := h.get i e s hi; ⟨a, h1, rowAt_ext he h2, h3.ext he⟩⟩
def smallE (e : Ed) : Bool := decide (e.p.length ≤ 600 ∧ e.shape.length ≤ 300 ∧ e.params.length ≤ 100 ∧ ¬ (e.kind = 1 ∧ e.n = 0 ∧ sizedB e.w e.h = true ∧ e.w * e.h > 600))
def smallB (es : List (Ed × EdS)) (most : Int) : Bool := decide ((es.length : Int) ≤ most) && es.all fun x => smallE x.1
theorem smallB_ok {es : List (Ed × EdS)} {most : Int} (h : smallB es most = true) : (es.length : Int) ≤ most ∧ ∀ x ∈ es, x.1.shape.length ≤ 300 ∧ x.1.params.length ≤ 100 := by
 unfold smallB at h
 rw [Bool.and_eq_true] at h
 exact ⟨of_decide_eq_true h.1, fun x hx => by have := of_decide_eq_true (List.all_eq_true.1 h.2 x hx); exact ⟨this.2.1, this.2.2.1⟩⟩
theorem c7 {p : Option Addr} {l c : Nat} {es : List (Ed × EdS)} {most : Int} (h : EdsR H p l es) (hm : most ≤ 1000000) (hR : ∀ H', Ext H H' → R (.bool (smallB es most)) H') : CallsH Try.prog 7 #[.slice p l c, .int .i64 most] H R := by
 refine Try.s7 ?_
 unfold Try.S7
 have hlen := h.len
 refine br_dec (fun hgt => ?_) fun hle => ?_
 ·have := hR H (Ext.refl H)
  rw [show smallB es most = false from by unfold smallB; rw [decide_eq_false (by omega), Bool.false_and]] at this; exact this
 intro X hX
 have go : ∀ k, k ≤ es.length → ∀ H1, Ext H H1 → (es.take k).all (fun x => smallE x.1) = true → X [.int .i64 (k : Nat)] H1 := by
  refine upto fun k hk ih H1 he hall => hX _ _ (br_dec (fun hlt => ?_) fun hge => ?_)
  ·have hk' : k < es.length := by omega
   have hx := List.getElem?_eq_getElem hk'
   generalize hxe : es[k] = x at hx
   obtain ⟨e, s⟩ := x
   obtain ⟨a, hp, hrow, hrd⟩ := (h.ext he).get k e s hx
   have hpl := hrd.p.length
   have hsl := hrd.shape.len
   have hal := hrd.params.length
   intro J6 hJ6
   refine ⟨a, hp, by omega, hlt, _, rfl, hrow, (St.of_ext he).alc fun b10 H11 hs11 => ⟨rfl, hs11.putAll 0 rfl rfl (by simpa using edL_one e s) fun H12 hs12 => ?_⟩⟩
   have bad : ∀ {H2 : Heap}, Ext H H2 → smallE e = false → R (.bool false) H2 := fun he2 hb => by
    have := hR _ he2
    rw [show smallB es most = false from by
     unfold smallB
     rw [show es.all (fun x => smallE x.1) = false from Bool.eq_false_iff.2 fun hh => by
      have := List.all_eq_true.1 hh _ (List.mem_of_getElem? hx)
      rw [hb] at this; cases this]
     rw [Bool.and_false]] at this
    exact this
   have good : ∀ {H2 : Heap}, Ext H H2 → smallE e = true → J6 [] H2 := fun he2 hb => by
    refine hJ6 _ ?_
    rw [wrap_id (by omega) (by omega)]
    refine ih hk' _ he2 ?_
    rw [take_succ hx, List.all_append, hall, Bool.true_and, List.all_cons, List.all_nil, Bool.and_true]; exact hb
   refine ⟨_, _, _, hs12.get 0 rfl (edL_10 e s), br_dec (fun c => bad hs12.ext (decide_eq_false (by omega))) fun c1 => ?_⟩
   refine ⟨_, _, _, hs12.get 0 rfl (edL_11 e s), br_dec (fun c => bad hs12.ext (decide_eq_false (by omega))) fun c2 => ?_⟩
   refine ⟨_, _, _, hs12.get 0 rfl (edL_18 e s), br_dec (fun c => bad hs12.ext (decide_eq_false (by omega))) fun c3 => ?_⟩
   have fin : ∀ {H2 : Heap}, Ext H H2 → ¬ (e.kind = 1 ∧ e.n = 0 ∧ sizedB e.w e.h = true ∧ e.w * e.h > 600) → J6 [] H2 := fun he2 hno => good he2 (decide_eq_true ⟨by omega, by omega, by omega, hno⟩)
   refine ⟨e.kind, hs12.get 0 rfl (j := 0) rfl, br_eq (fun k1 => ⟨e.n, hs12.get 0 rfl (j := 4) rfl, br_eq (fun n0 => ?_) fun n0 => fin hs12.ext fun hh => n0 hh.2.1⟩) fun k1 => fin hs12.ext fun hh => k1 hh.1⟩
   refine ⟨e.w, hs12.get 0 rfl (j := 8) rfl, e.h, hs12.get 0 rfl (j := 9) rfl, c20 ⟨_, rfl, br_i (fun hb => ?_) fun hb => fin hs12.ext fun hh => by rw [hb] at hh; exact absurd hh.2.2.1 (by decide)⟩⟩
   obtain ⟨q1, q2, q3, q4, q5⟩ := of_decide_eq_true hb
   refine ⟨e.w, hs12.get 0 rfl (j := 8) rfl, e.h, hs12.get 0 rfl (j := 9) rfl, ?_⟩
   rw [wrap_area q1 q2 q3 q4]
   refine br_dec (fun hg => bad hs12.ext (decide_eq_false fun hh => hh.2.2.2 ⟨k1, n0, hb, hg⟩)) fun hg => fin hs12.ext fun hh => hg hh.2.2.2
  ·rw [List.take_of_length_le (by omega)] at hall
   have := hR H1 he
   rw [show smallB es most = true from by unfold smallB; rw [hall, decide_eq_true (by omega)]; rfl] at this; exact this
 exact go 0 (Nat.zero_le _) H (Ext.refl H) rfl
theorem eds_ok {p : Option Addr} {l : Nat} {es : List (Ed × EdS)} (h : EdsR H p l es) (hok : ∀ x ∈ es, x.1.shape.length ≤ 300 ∧ x.1.params.length ≤ 100) {i : Nat} {e : Ed} {s : EdS} (hx : es[i]? = some (e, s)) : ∃ a, p = some a ∧ rowIn H (a.add (i * 19)) (edL e s).toArray ∧ EdOk H e s := by
 obtain ⟨a, h1, h2, h3⟩ := h.get i e s hx
 have := hok _ (List.mem_of_getElem? hx)
 exact ⟨a, h1, h2, h3, by have := this.1; simp only at this; omega, by have := this.2; simp only at this; omega⟩
theorem one_eds {b : Nat} {e : Ed} {s : EdS} {ty : TypeId} (hb : H[b]? = some (.cells (edL e s).toArray ty)) (hrd : rdEd H e s) : EdsR H (some ⟨b, 0, none⟩) 1 [(e, s)] :=
 ⟨rfl, fun i e' s' hi => by
  cases i with
  | zero =>
   simp at hi
   obtain ⟨rfl, rfl⟩ := hi
   exact ⟨_, rfl, by rw [add_none]; exact rowIn_whole hb, hrd⟩
  | succ i => simp at hi⟩
theorem elemE (e : Ed) (s : EdS) : (setL [Value.int .i64 0, Value.int .i64 0, Value.int .i64 0, Value.int .i64 0, Value.int .i64 0, Value.int .i64 0, Value.int .i64 0, Value.int .i64 0, Value.int .i64 0, Value.int .i64 0, Value.slice none 0 0, Value.slice none 0 0, Value.int .i64 0, Value.int .i64 0, Value.int .i64 0, Value.int .i64 0, Value.int .i64 0, Value.int .i64 0, Value.slice none 0 0] 0 (Array.toList (edL e s).toArray)).toArray = (edL e s).toArray := by
 rw [setL_all (by rfl)]
end Go.Proofs
namespace Go.Proofs
open Go.Sh
variable {H0 H : Heap} {σ : List Rs} {R : Value → Heap → Prop}
def stL (k : Int) (e : Ed) (s : EdS) : List Value := .int .i64 k :: edL e s
abbrev SE := Int × Ed × EdS
structure StepsR (H : Heap) (p : Option Addr) (l : Nat) (ss : List SE) : Prop where
 len : ss.length = l
 get : ∀ (i : Nat) k e s, ss[i]? = some (k, e, s) → ∃ a, p = some a ∧ rowIn H (a.add (i * 20)) (stL k e s).toArray ∧ rdEd H e s
theorem StepsR.ext {H H' : Heap} {p : Option Addr} {l : Nat} {ss : List SE} (h : StepsR H p l ss) (he : Ext H H') : StepsR H' p l ss := ⟨h.len, fun i k e s hi => let ⟨a, h1, h2, h3⟩ := h.get i k e s hi; ⟨a, h1, rowAt_ext he h2, h3.ext he⟩⟩
def hnE : Ed := ed0 1 0 0 (-1) 1 0 0 0 0 0
def hn0 : DocL := ⟨2, 2, 1, []⟩
def hn1 : DocL := (doD hn0 hnE).2
def hn2 : DocL := (doD hn1 hnE).2
theorem hn_ok : (doD hn0 hnE).1 = 0 ∧ (doD hn1 hnE).1 = 0 ∧ cntKs hn2.ks = 2 := by decide +kernel
theorem doH_ok {d : DocL} {p f : List DocL} {e : Ed} (h : (doD d e).1 = 0) : doH ⟨d, p, f⟩ e = (0, ⟨(doD d e).2, p ++ [d], []⟩) := by unfold doH; rw [if_pos h]
theorem c6 (hR : ∀ H', Ext H H' → R (.bool true) H') : CallsH Try.prog 6 #[] H R := by
 obtain ⟨x1, x2, x3⟩ := hn_ok
 have k0 : HOk 0 ⟨hn0, [], []⟩ := HOk.start (by decide)
 have e1 : doH ⟨hn0, [], []⟩ hnE = (0, ⟨hn1, [hn0], []⟩) := doH_ok x1
 have e2 : doH ⟨hn1, [hn0], []⟩ hnE = (0, ⟨hn2, [hn0, hn1], []⟩) := doH_ok x2
 have e3 : undoH ⟨hn2, [hn0, hn1], []⟩ = (0, ⟨hn1, [hn0], [hn2]⟩) := rfl
 have e4 : doH ⟨hn1, [hn0], [hn2]⟩ hnE = (0, ⟨hn2, [hn0, hn1], []⟩) := doH_ok x2
 have e5 : redoH ⟨hn2, [hn0, hn1], []⟩ = (44, ⟨hn2, [hn0, hn1], []⟩) := rfl
 have k1 := k0.doH hnE; rw [e1] at k1
 have k2 := k1.doH hnE; rw [e2] at k2
 have k3 := k2.undoH; rw [e3] at k3
 have k4 := k3.doH hnE; rw [e4] at k4
 have ok : ∀ {H' : Heap}, EdOk H' hnE es0 := fun {H'} => ed0_ok H' ..
 refine Try.s6 (_u := ()) ?_
 unfold Try.S6
 refine c8 (fun _ H2 he2 => ⟨_, _, rfl, ?_⟩) fun h => absurd h (by decide)
 refine (St.of_ext he2).alc fun b5 H6 hs6 => ⟨rfl, hs6.putAll 0 rfl rfl (docA_one 2 2 1 .nil) fun H7 hs7 => ⟨_, rfl, rowIn_whole (hs7.block 0 rfl), ?_⟩⟩
 refine c9 (D := hn0) hs7 (DocR.new H7 2 2) (new_inv (by decide)) fun hb H10 hs10 => ⟨_, rfl, br_f rfl ?_⟩
 refine hs10.alc fun b12 H13 hs13 => ⟨rfl, hs13.putAll 0 rfl rfl (edL_one hnE es0) fun H14 hs14 => ⟨_, rfl, rowIn_whole (hs14.block 0 rfl), _, rfl, rowIn_whole (hs14.block 0 rfl), _, rfl, rowIn_whole (hs14.block 0 rfl), ?_⟩⟩
 refine c10 (e := hnE) (s := es0) (hs14.front 1 rfl) k0 (by decide) ok fun H19 hs19 => ⟨_, rfl, .inr ⟨⟨_, rfl, rowIn_whole (hs19.block 1 rfl), rfl⟩, _, rfl, rowIn_whole (hs19.block 1 rfl), rfl⟩, ?_⟩
 rw [e1] at hs19 ⊢
 refine c10 (e := hnE) (s := es0) hs19 k1 (by decide) ok fun H22 hs22 => ⟨_, rfl, .inr ⟨_, rfl, rowIn_whole (hs22.block 1 rfl), rfl⟩, ?_⟩
 rw [e2] at hs22 ⊢
 refine c12 hs22 k2 (by decide) fun H25 hs25 => ⟨_, rfl, .inr ⟨_, rfl, rowIn_whole (hs25.block 1 rfl), rfl⟩, ?_⟩
 rw [e3] at hs25 ⊢
 refine c10 (e := hnE) (s := es0) hs25 k3 (by decide) ok fun H28 hs28 => ⟨_, rfl, ?_⟩
 rw [e4] at hs28 ⊢
 refine c15 hs28 k4 (by decide) fun K' P' F' H31 hP hF hs31 => ⟨_, rfl, ?_⟩
 refine hs31.alc fun b33 H34 hs34 => ⟨rfl, hs34.putAll 0 rfl rfl (histA_one _ _ _) fun H35 hs35 => br_t rfl (br_t rfl (br_t rfl (br_t rfl ⟨P'.p, P'.l, P'.c, hs35.get 0 rfl (j := 4) rfl, br_t (by rw [hP]; rfl) ⟨F'.p, F'.l, F'.c, hs35.get 0 rfl (j := 5) rfl, br_t (by rw [hF]; rfl) ⟨_, arrP_size (K', hn2), hist_row (hs35.block 0 rfl), ?_⟩⟩⟩)))⟩
 refine c19 (D := hn2) (hs35.doc 1 rfl) (by rw [x3]; decide) fun H40 he40 => ⟨_, rfl, ?_⟩
 rw [x3]
 refine br_t rfl ?_
 refine c14 ((hs35.step he40).front 4 rfl) k4 (by decide) fun H43 hs43 => ⟨_, rfl, ?_⟩
 rw [e5]
 exact hR H43 hs43.ext
end Go.Proofs
namespace Go.Proofs
open Go.Sh
variable {H0 H : Heap} {σ : List Rs} {R : Value → Heap → Prop}
theorem HOk.at {n : Nat} {all : List DocL} (h : ∀ d ∈ all, Inv d ∧ d.next ≤ n + 1) (hl : all.length ≤ n + 1) {k : Nat} (hk : k < all.length) : HOk n (atH all k) := by
 obtain ⟨h1, h2⟩ := at_len all k hk
 refine ⟨fun d hd => h d ?_, by omega⟩
 unfold atH at hd
 simp only at hd
 rcases hd with rfl | hd | hd
 ·rw [List.getD_eq_getElem?_getD, List.getElem?_eq_getElem hk]; exact List.getElem_mem hk
 ·exact List.mem_of_mem_take hd
 ·exact List.mem_of_mem_drop (List.mem_reverse.1 hd)
theorem HOk.all {n : Nat} {all : List DocL} {k : Nat} (hk : k < all.length) (h : HOk n (atH all k)) : ∀ d ∈ all, Inv d ∧ d.next ≤ n + 1 := fun d hd => by
 obtain ⟨a, x, b, rfl, rfl⟩ := at_split all hk
 rw [at_app] at h
 refine h.inv d ?_
 simp only [List.mem_append, List.mem_cons, List.mem_reverse] at hd ⊢
 rcases hd with h | h | h <;> simp [h]
end Go.Proofs
namespace Go.Proofs
open Go.Sh
variable {H0 H : Heap} {σ : List Rs} {R : Value → Heap → Prop}
theorem docs_get {P : Sl3} {ds : List DocL} {i : Nat} {D : DocL} (hs : St H0 H σ) (j : Nat) (hj : σ[j]? = some (docsRs P ds)) (hd : ds[i]? = some D) : ∃ a x, P.p = some a ∧ rowIn H (a.add (i * 4)) (arrP x) ∧ DocK H x ∧ x.2 = D := by
 obtain ⟨l, h1, h2⟩ := hs.docs j hj
 have : ∃ x, l[i]? = some x ∧ x.2 = D := by
  rw [← h1, List.getElem?_map] at hd
  cases hx : l[i]? with
  | none => rw [hx] at hd; cases hd
  | some x => rw [hx] at hd; cases hd; exact ⟨x, rfl, rfl⟩
 obtain ⟨x, hx, hxd⟩ := this
 obtain ⟨a, ha, hr, hk⟩ := h2.row hx
 exact ⟨a, x, ha, hr, hk, hxd⟩
theorem at_now {all : List DocL} {k : Nat} (hk : k < all.length) : (atH all k).now = all[k] := by unfold atH; simp [List.getD_eq_getElem?_getD, hk]
theorem branch_law {p : Option Addr} {l c : Nat} {es : List (Ed × EdS)} {un : Int} {e0 : Ed} {s0 : EdS} (hes : EdsR H p l es) (hlast : rdEd H e0 s0) (hR : ∀ H', Ext H H' → R (.bool true) H') : CallsH Try.prog 4 #[.slice p l c, .int .i64 un, .agg (edL e0 s0).toArray] H R := by
 refine Try.s4 ?_
 unfold Try.S4
 refine (St.nil H).alc fun b4 H5 hs5 => c6 fun H7 he7 => ⟨_, rfl, br_f rfl ?_⟩
 intro J9 hJ9
 have hs7 := hs5.step he7
 refine c7 (hes.ext hs7.ext) (by decide) fun H85 he85 => ⟨_, rfl, br_not (fun _ => hR _ (hs7.step he85).ext) fun hsm => ?_⟩
 have hs85 := hs7.step he85
 obtain ⟨hmost, hok⟩ := smallB_ok hsm
 have hesl := hes.len
 refine ⟨_, rfl, rowIn_whole (hs85.block 0 rfl), rfl, by decide, ?_⟩
 rw [elemE]
 refine hs85.alc fun b88 H89 hs89 => c7 (one_eds (hs89.block 0 rfl) (hlast.ext hs89.ext)) (by decide) fun H91 he91 => ⟨_, rfl, br_not (fun _ => hR _ (hs89.step he91).ext) fun hsm2 => br_dec (fun _ => hR _ (hs89.step he91).ext) fun hpos => hJ9 _ ?_⟩
 have hs91 := (hs89.step he91).tail
 obtain ⟨_, hok2⟩ := smallB_ok hsm2
 have hok2 := hok2 (e0, s0) (List.mem_singleton.2 rfl)
 have hlastOk : ∀ {H' : Heap}, Ext H H' → EdOk H' e0 s0 := fun he => ⟨hlast.ext he, by have := hok2.1; simp only at this; omega, by have := hok2.2; simp only at this; omega⟩
 refine c8 (fun hsz H12 he12 => ⟨_, _, rfl, ?_⟩) fun h => absurd h (by decide)
 refine (hs91.step he12).alc fun b15 H16 hs16 => ⟨rfl, hs16.putAll 0 rfl rfl (docA_one 5 5 1 .nil) fun H17 hs17 => ⟨_, rfl, rowIn_whole (hs17.block 0 rfl), ?_⟩⟩
 refine c9 (D := ⟨5, 5, 1, []⟩) hs17 (DocR.new H17 5 5) (new_inv hsz) fun hb H20 hs20 => ⟨_, rfl, br_f rfl ?_⟩
 intro X22 hX22
 have go : ∀ i, i ≤ es.length → ∀ (all : List DocL) (H1 : Heap), 1 ≤ all.length → all.length ≤ i + 1 → HOk i (atH all (all.length - 1)) → St H H1 [histRs hb (atH all (all.length - 1)), .cell b4 (edL e0 s0).toArray 39] → X22 [.int .i64 ((all.length - 1 : Nat) : Int), .int .i64 (i : Nat)] H1 := by
  refine upto fun i hi ih all H1 hl1 hl2 hk hs1 => hX22 _ _ _ (br_dec (fun hlt => ?_) fun hge => ?_)
  ·have hi' : i < es.length := by omega
   have hx := List.getElem?_eq_getElem hi'
   generalize es[i] = x at hx
   obtain ⟨e, s⟩ := x
   obtain ⟨a, hp, hrow, hed⟩ := eds_ok (hes.ext hs1.ext) hok hx
   have hedH : ∀ {H' : Heap}, Ext H H' → EdOk H' e s := fun he => let ⟨_, _, _, h3⟩ := eds_ok (hes.ext he) hok hx; h3
   refine ⟨a, hp, by omega, hlt, _, rfl, hrow, hs1.alc fun b28 H29 hs29 => ⟨rfl, hs29.putAll 0 rfl rfl (by simpa using edL_one e s) fun H30 hs30 => ⟨_, rfl, rowIn_whole (hs30.block 0 rfl), ?_⟩⟩⟩
   refine c10 (hs30.tail) hk (by omega) (hedH hs30.ext) fun H33 hs33 => ⟨_, rfl, ?_⟩
   have hlen : all.length = (all.length - 1) + 1 := by omega
   have hk1 := hk.doH e
   refine br_eq (fun h0 => ?_) fun hne => ?_
   ·have h0' : (doD (all.getD (all.length - 1) zeroD) e).1 = 0 := by
     unfold doH at h0
     split at h0
     ·assumption
     ·exact h0
    have hat := at_do hlen h0'
    rw [hat] at hs33 hk1
    generalize hDe : (doD (all.getD (all.length - 1) zeroD) e).2 = D' at hs33 hk1
    rw [wrap_id (by omega) (by omega), wrap_id (by omega) (by omega)]
    have := ih hi' (all ++ [D']) H33 (by simp) (by simp; omega) (by rw [List.length_append, List.length_singleton, show all.length + 1 - 1 = all.length - 1 + 1 from by omega]; exact hk1) (by rw [List.length_append, List.length_singleton, show all.length + 1 - 1 = all.length - 1 + 1 from by omega]; exact hs33)
    rw [List.length_append] at this
    rw [show ((all.length - 1 : Nat) : Int) + 1 = ((all.length + [D'].length - 1 : Nat) : Int) from by simp; omega]
    exact this
   ·have hsame : (doH (atH all (all.length - 1)) e).2 = atH all (all.length - 1) := by
     unfold doH at hne ⊢
     split at hne
     ·exact absurd rfl hne
     ·rename_i hn; rw [if_neg hn]
    rw [hsame] at hs33
    rw [wrap_id (by omega) (by omega)]
    exact ih hi' all H33 hl1 (by omega) (hk.mono (by omega)) hs33
  ·have hin : i = es.length := by omega
   have hinv := HOk.all (by omega) hk
   have hkm : ∀ m, m < all.length → HOk i (atH all m) := fun m hm => HOk.at hinv hl2 hm
   generalize hn : all.length - 1 = n at hk hs1
   have hall : all.length = n + 1 := by omega
   rw [wrap_id (n := ((n : Nat) : Int) + 1) (by omega) (by omega)]
   refine ⟨by omega, ?_⟩
   obtain ⟨k, hk0⟩ : ∃ k : Nat, Int.tmod un (((n : Nat) : Int) + 1) = k := ⟨(Int.tmod un (((n : Nat) : Int) + 1)).toNat, (Int.toNat_of_nonneg (Int.tmod_nonneg _ (by omega))).symm⟩
   have hkn : k ≤ n := by have := Int.tmod_lt_of_pos un (b := ((n : Nat) : Int) + 1) (by omega); omega
   rw [hk0]
   intro X35 hX35
   have go2 : ∀ t, t ≤ k → ∀ H1, St H H1 [histRs hb (atH all (n - t)), .cell b4 (edL e0 s0).toArray 39] → X35 [.int .i64 (t : Nat)] H1 := by
    refine upto fun t ht iht H1 hs1 => hX35 _ _ (br_dec (fun hlt => ?_) fun hge => ?_)
    ·have hat := at_undo (all := all) (k := n - t - 1) (by omega)
     rw [show n - t - 1 + 1 = n - t from by omega] at hat
     refine c12 hs1 (hkm _ (by omega)) (by omega) fun H39 hs39 => ⟨_, rfl, ?_⟩
     rw [hat] at hs39 ⊢
     refine br_ne (fun h => absurd rfl h) fun _ => ?_
     rw [wrap_id (by omega) (by omega)]
     exact iht (by omega) H39 hs39
    ·obtain rfl : t = k := by omega
     have hlt : n - t < all.length := by omega
     have hnow := at_now hlt
     obtain ⟨hpl, hfl⟩ := at_len all (n - t) hlt
     generalize hD : all[n - t] = D at hnow
     have hiD : Inv D := by rw [← hD]; exact (hinv _ (List.getElem_mem hlt)).1
     have hcD := hiD.cnt
     have hkn1 := hkm (n - t) hlt
     generalize hh : atH all (n - t) = h at hs1 hnow hpl hfl hkn1
     have hun : undoH ⟨(doD D e0).2, h.past ++ [D], []⟩ = (0, ⟨D, h.past, [(doD D e0).2]⟩) := undo_snoc
     refine c11 hs1 hkn1 fun A' H42 hd' hs42 => ⟨_, rfl, hs42.alc fun b44 H45 hs45 => ⟨hd'.size, hs45.putAll 0 rfl hd'.size hd'.one fun H46 hs46 => ⟨_, rfl, rowIn_whole (hs46.block 3 rfl), ?_⟩⟩⟩
     rw [hnow] at hs46 hd'
     refine c10 (hs46.front 2 rfl) hkn1 (by omega) (hlastOk hs46.ext) fun H49 hs49 => ⟨_, rfl, ?_⟩
     have hkd := hkn1.doH e0
     refine c15 hs49 hkd (by omega) fun K' P' F' H52 hP' hF' hs52 => ⟨_, rfl, hs52.alc fun b54 H55 hs55 => ⟨rfl, hs55.putAll 0 rfl rfl (histA_one _ _ _) fun H56 hs56 => br_ne (fun hne => ?_) fun h0 => ?_⟩⟩
     ·have hsame : (doH h e0).2 = h := by
       unfold doH at hne ⊢
       split at hne
       ·exact absurd rfl hne
       ·rename_i hn; rw [if_neg hn]
      rw [hsame] at hs56 hP' hF'
      rw [wrap_id (by omega) (by omega)]
      refine ⟨P'.p, P'.l, P'.c, hs56.get 0 rfl (j := 4) rfl, br_t (by rw [hP', hpl]; simp; omega) ⟨F'.p, F'.l, F'.c, hs56.get 0 rfl (j := 5) rfl, br_t (by rw [hF', hfl]; simp; omega) ⟨_, arrP_size (K', h.now), hist_row (hs56.block 0 rfl), _, hd'.size, rowIn_whole (hs56.block 5 rfl), ?_⟩⟩⟩
      have hdn := hs56.doc 1 rfl
      rw [hnow] at hdn ⊢
      refine c13 hdn (hs56.doc 6 rfl) hiD.ok (by omega) fun H62 he62 => ⟨_, rfl, ?_⟩
      rw [sameD_iff.2 rfl]
      exact hR _ (hs56.step he62).ext
     ·have h0' : (doD D e0).1 = 0 := by
       unfold doH at h0
       rw [hnow] at h0
       split at h0
       ·assumption
       ·exact h0
      have hdo : doH h e0 = (0, ⟨(doD D e0).2, h.past ++ [D], []⟩) := by unfold doH; rw [hnow, if_pos h0']
      rw [hdo] at hs56 hP' hF' hkd
      simp only [List.length_append, List.length_singleton] at hP'
      rw [wrap_id (n := ((n : Nat) : Int) - ((t : Nat) : Int)) (by omega) (by omega), wrap_id (by omega) (by omega)]
      have ent : ((n : Nat) : Int) - ((t : Nat) : Int) = ((n - t : Nat) : Int) := by omega
      rw [ent]
      obtain ⟨a, x, ha, hrow, hdk, hxd⟩ := docs_get (i := n - t) (D := D) hs56 2 rfl (by show (h.past ++ [D])[n - t]? = some D; rw [← hpl]; simp)
      refine ⟨P'.p, P'.l, P'.c, hs56.get 0 rfl (j := 4) rfl, br_t (by rw [hP', hpl]; simp) ⟨F'.p, F'.l, F'.c, hs56.get 0 rfl (j := 5) rfl, br_t (by rw [hF']; rfl) ⟨P'.p, P'.l, P'.c, hs56.get 0 rfl (j := 4) rfl, a, ha, by omega, by omega, _, arrP_size x, by rw [Int.toNat_natCast]; exact hrow, _, hd'.size, rowIn_whole (hs56.block 5 rfl), ?_⟩⟩⟩
      refine c13 (D := x.2) hdk (hs56.doc 6 rfl) (by rw [hxd]; exact hiD.ok) (by rw [hxd]; omega) fun H71 he71 => ⟨_, rfl, ?_⟩
      rw [sameD_iff.2 hxd]
      refine br_t rfl ?_
      refine c12 ((hs56.step he71).front 4 rfl) hkd (by omega) fun H74 hs74 => ⟨_, rfl, ?_⟩
      rw [hun] at hs74 ⊢
      refine br_t rfl ⟨_, hd'.size, rowIn_whole (hs74.block 5 rfl), ?_⟩
      have hku := hkd.undoH
      rw [hun] at hku
      refine c11 hs74 hku fun B' H78 hdb hs78 => ⟨_, rfl, .inr ⟨_, hd'.size, rowIn_whole (hs78.block 6 rfl), rfl⟩, ?_⟩
      refine c13 (D := D) hdb (hs78.doc 7 rfl) hiD.ok (by omega) fun H81 he81 => ⟨_, rfl, ?_⟩
      rw [sameD_iff.2 rfl]
      exact hR _ (hs78.step he81).ext
   exact go2 0 (Nat.zero_le _) H1 hs1
 exact go 0 (Nat.zero_le _) [⟨5, 5, 1, []⟩] H20 (Nat.le_refl 1) (Nat.le_refl 1) (HOk.start hsz) (hs20.del 1)
end Go.Proofs
namespace Go.Proofs
open Go.Sh Go.RowKit Go.ChangeShapes Go.WideShapes Go.ChangeAt
end Go.Proofs
namespace Go.Proofs
open Go.Sh Go.RowKit Go.ChangeShapes Go.WideShapes Go.ChangeAt Go.Deep
section
variable {H : Type} {enc : TypeId × Value → H} {W : World}
abbrev TrP (enc : TypeId × Value → H) (W : World) (fuel : Nat) (t : TypeId) (cs : List Value) (x : DataW H × List MemPlace) : Prop := DataW.trod enc Try.prog W 0 (fun _ => true) true fuel t cs = some x
theorem intsAt {fuel : Nat} {a0 : Option Addr} {len cap : Nat} {x : DataW H × List MemPlace} (hf : TrP enc W fuel 34 [.slice a0 len cap] x) : ∃ ls, len ≤ cap ∧ IS W.heap a0 len (ints ls) := by
 rcases open_ints Try.underlying34 Try.underlying3 (by kernel_rfl) hf with ⟨hcs, _⟩ | ⟨a, len2, cap2, zs, hcs, _, hl, _, hz, _, hc, hw⟩
 ·simp at hcs
  obtain ⟨rfl, rfl, rfl⟩ := hcs
  exact ⟨[], Nat.le_refl _, ⟨rfl, fun i v hv => by simp [ints] at hv⟩⟩
 ·simp at hcs
  obtain ⟨rfl, rfl, rfl⟩ := hcs
  have hzl : len ≤ zs.length := by rw [hz]; simp; omega
  refine ⟨zs.take len, hl, ⟨by rw [ints_len]; simp; omega, fun i v hv => ⟨a, rfl, ?_⟩⟩⟩
  have hi : i < len := by have := (List.getElem?_eq_some_iff.1 hv).1; rw [ints_len] at this; simp at this; omega
  have := hc i (by omega)
  rw [cell_eq] at this
  rw [this]
  have hg : (zs.take len)[i]? = some (zs.getD i 0) := by
   rw [List.getElem?_take_of_lt hi, List.getD_eq_getElem?_getD, List.getElem?_eq_getElem (by omega)]; rfl
  rw [ints_get hg] at hv
  exact hv
theorem fieldAt {t : TypeId} {fs : Array Field} {fuel : Nat} {cs : List Value} {x : DataW H × List MemPlace} (hs : Try.prog.underlying t = some (.struct fs)) (h : TrP enc W fuel t cs x) (i : Nat) {f : Field} {o ty c : Nat} (hf : fs[i]? = some f) (ho : f.offset = o) (ht : f.type = ty) (hc : Try.prog.cellsOf ty = c) :
    ∃ n y, n < fuel ∧ TrP enc W n ty ((cs.drop o).take c) y := by
  obtain ⟨xs, n, hfu, _, hl, hlen, hg⟩ := DataW.trod_struct hs h
  have := hg i f hf
  have hi := (Array.getElem?_eq_some_iff.1 hf).1
  rw [List.getElem?_eq_getElem (by omega), ho, ht, hc] at this
  exact ⟨n, _, by omega, this⟩
theorem one_get {cs : List Value} {o : Nat} {v : Value} (h : (cs.drop o).take 1 = [v]) : cs[o]? = some v := by
 have h4 : ((cs.drop o).take 1)[0]? = some v := by rw [h]; rfl
 rw [List.getElem?_take_of_lt (by omega), List.getElem?_drop] at h4
 simpa using h4
theorem intF {n : Nat} {cs : List Value} {o : Nat} {y : DataW H × List MemPlace} (h : TrP enc W n 3 ((cs.drop o).take 1) y) : ∃ m : Int, cs[o]? = some (.int .i64 m) := by
 obtain ⟨m, hm, _, _⟩ := DataW.trod_int Try.underlying3 h
 exact ⟨m, one_get hm⟩
theorem slF {t e n : Nat} {cs : List Value} {o : Nat} {y : DataW H × List MemPlace} (ht : Try.prog.underlying t = some (.slice e)) (h : TrP enc W n t ((cs.drop o).take 1) y) : ∃ s : Sl3, cs[o]? = some s.v ∧ TrP enc W n t [s.v] y := by
 rcases DataW.trod_slice ht h with ⟨h0, _⟩ | ⟨a, len, cap, elems, rest, m, _, h0, _⟩
 ·rw [h0] at h; exact ⟨.nil, one_get h0, h⟩
 ·rw [h0] at h; exact ⟨⟨some a, len, cap⟩, one_get h0, h⟩
theorem list19 {α : Type} {l : List α} (h : l.length = 19) : ∃ a b c d e f g i j k m n o p q r s t u, l = [a, b, c, d, e, f, g, i, j, k, m, n, o, p, q, r, s, t, u] := by
 match l, h with
 | [a, b, c, d, e, f, g, i, j, k, m, n, o, p, q, r, s, t, u], _ => exact ⟨a, b, c, d, e, f, g, i, j, k, m, n, o, p, q, r, s, t, u, rfl⟩
theorem sixF {t n : Nat} {cs : List Value} {o : Nat} {y : DataW H × List MemPlace} (ht : Try.prog.underlying t = some (.array 6 3)) (h : TrP enc W n t ((cs.drop o).take 6) y) :
    ∃ m : M6, cs[o]? = some (.int .i64 m.a) ∧ cs[o + 1]? = some (.int .i64 m.b) ∧ cs[o + 2]? = some (.int .i64 m.c) ∧ cs[o + 3]? = some (.int .i64 m.d) ∧ cs[o + 4]? = some (.int .i64 m.e) ∧ cs[o + 5]? = some (.int .i64 m.f) := by
  obtain ⟨xs, m, _, _, hl, hlen, hg⟩ := DataW.trod_array ht h
  have hc : Try.prog.cellsOf 3 = 1 := by kernel_rfl
  have each : ∀ i, i < 6 → ∃ z : Int, cs[o + i]? = some (.int .i64 z) := fun i hi => by
    have := hg i hi
    rw [hc, Nat.mul_one, List.getElem?_eq_getElem (by omega)] at this
    obtain ⟨z, hz⟩ := intF this
    rw [List.getElem?_take_of_lt hi, List.getElem?_drop] at hz
    exact ⟨z, hz⟩
  obtain ⟨a, ha⟩ := each 0 (by omega)
  obtain ⟨b, hb⟩ := each 1 (by omega)
  obtain ⟨c, hc⟩ := each 2 (by omega)
  obtain ⟨d, hd⟩ := each 3 (by omega)
  obtain ⟨e, he⟩ := each 4 (by omega)
  obtain ⟨f, hf⟩ := each 5 (by omega)
  exact ⟨⟨a, b, c, d, e, f⟩, ha, hb, hc, hd, he, hf⟩
theorem ptAt {n : Nat} {cs : List Value} {y : DataW H × List MemPlace} (h : TrP enc W n 120 cs y) : ∃ p : Pt, cs = [.int .i64 p.1, .int .i64 p.2] := by
 obtain ⟨_, _, _, h0⟩ := fieldAt (o := 0) (ty := 3) (c := 1) Try.underlying120 h 0 rfl rfl rfl (by kernel_rfl)
 obtain ⟨_, _, _, h1⟩ := fieldAt (o := 1) (ty := 3) (c := 1) Try.underlying120 h 1 rfl rfl rfl (by kernel_rfl)
 obtain ⟨x, hx⟩ := intF h0
 obtain ⟨y, hy⟩ := intF h1
 obtain ⟨xs, m, _, _, hl, _⟩ := DataW.trod_struct Try.underlying120 h
 have hl2 : cs.length = 2 := by rw [hl]; kernel_rfl
 match cs, hl2 with
 | [a, b], _ =>
  simp only [List.getElem?_cons_zero, List.getElem?_cons_succ, Option.some.injEq] at hx hy
  subst hx; subst hy
  exact ⟨(x, y), rfl⟩
theorem choose_list {α : Type} {P : Nat → α → Prop} {n : Nat} [Inhabited α] (h : ∀ i, i < n → ∃ x, P i x) : ∃ l : List α, l.length = n ∧ ∀ i x, l[i]? = some x → P i x := by
 obtain ⟨f, hf⟩ : ∃ f : Nat → α, ∀ i, i < n → P i (f i) := by
  have : ∀ i, ∃ x, i < n → P i x := fun i => by
   by_cases hi : i < n
   ·obtain ⟨x, hx⟩ := h i hi; exact ⟨x, fun _ => hx⟩
   ·exact ⟨default, fun h => absurd h hi⟩
  exact Classical.axiomOfChoice this
 refine ⟨(List.range n).map f, by simp, fun i x hx => ?_⟩
 have hi : i < n := by have := (List.getElem?_eq_some_iff.1 hx).1; simpa using this
 simp [hi] at hx
 subst hx
 exact hf i hi
theorem ptsAt {fuel : Nat} {s : Sl3} {x : DataW H × List MemPlace} (hf : TrP enc W fuel 35 [s.v] x) : ∃ pts : List Pt, s.l ≤ s.c ∧ IS2 W.heap s.p s.l pts := by
 rcases open_slice Try.underlying35 hf with ⟨hcs, _⟩ | ⟨a, len', cap', m, n, D, Pl, hcs, _, hl, hm, hmm, _, hx⟩
 ·obtain ⟨p, l, c⟩ := s
  simp only [Sl3.v, List.cons.injEq, Value.slice.injEq, and_true] at hcs
  obtain ⟨rfl, rfl, rfl⟩ := hcs
  exact ⟨[], Nat.le_refl _, IS2.nil _⟩
 ·obtain ⟨p, l, c⟩ := s
  simp only [Sl3.v, List.cons.injEq, Value.slice.injEq, and_true] at hcs
  obtain ⟨rfl, rfl, rfl⟩ := hcs
  have hml : l ≤ m := by rw [hmm]; simp; omega
  obtain ⟨pts, hlen, hpts⟩ := choose_list (P := fun i (p : Pt) => rowIn W.heap (a.add (i * 2)) #[.int .i64 p.1, .int .i64 p.2]) (n := l) fun i hi => by
   obtain ⟨cs, h1, h2⟩ := hx i (by omega)
   rw [show Try.prog.cellsOf 120 = 2 from by kernel_rfl] at h1
   obtain ⟨p, rfl⟩ := ptAt h2
   obtain ⟨_, _, hc⟩ := World.cells?_some h1
   refine ⟨p, fun j v hv => ?_⟩
   have hj : j < 2 := (Array.getElem?_eq_some_iff.1 hv).1
   have := hc j hj
   rw [cell_eq] at this
   rw [this]
   simpa using hv
  exact ⟨pts, hl, hlen, fun i x y hi => ⟨a, rfl, hpts i (x, y) hi⟩⟩
theorem edAt {fuel : Nat} {cs : List Value} {x : DataW H × List MemPlace} (h : TrP enc W fuel 39 cs x) : ∃ e s, cs = edL e s ∧ rdEd W.heap e s := by
 have hu := Try.underlying39
 obtain ⟨_, _, _, h0⟩ := fieldAt (o := 0) (ty := 3) (c := 1) hu h 0 rfl rfl rfl (by kernel_rfl)
 obtain ⟨_, _, _, h1⟩ := fieldAt (o := 1) (ty := 3) (c := 1) hu h 1 rfl rfl rfl (by kernel_rfl)
 obtain ⟨_, _, _, h2⟩ := fieldAt (o := 2) (ty := 3) (c := 1) hu h 2 rfl rfl rfl (by kernel_rfl)
 obtain ⟨_, _, _, h3⟩ := fieldAt (o := 3) (ty := 3) (c := 1) hu h 3 rfl rfl rfl (by kernel_rfl)
 obtain ⟨_, _, _, h4⟩ := fieldAt (o := 4) (ty := 3) (c := 1) hu h 4 rfl rfl rfl (by kernel_rfl)
 obtain ⟨_, _, _, h5⟩ := fieldAt (o := 5) (ty := 3) (c := 1) hu h 5 rfl rfl rfl (by kernel_rfl)
 obtain ⟨_, _, _, h6⟩ := fieldAt (o := 6) (ty := 3) (c := 1) hu h 6 rfl rfl rfl (by kernel_rfl)
 obtain ⟨_, _, _, h7⟩ := fieldAt (o := 7) (ty := 3) (c := 1) hu h 7 rfl rfl rfl (by kernel_rfl)
 obtain ⟨_, _, _, h8⟩ := fieldAt (o := 8) (ty := 3) (c := 1) hu h 8 rfl rfl rfl (by kernel_rfl)
 obtain ⟨_, _, _, h9⟩ := fieldAt (o := 9) (ty := 3) (c := 1) hu h 9 rfl rfl rfl (by kernel_rfl)
 obtain ⟨_, _, _, h10⟩ := fieldAt (o := 10) (ty := 34) (c := 1) hu h 10 rfl rfl rfl (by kernel_rfl)
 obtain ⟨_, _, _, h11⟩ := fieldAt (o := 11) (ty := 35) (c := 1) hu h 11 rfl rfl rfl (by kernel_rfl)
 obtain ⟨_, _, _, h12⟩ := fieldAt (o := 12) (ty := 37) (c := 6) hu h 12 rfl rfl rfl (by kernel_rfl)
 obtain ⟨_, _, _, h13⟩ := fieldAt (o := 18) (ty := 34) (c := 1) hu h 13 rfl rfl rfl (by kernel_rfl)
 obtain ⟨v0, g0⟩ := intF h0
 obtain ⟨v1, g1⟩ := intF h1
 obtain ⟨v2, g2⟩ := intF h2
 obtain ⟨v3, g3⟩ := intF h3
 obtain ⟨v4, g4⟩ := intF h4
 obtain ⟨v5, g5⟩ := intF h5
 obtain ⟨v6, g6⟩ := intF h6
 obtain ⟨v7, g7⟩ := intF h7
 obtain ⟨v8, g8⟩ := intF h8
 obtain ⟨v9, g9⟩ := intF h9
 obtain ⟨P, g10, t10⟩ := slF Try.underlying34 h10
 obtain ⟨S, g11, t11⟩ := slF Try.underlying35 h11
 obtain ⟨m, ga, gb, gc, gd, ge, gf⟩ := sixF Try.underlying37 h12
 obtain ⟨A, g18, t18⟩ := slF Try.underlying34 h13
 obtain ⟨ps, _, hps⟩ := intsAt t10
 obtain ⟨pts, _, hpts⟩ := ptsAt t11
 obtain ⟨qs, _, hqs⟩ := intsAt t18
 obtain ⟨xs, k, _, _, hl, _⟩ := DataW.trod_struct hu h
 have hl2 : cs.length = 19 := by rw [hl]; kernel_rfl
 refine ⟨⟨v0, v1, v2, v3, v4, v5, v6, v7, v8, v9, ps, pts, m, qs⟩, ⟨P, S, A⟩, ?_, ⟨hps, hpts, hqs⟩⟩
 obtain ⟨a, b, c, d, e, f, g, i, j, k, m', n, o, p, q, r, s, t, u, rfl⟩ := list19 hl2
 simp only [List.getElem?_cons_zero, List.getElem?_cons_succ, Option.some.injEq] at g0 g1 g2 g3 g4 g5 g6 g7 g8 g9 g10 g11 ga gb gc gd ge gf g18
 subst g0 g1 g2 g3 g4 g5 g6 g7 g8 g9 g10 g11 ga gb gc gd ge gf g18
 rfl
instance : Inhabited (Ed × EdS) := ⟨⟨0, 0, 0, 0, 0, 0, 0, 0, 0, 0, [], [], ⟨0, 0, 0, 0, 0, 0⟩, []⟩, ⟨.nil, .nil, .nil⟩⟩
theorem editsIn_of {v : Value} {d : DataW H} {ps : List MemPlace} {base : Nat} (hv : Value.okWide Try.prog W .any base 22 v) (h : DataW.Trod enc Try.prog W 0 (fun _ => true) true 22 v d ps) :
    ∃ a l c es, v = .slice a l c ∧ l ≤ c ∧ EdsR W.heap a l es := by
  obtain ⟨a0, len, cap, rfl⟩ := okWide_slice Try.underlying22 hv
  obtain ⟨fuel, hf⟩ := h
  rcases open_slice Try.underlying22 hf with ⟨hcs, _⟩ | ⟨a, len', cap', m, n, D, Pl, hcs, _, hl, hm, hmm, _, hx⟩
  · simp only [Value.cells] at hcs
    simp at hcs
    obtain ⟨rfl, rfl, rfl⟩ := hcs
    exact ⟨none, 0, 0, [], rfl, Nat.le_refl _, rfl, fun i e s hx => by simp at hx⟩
  · simp only [Value.cells] at hcs
    simp at hcs
    obtain ⟨rfl, rfl, rfl⟩ := hcs
    have hml : len ≤ m := by rw [hmm]; simp; omega
    obtain ⟨es, hlen, hes⟩ := choose_list (P := fun i (x : Ed × EdS) => rowIn W.heap (a.add (i * 19)) (edL x.1 x.2).toArray ∧ rdEd W.heap x.1 x.2) (n := len) fun i hi => by
      obtain ⟨cs, h1, h2⟩ := hx i (by omega)
      rw [show Try.prog.cellsOf 39 = 19 from by kernel_rfl] at h1
      obtain ⟨e, s, rfl, hrd⟩ := edAt h2
      obtain ⟨_, _, hc⟩ := World.cells?_some h1
      refine ⟨(e, s), fun j v hv => ?_, hrd⟩
      have hj : j < 19 := (Array.getElem?_eq_some_iff.1 hv).1
      have := hc j hj
      rw [cell_eq] at this
      rw [this]
      simpa using hv
    exact ⟨some a, len, cap, es, rfl, hl, hlen, fun i e s hi => let ⟨h1, h2⟩ := hes i (e, s) hi; ⟨a, rfl, h1, h2⟩⟩
theorem editIn_of {v : Value} {d : DataW H} {ps : List MemPlace} {base : Nat} (hv : Value.okWide Try.prog W .any base 39 v) (h : DataW.Trod enc Try.prog W 0 (fun _ => true) true 39 v d ps) :
    ∃ e s, v = .agg (edL e s).toArray ∧ rdEd W.heap e s := by
  obtain ⟨cs, rfl, _⟩ := okWide_struct Try.underlying39 hv
  obtain ⟨fuel, hf⟩ := h
  obtain ⟨e, s, h1, h2⟩ := edAt hf
  have h1 : cs.toList = edL e s := h1
  exact ⟨e, s, by rw [← h1], h2⟩
end
end Go.Proofs
