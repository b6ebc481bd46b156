/-
  OWN WORK. Several texts in one: TsBegun, TtC, TtD, TtE, TtF, TtG, TtH, TtI, TtJ, TtK, TtL, ShV, TtM, RnK.
-/
import Derived.Test.YtgkfijgdkegdkaaMgRenderInvertE
import Derived.Test.YtgkfijgdkegdkaaMgRenderInvertB

set_option linter.unusedVariables false
set_option linter.unusedSimpArgs false
set_option maxRecDepth 10000
namespace Go.Proofs
open Go.Sh
variable {H0 H : Heap} {σ : List Rs} {R : Value → Heap → Prop}
def layRs (B : Array Value) (l : Lay) : Rs := .ex fun (t : T) => .pu (B = (cellsT t).toArray ∧ layT t = l) (starAll (resT t))
theorem _root_.Go.Sh.St.lay (hs : St H0 H σ) (i : Nat) {B : Array Value} {l : Lay} (hi : σ[i]? = some (layRs B l)) : LayR H B l := by
 obtain ⟨t, h1⟩ := St.unex (hs.front i hi)
 obtain ⟨⟨h2, h3⟩, h4⟩ := St.fact h1
 exact ⟨t, h2, St.rdT t (St.unpackAll _ h4), h3⟩
theorem LayR.size {H : Heap} {B : Array Value} {l : Lay} (h : LayR H B l) : B.size = 19 := by obtain ⟨t, rfl, _⟩ := h; simp [cellsT_len]
theorem LayR.one {H : Heap} {B : Array Value} {l : Lay} (h : LayR H B l) : ∀ v ∈ B.toList, v.oneCell' = true := by obtain ⟨t, rfl, _⟩ := h; simpa using cellsT_one t
end Go.Proofs
namespace Go.Proofs
open Go.Sh
variable {H0 H : Heap} {σ : List Rs} {R : Value → Heap → Prop}
structure RT where
 f : LayF
 to : Int
 P : Sl3
 M : Sl3
 A : Sl3
def RT.rw (r : RT) : Rw := ⟨r.f, r.to⟩
def cellsR (r : RT) : List Value :=
 [.int .i64 r.f.id, .int .i64 r.f.kind, .int .i64 r.to, .bool r.f.hidden, .int .i64 r.f.opacity, .int .i64 r.f.mode, .int .i64 r.f.w, .int .i64 r.f.h, r.P.v, r.M.v,
  .int .i64 r.f.map.a, .int .i64 r.f.map.b, .int .i64 r.f.map.c, .int .i64 r.f.map.d, .int .i64 r.f.map.e, .int .i64 r.f.map.f, .bool r.f.smooth, .int .i64 r.f.table, r.A.v]
structure rdR (H : Heap) (r : RT) : Prop where
 p : IS H r.P.p r.P.l (ints r.f.p)
 mask : IS H r.M.p r.M.l (kints .u8 r.f.mask)
 params : IS H r.A.p r.A.l (ints r.f.params)
theorem rdR.ext {H H' : Heap} {r : RT} (h : rdR H r) (he : Ext H H') : rdR H' r := ⟨h.p.ext he, h.mask.ext he, h.params.ext he⟩
end Go.Proofs
namespace Go.Proofs
open Go.Sh
variable {H0 H : Heap} {σ : List Rs} {R : Value → Heap → Prop}
end Go.Proofs
namespace Go.Proofs
open Go.Sh
variable {H0 H : Heap} {σ : List Rs} {R : Value → Heap → Prop}
end Go.Proofs
namespace Go.Proofs
open Go.Sh
variable {H0 H : Heap} {σ : List Rs} {R : Value → Heap → Prop}
structure ChgR (g : Int × LayF) (H : Heap) (r : RT) (R : Value → Heap → Prop) : Prop where
 bad : g.1 ≠ 0 → ∀ H', Ext H H' → R (.tuple #[.agg (cellsR r).toArray, .int .i64 g.1]) H'
 ok : g.1 = 0 → ∀ (r' : RT) H' τ, r'.f = g.2 → r'.to = r.to → St H H' τ → (∀ H'' fps, rdR H'' r → Lie H'' τ fps → rdR H'' r') → R (.tuple #[.agg (cellsR r').toArray, .int .i64 0]) H'
theorem ChgR.err {g : Int × LayF} {r : RT} (hc : ChgR g H r R) {v : Int} {x : LayF} (hg : g = (v, x)) (hv : v ≠ 0) {H' : Heap} (he : Ext H H') : R (.tuple #[.agg (cellsR r).toArray, .int .i64 v]) H' := by
 have := hc.bad (by rw [hg]; exact hv) H' he
 rw [hg] at this; exact this
end Go.Proofs
namespace Go.Proofs
open Go.Sh
variable {H0 H : Heap} {σ : List Rs} {R : Value → Heap → Prop}
theorem IS.nil (H : Heap) : IS H none 0 [] := ⟨rfl, fun i v h => by simp at h⟩
end Go.Proofs
namespace Go.Proofs
open Go.Sh
variable {H0 H : Heap} {σ : List Rs} {R : Value → Heap → Prop}
end Go.Proofs
namespace Go.Proofs
open Go.Sh
variable {H0 H : Heap} {σ : List Rs} {R : Value → Heap → Prop}
end Go.Proofs
namespace Go.Proofs
open Go.Sh
variable {H0 H : Heap} {σ : List Rs} {R : Value → Heap → Prop}
end Go.Proofs
namespace Go.Proofs
open Go.Sh
variable {H0 H : Heap} {σ : List Rs} {R : Value → Heap → Prop}
theorem IS.bs {H : Heap} {p : Option Addr} {l : Nat} {xs : List Int} (h : IS H p l (kints .u8 xs)) : bsOf H p l xs := by
 cases p with
 | none =>
  exact List.eq_nil_iff_forall_not_mem.2 fun v hv => by
   obtain ⟨i, hi⟩ := List.getElem?_of_mem hv
   obtain ⟨a, h1, _⟩ := h.get i _ (kints_get hi)
   cases h1
 | some a =>
  refine ⟨h.length, fun j v hv => ?_⟩
  obtain ⟨a', h1, h2⟩ := h.get j v (by simpa [kints] using hv)
  cases h1; exact h2
structure EdsR (H : Heap) (p : Option Addr) (l : Nat) (es : List (Ed × EdS)) : Prop where
 len : es.length = l
 get : ∀ (i : Nat) e s, es[i]? = some (e, s) → ∃ a, p = some a ∧ rowIn H (a.add (i * 19)) (edL e s).toArray ∧ rdEd H e s
theorem EdsR.ext {H H' : Heap} {p : Option Addr} {l : Nat} {es : List (Ed × EdS)} (h : EdsR H p l es) (he : Ext H H') : EdsR H' p l es := ⟨h.len, fun i e s hi => let ⟨a, h1, h2, h3⟩ := h.get i e s hi; ⟨a, h1, rowAt_ext he h2, h3.ext he⟩⟩
end Go.Proofs
namespace Go.Proofs
open Go.Sh
variable {H0 H : Heap} {σ : List Rs} {R : Value → Heap → Prop}
end Go.Proofs
namespace Go.Sh
variable {H0 H H' : Heap} {σ τ : List Rs}
theorem Ext.empty (H : Heap) : Ext #[] H := fun b o h => by simp at h
end Go.Sh
namespace Go.Proofs
open Go.Sh
variable {H0 H : Heap} {σ : List Rs} {R : Value → Heap → Prop}
end Go.Proofs
namespace Go.Proofs
open Go.Sh
variable {H0 H : Heap} {σ : List Rs} {R : Value → Heap → Prop}
def rnE1 : Ed := ed0 1 0 0 (-1) 0 0 0 0 2 1
def rnE2 : Ed := ⟨4, 1, 0, 0, 0, 0, 0, 0, 2, 1, [4278190335, 4278190335], [], zeroM, []⟩
def rnE3 : Ed := ed0 5 1 0 0 128 0 0 0 0 0
def rn0 : DocL := ⟨2, 1, 1, []⟩
def rn1 : DocL := (doD rn0 rnE1).2
def rn2 : DocL := (doD rn1 rnE2).2
def rn3 : DocL := (doD rn2 rnE3).2
theorem rn_ok : (doD rn0 rnE1).1 = 0 ∧ (doD rn1 rnE2).1 = 0 ∧ (doD rn2 rnE3).1 = 0 ∧ rn1.next = 2 ∧ rn2.next = 2 ∧ rn3.w = 2 ∧ rn3.h = 1 := by decide +kernel
theorem rn_pic : wholeL rn3 = [2147483776, 2147483776] := by decide +kernel
theorem rn_white : whiteL [2147483776, 2147483776] = [255, 127, 127, 255, 127, 127] := by decide +kernel
theorem c4 (hR : ∀ H', Ext H H' → R (.bool true) H') : CallsH Try.prog 4 #[] H R := by
 obtain ⟨x1, x2, x3, n1, n2, w3, h3⟩ := rn_ok
 have i0 : Inv rn0 := new_inv (by decide)
 have i1 : Inv rn1 := do_inv i0 x1
 have i2 : Inv rn2 := do_inv i1 x2
 have i3 : Inv rn3 := do_inv i2 x3
 refine Try.s4 (_u := ()) ?_
 unfold Try.S4
 refine c5 (fun _ H2 he2 => ⟨_, _, rfl, ?_⟩) fun h => absurd h (by decide)
 refine (St.of_ext he2).alc fun b5 H6 hs6 => ⟨rfl, hs6.putAll 0 rfl rfl (docA_one 2 1 1 .nil) fun H7 hs7 => ⟨_, rfl, rowIn_whole (hs7.block 0 rfl), ?_⟩⟩
 refine do_st (D := rn0) (e := rnE1) (s := es0) hs7 (DocR.new H7 2 1) i0 (by decide) (ed0_ok H7 ..) fun A1 H10 hd1 hs10 => ⟨_, _, rfl, hd1.size, hs10.putAll 1 rfl hd1.size hd1.one fun H13 hs13 => ⟨A1, hd1.size, rowIn_whole (hs13.block 1 rfl), hs13.alc fun b15 H16 hs16 => ?_⟩⟩
 have hs16 : St H H16 [.cell b15 (ints [4278190335, 4278190335]).toArray 3, docRs A1 rn1, .cell b5 A1 26] := hs16
 have hed : EdOk H16 rnE2 ⟨⟨some ⟨b15, 0, none⟩, 2, 2⟩, .nil, .nil⟩ := ⟨⟨hs16.isA 0 rfl rfl, IS2.nil _, ⟨rfl, fun i v h => by simp [rnE2, ints] at h⟩⟩, by decide, by decide⟩
 refine do_st (D := rn1) (e := rnE2) (s := ⟨⟨some ⟨b15, 0, none⟩, 2, 2⟩, .nil, .nil⟩) hs16 (hs16.doc 1 rfl) i1 (by rw [n1]; decide) hed fun A2 H18 hd2 hs18 => ⟨_, _, rfl, hd2.size, hs18.putAll 3 rfl (hd2.size.trans hd1.size.symm) hd2.one fun H21 hs21 => ⟨A2, hd2.size, rowIn_whole (hs21.block 3 rfl), ?_⟩⟩
 refine do_st (D := rn2) (e := rnE3) (s := es0) hs21 (hs21.doc 0 rfl) i2 (by rw [n2]; decide) (ed0_ok H21 ..) fun A3 H24 hd3 hs24 => ⟨_, _, rfl, hd3.size, hs24.putAll 4 rfl (hd3.size.trans hd2.size.symm) hd3.one fun H27 hs27 => ⟨A3, hd3.size, rowIn_whole (hs27.block 4 rfl), ?_⟩⟩
 refine c7 (D := rn3) (hs27.doc 0 rfl) i3 fun bw H30 hs30 => ⟨_, rfl, ?_⟩
 have hn : (wholeP rn3).n = 2 := by show (rn3.w * rn3.h).toNat = 2; rw [w3, h3]; rfl
 rw [rn_pic] at hs30
 rw [w3, h3, hn]
 refine ((hs27.call hs30)).alc fun b32 H33 hs33 => ⟨rfl, hs33.putAll 0 rfl rfl (by simp [Value.oneCell', slV]) fun H34 hs34 => ⟨_, rfl, rowIn_whole (hs34.block 0 rfl), ?_⟩⟩
 refine c8 (hs34.isA 1 rfl rfl) (by decide) fun Q H37 hQ hs37 => ⟨_, _, _, rfl, ?_⟩
 rw [rn_white] at hs37
 have h37 := hs34.call hs37
 have hQ6 : Q.l = 6 := hQ
 have hw := hs37.is 0 rfl
 refine ⟨_, _, _, h37.get 1 rfl (j := 2) rfl, br_t rfl ⟨_, _, _, h37.get 1 rfl (j := 2) rfl, _, rfl, by decide, by decide, _, h37.rdA 2 (j := 0) rfl rfl, br_t rfl (br_t (by rw [hQ6]; rfl) ?_)⟩⟩
 refine hw.rd (k := .u8) (i := 0) (by decide) (by omega) rfl (br_t rfl (hw.rd (k := .u8) (i := 1) (by decide) (by omega) rfl (hR H37 h37.ext)))
end Go.Proofs
