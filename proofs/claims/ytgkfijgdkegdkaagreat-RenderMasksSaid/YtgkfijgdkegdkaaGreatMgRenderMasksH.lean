/-
  OWN WORK. Several texts in one: TsBackP, RnL, RnGroups, RnM, RnHid, RnMaskP, RnMask, OpBytes, OpTree.
-/
import Derived.Test.YtgkfijgdkegdkaaGreatMgRenderMasksG
import Derived.Test.YtgkfijgdkegdkaaGreatRows
import Derived.Test.YtgkfijgdkegdkaaGreatMgRenderMasksB
import Derived.ChangeSlices
import Derived.Deep.Slices

set_option linter.unusedVariables false
set_option linter.unusedSimpArgs false
set_option maxRecDepth 10000
namespace Go.Proofs
open Go.Sh
end Go.Proofs
namespace Go.Proofs
open Go.Sh
theorem doD_of {D : DocL} {e : Ed} {n : Int} {ks : List Lay} (hk : 1 ≤ e.kind ∧ e.kind ≤ 9) (h : stepL D.w D.h D.next D.ks e = (0, ks)) (hn : nextL D.next e = n) : doD D e = (0, ⟨D.w, D.h, n, ks⟩) := by
 have : doL D.w D.h D.next D.ks e = (0, n, ks) := by unfold doL; rw [if_neg (by omega), h, if_neg (fun hh => hh rfl), hn]
 unfold doD
 rw [this, if_neg (fun hh => hh rfl)]
end Go.Proofs
namespace Go.Proofs
open Go.Sh
variable {H0 H : Heap} {σ : List Rs} {R : Value → Heap → Prop}
end Go.Proofs
namespace Go.Proofs
open Go.Sh
variable {H0 H : Heap} {σ : List Rs} {R : Value → Heap → Prop}
def looksL (W x y : Int) (A B : List Lay) : Prop := ∀ o, pixelB o = true → lsPx W x y A o = lsPx W x y B o
theorem adj_none {t : List Int} {c : C4} (hc : OkC c) : adjP t 0 c = c := by
 have one : ∀ {i : Int}, i ≤ c.a → adjP1 t 0 i c.a = i := fun {i} h => by
  unfold adjP1
  rw [mulP_0, show (255 : Int) - 0 = 255 from rfl, mulP_255]; omega
 exact C4.ext' (one hc.r.2) (one hc.g.2) (one hc.b.2) rfl
theorem part_mask {f : LayF} {i : Int} (h : f.mask.length ≠ 0) (h0 : f.mask.getD i.toNat 0 = 0) : partP f i = 0 := by unfold partP; rw [if_neg h, h0]; exact mulP_0 _
theorem lay_none {W x y : Int} {f : LayF} {ks : List Lay} {o : Int} (h : partP f (y * W + x) = 0) (ho : pixelB o = true) : layPx W x y (.mk f ks) o = o := by
 rw [layPx, h]
 split
 ·rfl
 split
 ·unfold adjustP
  rw [adj_none (spl_ok ho), join_spl (pixelB_iff.1 ho).1]
 ·unfold overP
  rw [if_neg (by omega)]
theorem del_do {D : DocL} {id : Int} {fr : FrL} {u : List FrL} {ks : List Lay} (hf : flK [] [] id D.ks = some (fr :: u, ks)) : doD D (ed0 2 id 0 0 0 0 0 0 0 0) = (0, ⟨D.w, D.h, D.next, plugL u (fr.pre ++ fr.post)⟩) :=
 doD_of ⟨show (1 : Int) ≤ 2 by decide, show (2 : Int) ≤ 9 by decide⟩ (by
  show removeL D.ks id = _
  unfold removeL
  rw [hf]) rfl
theorem looks_gone {W x y : Int} {w h n : Int} {pre post : List Lay} {t : Lay} (hg : gKs (goodF w h n) pre) (ht : ∀ o, pixelB o = true → layPx W x y t o = o) : looksL W x y (pre ++ t :: post) (pre ++ post) := fun o ho => by
 rw [lsPx_app, lsPx_app, lsPx, ht _ (ls_px W x y hg ho)]
theorem one_pic {b n : Nat} {w h : Int} : ∀ v ∈ (#[.int .i64 w, .int .i64 h, slV b n] : Array Value).toList, v.oneCell' = true := by simp [Value.oneCell', slV]
theorem St.call1 {H1 : Heap} {r : Rs} (hs : St H0 H σ) (ht : St H H1 [r]) : St H0 H1 (r :: σ) := hs.call ht
end Go.Proofs
namespace Go.Proofs
open Go.Sh
variable {H0 H : Heap} {σ : List Rs} {R : Value → Heap → Prop}
abbrev pixZero (b : Nat) : Rs := .cell b #[.int .i64 0, .int .i64 0, .slice none 0 0] 34
abbrev pixRs (b : Nat) (g : List Int) : Rs := .cell b (ints g).toArray 3
def picV (b : Nat) : Array Value := #[.int .i64 8, .int .i64 8, slV b 64]
end Go.Proofs
namespace Go.Proofs
open Go.Sh
theorem msk_do {D : DocL} {id : Int} {fr : FrL} {u : List FrL} {ks : List Lay} (hf : flK [] [] id D.ks = some (fr :: u, ks)) : doD D (ed0 7 id 0 0 2 0 0 0 0 0) = (0, ⟨D.w, D.h, D.next, plugL (⟨fr.pre, { fr.f with mask := [] }, fr.post⟩ :: u) ks⟩) :=
 doD_of ⟨show (1 : Int) ≤ 7 by decide, show (7 : Int) ≤ 9 by decide⟩ (chg_ok (g := maskF D.w D.h (ed0 7 id 0 0 2 0 0 0 0 0)) hf (by
  unfold maskF
  rw [if_neg (show ¬ ((ed0 7 id 0 0 2 0 0 0 0 0).n < 0 ∨ (ed0 7 id 0 0 2 0 0 0 0 0).n > 2) from (show ¬ ((2 : Int) < 0 ∨ (2 : Int) > 2) by decide)), if_pos (show (ed0 7 id 0 0 2 0 0 0 0 0).n = 2 from rfl)])) rfl
theorem lay_bare {W x y : Int} {f : LayF} {ks : List Lay} {o : Int} (h : partP f (y * W + x) = partP { f with mask := [] } (y * W + x)) : layPx W x y (.mk f ks) o = layPx W x y (.mk { f with mask := [] } ks) o := by
 rw [layPx, layPx, ← h]; rfl
theorem wholeP_ix (D : DocL) (hw : 0 < D.w) (i : Nat) : (wholeP D).Y i * (wholeP D).W + (wholeP D).X i = i := by
 have e := Int.mul_ediv_add_emod (i : Int) D.w
 show (0 + (i : Int) / D.w) * D.w + (0 + (i : Int) % D.w) = i
 rw [Int.zero_add, Int.zero_add, Int.mul_comm]; exact e
theorem wholeL_at (D : DocL) {i : Nat} (h : i < (wholeP D).n) : (wholeL D).getD i 0 = lsPx D.w ((wholeP D).X i) ((wholeP D).Y i) D.ks 0 := plL_at (p := wholeP D) h
theorem mask_off {D : DocL} {pre post ks : List Lay} {f : LayF} {m : Int} (hi : Inv D) (hk : D.ks = pre ++ .mk f ks :: post) {i : Nat} (hin : i < (wholeP D).n) (hm : f.mask.length ≠ 0) (h0 : f.mask.getD i 0 = 0) : (wholeL D).getD i 0 = (wholeL ⟨D.w, D.h, m, pre ++ post⟩).getD i 0 := by
 have hg := hi.good
 rw [hk, gKs_app] at hg
 have hs := hi.sides
 rw [wholeL_at D hin, wholeL_at (⟨D.w, D.h, m, pre ++ post⟩ : DocL) hin, hk]
 exact looks_gone (W := D.w) (x := (wholeP D).X i) (y := (wholeP D).Y i) hg.1 (fun o ho => lay_none (part_mask hm (by
  have e := wholeP_ix D (by omega) i
  rw [show (wholeP D).Y i * D.w + (wholeP D).X i = i from e, Int.toNat_natCast]; exact h0)) ho) 0 pixZ0
theorem mask_on {D : DocL} {pre post ks : List Lay} {f : LayF} {m : Int} (hi : Inv D) (hk : D.ks = pre ++ .mk f ks :: post) {i : Nat} (hin : i < (wholeP D).n) (hm : f.mask.length ≠ 0) (h0 : f.mask.getD i 0 = 255) : (wholeL D).getD i 0 = (wholeL ⟨D.w, D.h, m, pre ++ .mk { f with mask := [] } ks :: post⟩).getD i 0 := by
 have hs := hi.sides
 rw [wholeL_at D hin, wholeL_at (⟨D.w, D.h, m, pre ++ .mk { f with mask := [] } ks :: post⟩ : DocL) hin, hk]
 show lsPx D.w ((wholeP D).X i) ((wholeP D).Y i) (pre ++ .mk f ks :: post) 0 = lsPx D.w ((wholeP D).X i) ((wholeP D).Y i) (pre ++ .mk { f with mask := [] } ks :: post) 0
 rw [lsPx_app, lsPx_app, lsPx, lsPx, lay_bare]
 have e := wholeP_ix D (by omega) i
 rw [show (wholeP D).Y i * D.w + (wholeP D).X i = i from e]
 unfold partP
 rw [if_neg hm, Int.toNat_natCast, h0, mulP_255]
 exact (if_pos rfl).symm
theorem gid_root {w h n : Int} {u : List FrL} (hg : gUp (goodF w h n) u) (h0 : gid u = 0) : u = [] := by
 cases u with
 | nil => rfl
 | cons fr u =>
  have := hg.2.2.1.id
  have h0 : fr.f.id = 0 := h0
  omega
end Go.Proofs
namespace Go.Proofs
open Go.Sh
variable {H0 H : Heap} {σ : List Rs} {R : Value → Heap → Prop}
set_option maxHeartbeats 2000000 in
theorem msk_law {p : Option Addr} {l c : Nat} {es : List (Ed × EdS)} {id : Int} (hes : EdsR H p l es) (hR : ∀ H', Ext H H' → R (.bool true) H') : CallsH Tryz.prog 8 #[.slice p l c, .int .i64 id] H R := by
 refine Tryz.s8 ?_
 unfold Tryz.S8
 refine c9 fun H4 he4 => ⟨_, rfl, br_f rfl ?_⟩
 refine played_call (hes.ext he4) (fun A B H7 hA hB oA oB hdA he7 => ⟨_, _, _, rfl, ?_⟩) fun A D Kd rs L H7 hsz hw16 hh16 hi hDw hDh hnx hmem hrel hs7 => ⟨_, _, _, rfl, ?_⟩
 ·have hdA := hdA (by decide)
  have hi0 : Inv (⟨8, 8, 1, []⟩ : DocL) := new_inv (by decide)
  refine (St.nil H7).alc fun b11 H12 hs12 => hs12.alc fun b13 H14 hs14 => ⟨hA, hs14.putAll 1 rfl hA oA fun H15 hs15 => ⟨hB, hs15.putAll 0 rfl hB oB fun H16 hs16 => ?_⟩⟩
  have hs16 : St H7 H16 [.cell b13 B 29, .cell b11 A 26] := by simpa using hs16
  refine ⟨A, hA, rowIn_whole (hs16.block 1 rfl), find_st hs16 (hdA.ext hs16.ext) hi0 (fun _ H19 hs19 => ⟨_, _, rfl, ?_⟩) fun lf hlf => by cases hlf⟩
  refine hs19.alc fun b22 H23 hs23 => ⟨rfl, hs23.putAll 0 rfl rfl (by intro v hv; exact cellsT_one (.mk zeroF .nil .nil .nil .nil []) v hv) fun H24 hs24 => ?_⟩
  refine ⟨A, hA, rowIn_whole (hs24.block 3 rfl), c20 (hdA.ext hs24.ext) (by decide) fun H27 he27 => ⟨_, _, _, rfl, ?_⟩⟩
  intro J31 hJ31
  exact br_t rfl (hR _ (he4.trans (he7.trans (hs24.ext.trans he27))))
 have hd := hs7.doc 0 rfl
 have hcnt := hi.cnt
 refine ((St.of_ext he4).callR hs7).alc fun b11 H12 hs12 => hs12.alc fun b13 H14 hs14 => ⟨hd.size, hs14.putAll 1 rfl hd.size hd.one fun H15 hs15 => ⟨rfl, hs15.putAll 0 rfl rfl (docA_one _ _ _ _) fun H16 hs16 => ?_⟩⟩
 have hs16 : St H H16 [.cell b13 (docA D.w D.h D.next Kd) 29, .cell b11 A 26, docRs A D, poolRs L] := hs16
 rcases fl_cases id D.ks with hf | ⟨fr, u, ks, hf, hid, hp⟩
 ·have hfl : findL D.ks id = none := by unfold findL; rw [hf]
  refine ⟨A, hd.size, rowIn_whole (hs16.block 1 rfl), find_st hs16 (hs16.doc 2 rfl) hi (fun _ H19 hs19 => ⟨_, _, rfl, ?_⟩) fun lf hlf => by rw [hfl] at hlf; cases hlf⟩
  refine hs19.alc fun b22 H23 hs23 => ⟨rfl, hs23.putAll 0 rfl rfl (by intro v hv; exact cellsT_one (.mk zeroF .nil .nil .nil .nil []) v hv) fun H24 hs24 => ?_⟩
  refine ⟨A, hd.size, rowIn_whole (hs24.block 3 rfl), c20 (hs24.doc 4 rfl) (by omega) fun H27 he27 => ⟨_, _, _, rfl, ?_⟩⟩
  intro J31 hJ31
  exact br_f rfl (br_t rfl (hR _ (hs24.step he27).ext))
 have hfl : findL D.ks id = some (.mk fr.f ks) := by unfold findL; rw [hf]
 have hpar : parentL D.ks id = (gid u, (fr.pre.length : Int), true) := by unfold parentL; rw [hf]; cases u <;> rfl
 refine ⟨A, hd.size, rowIn_whole (hs16.block 1 rfl), find_st hs16 (hs16.doc 2 rfl) hi (fun hlf => by rw [hfl] at hlf; cases hlf) fun lf hlf B H19 hlr hs19 => ⟨_, _, rfl, ?_⟩⟩
 rw [hfl] at hlf
 cases hlf
 obtain ⟨hgood, hkk⟩ := Inv.found hi hf
 refine hs19.alc fun b22 H23 hs23 => ⟨hlr.size, hs23.putAll 0 rfl (by rw [Array.length_toList, hlr.size]; rfl) hlr.one fun H24 hs24 => ?_⟩
 have hs24 : St H H24 [.cell b22 B 58, layRs B (.mk fr.f ks), .cell b13 (docA D.w D.h D.next Kd) 29, .cell b11 A 26, docRs A D, poolRs L] := by simpa using hs24
 refine ⟨A, hd.size, rowIn_whole (hs24.block 3 rfl), c20 (hs24.doc 4 rfl) (by omega) fun H27 he27 => ⟨_, _, _, rfl, ?_⟩⟩
 have hs27 := hs24.step he27
 rw [hpar]
 obtain ⟨t, htB, htr, htl⟩ := hs27.lay 1 rfl
 cases t with | mk tf tP tM tA tK tks =>
 have htf : tf = fr.f := congrArg Lay.f htl
 subst htf
 have hmI := htr.2.1
 have hml := hmI.length
 have hB8 : B[8]? = some tM.v := by rw [htB]; rfl
 intro J31 hJ31
 refine br_f rfl (br_f rfl (br_ne (fun _ => hR _ hs27.ext) fun h0 => ⟨_, _, _, hs27.get 0 rfl (j := 8) hB8, br_eq (fun _ => hR _ hs27.ext) fun hm0 => hJ31 _ ?_⟩))
 have hg := hi.good
 rw [← hp] at hg
 obtain rfl : u = [] := gid_root (g_node hg).1 h0
 have hk : D.ks = fr.pre ++ .mk fr.f ks :: fr.post := hp.symm
 have hm0 : fr.f.mask.length ≠ 0 := by omega
 have hm64 : fr.f.mask.length = 64 := by
  rcases hgood.maskLen with h | h
  ·rw [h] at hm0; exact absurd rfl hm0
  ·rw [hDw, hDh] at h; omega
 have hs32 := hs27
 -- without it
 have h1 : (doD D (ed0 2 id 0 0 0 0 0 0 0 0)).1 = 0 := by rw [del_do hf]
 have i1 := do_inv hi h1
 refine ⟨A, hd.size, rowIn_whole (hs32.block 3 rfl), ?_⟩
 refine do_st (D := D) (e := ed0 2 id 0 0 0 0 0 0 0 0) (s := es0) hs32 (hs32.doc 4 rfl) hi (by omega) (ed0_ok H27 ..) fun A1 H35 hd1 hs35 => ⟨_, _, rfl, ?_⟩
 refine hs35.alc fun b38 H39 hs39 => ⟨hd1.size, hs39.putAll 0 rfl hd1.size hd1.one fun H40 hs40 => ?_⟩
 have hs40 : St H H40 [.cell b38 A1 26, docRs A1 (doD D (ed0 2 id 0 0 0 0 0 0 0 0)).2, .cell b22 B 58, layRs B (.mk fr.f ks), .cell b13 (docA D.w D.h D.next Kd) 29, .cell b11 A 26, docRs A D, poolRs L] := hs40
 -- without its mask
 have h2 : (doD D (ed0 7 id 0 0 2 0 0 0 0 0)).1 = 0 := by rw [msk_do hf]
 have i2 := do_inv hi h2
 refine ⟨A, hd.size, rowIn_whole (hs40.block 5 rfl), ?_⟩
 refine do_st (D := D) (e := ed0 7 id 0 0 2 0 0 0 0 0) (s := es0) hs40 (hs40.doc 6 rfl) hi (by omega) (ed0_ok H40 ..) fun A2 H43 hd2 hs43 => ⟨_, _, rfl, ?_⟩
 refine hs43.alc fun b46 H47 hs47 => ⟨hd2.size, hs47.putAll 0 rfl hd2.size hd2.one fun H49 hs49 => ?_⟩
 have hs49 : St H H49 [.cell b46 A2 26, docRs A2 (doD D (ed0 7 id 0 0 2 0 0 0 0 0)).2, .cell b38 A1 26, docRs A1 (doD D (ed0 2 id 0 0 0 0 0 0 0 0)).2, .cell b22 B 58, layRs B (.mk fr.f ks), .cell b13 (docA D.w D.h D.next Kd) 29, .cell b11 A 26, docRs A D, poolRs L] := hs49
 -- the last one
 have last : ∃ (pk : Option Addr) (lk ck : Nat) (a : Addr) (lid : Int), A[3]? = some (.slice pk lk ck) ∧ pk = some a ∧ 1 ≤ lk ∧ lk ≤ 1000000000 ∧ Sh.cell H49 (Addr.add (Addr.add a (Int.toNat ((lk : Int) - 1) * 19)) 0) = some (.int .i64 lid) := by
  obtain ⟨K, kds, rfl, hgr, hlk⟩ := hs49.doc 8 rfl
  have hKl : K.l = kds.length := hgr.1.1
  have hl2 : kds.length = D.ks.length := by rw [← hlk, layKs_len]
  have hl3 : 1 ≤ D.ks.length := by rw [hk, List.length_append, List.length_cons]; omega
  have hlcn := len_cnt D.ks
  obtain ⟨t, ht⟩ : ∃ t, kds[kds.length - 1]? = some t := ⟨_, List.getElem?_eq_getElem (by omega)⟩
  obtain ⟨a, ha, hrow, _⟩ := hgr.get ht
  refine ⟨K.p, K.l, K.c, a, t.f.id, rfl, ha, by omega, by omega, ?_⟩
  have h0 := hrow 0 (.int .i64 t.f.id) (by
   rw [List.getElem?_toArray]
   cases t; rfl)
  rw [show Int.toNat ((K.l : Int) - 1) = kds.length - 1 from by omega]
  exact h0
 obtain ⟨pk, lk, ck, a, lid, hA3, hpk, hlk1, hlk2, hlid⟩ := last
 refine ⟨_, _, _, hs49.get 7 rfl (j := 3) hA3, _, _, _, hs49.get 7 rfl (j := 3) hA3, a, hpk, ?_⟩
 rw [wrap_id (n := (lk : Int) - 1) (by omega) (by omega)]
 refine ⟨by omega, by omega, lid, hlid, ?_⟩
 obtain ⟨-, -, w1, g1⟩ := do_next h1
 obtain ⟨-, -, w2, g2⟩ := do_next h2
 have n64 : ∀ E : DocL, E.w = 8 → E.h = 8 → (wholeP E).n = 64 := fun E hw hh => by show (E.w * E.h).toNat = 64; rw [hw, hh]; rfl
 have wA : ∀ {A' : Array Value} {E : DocL} {H1 : Heap} {R1 : Value → Heap → Prop}, DocR H49 A' E → Inv E → E.w = 8 → E.h = 8 → Ext H49 H1 → (∀ bw H', St H1 H' [pixRs bw (wholeL E)] → R1 (.agg (picV bw)) H') → CallsH Tryz.prog 11 #[.agg A'] H1 R1 := fun hdE hiE hw hh he k => c11 (hdE.ext he) hiE fun bw H' hs => by
  rw [hw, hh, n64 _ hw hh]; exact k bw H' hs
 have k1 := fun {H1 R1} => @wA _ _ H1 R1 (hs49.doc 8 rfl) hi hDw hDh
 have k2 := fun {H1 R1} => @wA _ _ H1 R1 (hs49.doc 3 rfl) i1 (w1.trans hDw) (g1.trans hDh)
 have k3 := fun {H1 R1} => @wA _ _ H1 R1 (hs49.doc 1 rfl) i2 (w2.trans hDw) (g2.trans hDh)
 have len1 : (wholeL D).length = 64 := by rw [wholeL_len, n64 _ hDw hDh]
 have len2 : (wholeL (doD D (ed0 2 id 0 0 0 0 0 0 0 0)).2).length = 64 := by rw [wholeL_len, n64 _ (w1.trans hDw) (g1.trans hDh)]
 have len3 : (wholeL (doD D (ed0 7 id 0 0 2 0 0 0 0 0)).2).length = 64 := by rw [wholeL_len, n64 _ (w2.trans hDw) (g2.trans hDh)]
 have off : ∀ i, i < 64 → fr.f.mask.getD i 0 = 0 → (wholeL D).getD i 0 = (wholeL (doD D (ed0 2 id 0 0 0 0 0 0 0 0)).2).getD i 0 := fun i h hm => by
  rw [del_do hf]; exact mask_off hi hk (by rw [n64 _ hDw hDh]; exact h) hm0 hm
 have on : ∀ i, i < 64 → fr.f.mask.getD i 0 = 255 → (wholeL D).getD i 0 = (wholeL (doD D (ed0 7 id 0 0 2 0 0 0 0 0)).2).getD i 0 := fun i h hm => by
  rw [msk_do hf]; exact mask_on hi hk (by rw [n64 _ hDw hDh]; exact h) hm0 hm
 rw [h1, h2]
 have sz1 := (hs49.doc 8 rfl).size
 have sz2 := (hs49.doc 3 rfl).size
 have sz3 := (hs49.doc 1 rfl).size
 have rw1 := rowIn_whole (hs49.block 7 rfl)
 have rw2 := rowIn_whole (hs49.block 2 rfl)
 have rw3 := rowIn_whole (hs49.block 0 rfl)
 have lay2 : ∃ (M2 : Sl3), M2.l = 64 ∧ IS H49 M2.p M2.l (kints .u8 fr.f.mask) ∧ Sh.cell H49 (Addr.add ⟨b22, 0, none⟩ 8) = some (.slice M2.p M2.l M2.c) := by
  obtain ⟨t2, htB2, htr2, htl2⟩ := hs49.lay 5 rfl
  cases t2 with | mk sf sP sM sA sK sks =>
  have hsf : sf = fr.f := congrArg Lay.f htl2
  subst hsf
  have hI := htr2.2.1
  have hl2 := hI.length
  exact ⟨sM, by omega, hI, hs49.get 4 rfl (j := 8) (by rw [htB2]; rfl)⟩
 obtain ⟨M2, hM2, hM2I, hM2c⟩ := lay2
 have hst : St H49 H49 [] := St.nil H49
 have hex := hs49.ext
 clear hs49 hs47 hs43 hs40 hs39 hs35 hs32 hs27 hs24 hs23 hs19 hs16 hs15 hs14 hs12 hs7 wA
 generalize wholeL (doD D (ed0 2 id 0 0 0 0 0 0 0 0)).2 = G2 at k2 len2 off
 generalize wholeL (doD D (ed0 7 id 0 0 2 0 0 0 0 0)).2 = G3 at k3 len3 on
 generalize wholeL D = G1 at k1 len1 off on
 intro J53 hJ53
 refine br_ne (fun h => absurd rfl h) fun _ => br_ne (fun h => absurd rfl h) fun _ => hJ53 _ ?_
 intro J55 hJ55
 have fin : ∀ (bx by_ bz v1 v2 v3 : Nat) (H2 : Heap), St H49 H2 [pixZero bx, pixZero by_, pixZero bz, pixRs v1 G1, pixRs v2 G2, pixRs v3 G3] → (picV v1).size = 3 ∧ stAt H2 ⟨bx, 0, none⟩ (picV v1).toList fun H3 => (picV v2).size = 3 ∧ stAt H3 ⟨by_, 0, none⟩ (picV v2).toList fun H4 => (picV v3).size = 3 ∧ stAt H4 ⟨bz, 0, none⟩ (picV v3).toList fun H5 => J55 [.pointer (some ⟨bx, 0, none⟩), .pointer (some ⟨by_, 0, none⟩), .pointer (some ⟨bz, 0, none⟩)] H5 := by
  intro bx by_ bz v1 v2 v3 H2 hs2
  refine ⟨rfl, hs2.putAll 0 rfl rfl one_pic fun H3 hs3 => ⟨rfl, hs3.putAll 1 rfl rfl one_pic fun H4 hs4 => ⟨rfl, hs4.putAll 2 rfl rfl one_pic fun H5 hs5 => ?_⟩⟩⟩
  have hs5 : St H49 H5 [.cell bx (picV v1) 34, .cell by_ (picV v2) 34, .cell bz (picV v3) 34, pixRs v1 G1, pixRs v2 G2, pixRs v3 G3] := hs5
  have p1 := hs5.isA 3 rfl len1
  have p2 := hs5.isA 4 rfl len2
  have p3 := hs5.isA 5 rfl len3
  refine hJ55 _ _ _ _ ?_
  refine ⟨_, _, _, hs5.ext.cell hM2c, ?_⟩
  intro X61 hX61
  have hm := hM2I.ext hs5.ext
  have loop : ∀ k, k ≤ 64 → X61 [.int .i64 (k : Nat)] H5 := by
   refine upto fun k hkk ih => hX61 _ _ (br_dec (fun hlt => ?_) fun hge => ?_)
   ·have hk' : k < 64 := by omega
    intro J64 hJ64
    have next : J64 [] H5 := hJ64 _ (by rw [wrap_id (by omega) (by omega)]; exact ih hk')
    refine hm.rd (k := .u8) (i := (k : Int)) (by omega) hlt (by rw [Int.toNat_natCast]; exact getD_some fr.f.mask 0 (by omega)) ?_
    have o1 := off k hk'
    have o2 := on k hk'
    generalize fr.f.mask.getD k 0 = m at o1 o2
    refine br_eq (fun h0 => ?_) fun h0 => br_eq (fun h1 => ?_) fun _ => next
    ·refine ⟨_, _, _, hs5.get 0 rfl (j := 2) rfl, rdG (i := (k : Int)) p1 (by omega) (by omega) ⟨_, _, _, hs5.get 1 rfl (j := 2) rfl, rdG (i := (k : Int)) p2 (by omega) (by omega) ?_⟩⟩
     rw [Int.toNat_natCast]
     exact br_ne (fun h => absurd (o1 h0) h) fun _ => br_eq (fun h => by omega) fun _ => next
    ·refine ⟨_, _, _, hs5.get 0 rfl (j := 2) rfl, rdG (i := (k : Int)) p1 (by omega) (by omega) ⟨_, _, _, hs5.get 2 rfl (j := 2) rfl, rdG (i := (k : Int)) p3 (by omega) (by omega) ?_⟩⟩
     rw [Int.toNat_natCast]
     exact br_ne (fun h => absurd (o2 h1) h) fun _ => next
   ·refine br_eq (fun _ => hR _ (hex.trans hs5.ext)) fun _ => ⟨_, _, _, hs5.get 0 rfl (j := 2) rfl, ?_⟩
    exact hR _ (hex.trans hs5.ext)
  exact loop 0 (Nat.zero_le _)
 clear hJ55 hJ53
 refine ⟨A, sz1, rw1, A1, sz2, rw2, A2, sz3, rw3, ?_⟩
 have hx : Ext H49 H49 := Ext.refl _
 repeat' first
  | with_reducible refine fin _ _ _ _ _ _ _ ?_
  | ((first | refine k1 ‹Ext H49 _› fun bw Hn hw => ⟨_, rfl, ?_⟩ | refine k2 ‹Ext H49 _› fun bw Hn hw => ⟨_, rfl, ?_⟩ | refine k3 ‹Ext H49 _› fun bw Hn hw => ⟨_, rfl, ?_⟩); have hxn := Ext.trans ‹Ext H49 _› hw.ext; have hsn := St.call1 ‹St H49 _ _› hw; (try refine ⟨.inl hw.ext, ?_⟩))
  | (with_reducible refine St.alcE ‹St H49 _ _› fun bn Hn hn hs0 => ?_; have hsn : St H49 Hn (pixZero bn :: _) := hs0; clear hs0; have hxn := Ext.trans ‹Ext H49 _› hn; (try refine ⟨.inl hn, ?_⟩))
  | with_reducible refine And.intro ?_ ?_
 all_goals exact St.perm ‹St H49 _ _› (permC (a := [_, _, _, _, _, _]) (b := [_, _, _, _, _, _]) fun _ y => by simp only [List.count_cons, List.count_nil]; ac_rfl)
end Go.Proofs
namespace Go.Proofs
open Go.Sh Go.RowKit Go.ChangeShapes Go.WideShapes Go.ChangeAt
end Go.Proofs
namespace Go.Proofs
open Go.Sh Go.RowKit Go.ChangeShapes Go.WideShapes Go.ChangeAt Go.Deep
section
variable {H : Type} {enc : TypeId × Value → H} {W : World}
abbrev TrP (enc : TypeId × Value → H) (W : World) (fuel : Nat) (t : TypeId) (cs : List Value) (x : DataW H × List MemPlace) : Prop := DataW.trod enc Tryz.prog W 0 (fun _ => true) true fuel t cs = some x
theorem intsAt {fuel : Nat} {a0 : Option Addr} {len cap : Nat} {x : DataW H × List MemPlace} (hf : TrP enc W fuel 32 [.slice a0 len cap] x) : ∃ ls, len ≤ cap ∧ IS W.heap a0 len (ints ls) := by
 rcases open_ints Tryz.underlying32 Tryz.underlying3 (by kernel_rfl) hf with ⟨hcs, _⟩ | ⟨a, len2, cap2, zs, hcs, _, hl, _, hz, _, hc, hw⟩
 ·simp at hcs
  obtain ⟨rfl, rfl, rfl⟩ := hcs
  exact ⟨[], Nat.le_refl _, ⟨rfl, fun i v hv => by simp [ints] at hv⟩⟩
 ·simp at hcs
  obtain ⟨rfl, rfl, rfl⟩ := hcs
  have hzl : len ≤ zs.length := by rw [hz]; simp; omega
  refine ⟨zs.take len, hl, ⟨by rw [ints_len]; simp; omega, fun i v hv => ⟨a, rfl, ?_⟩⟩⟩
  have hi : i < len := by have := (List.getElem?_eq_some_iff.1 hv).1; rw [ints_len] at this; simp at this; omega
  have := hc i (by omega)
  rw [cell_eq] at this
  rw [this]
  have hg : (zs.take len)[i]? = some (zs.getD i 0) := by
   rw [List.getElem?_take_of_lt hi, List.getD_eq_getElem?_getD, List.getElem?_eq_getElem (by omega)]; rfl
  rw [ints_get hg] at hv
  exact hv
theorem fieldAt {t : TypeId} {fs : Array Field} {fuel : Nat} {cs : List Value} {x : DataW H × List MemPlace} (hs : Tryz.prog.underlying t = some (.struct fs)) (h : TrP enc W fuel t cs x) (i : Nat) {f : Field} {o ty c : Nat} (hf : fs[i]? = some f) (ho : f.offset = o) (ht : f.type = ty) (hc : Tryz.prog.cellsOf ty = c) :
    ∃ n y, n < fuel ∧ TrP enc W n ty ((cs.drop o).take c) y := by
  obtain ⟨xs, n, hfu, _, hl, hlen, hg⟩ := DataW.trod_struct hs h
  have := hg i f hf
  have hi := (Array.getElem?_eq_some_iff.1 hf).1
  rw [List.getElem?_eq_getElem (by omega), ho, ht, hc] at this
  exact ⟨n, _, by omega, this⟩
theorem one_get {cs : List Value} {o : Nat} {v : Value} (h : (cs.drop o).take 1 = [v]) : cs[o]? = some v := by
 have h4 : ((cs.drop o).take 1)[0]? = some v := by rw [h]; rfl
 rw [List.getElem?_take_of_lt (by omega), List.getElem?_drop] at h4
 simpa using h4
theorem intF {n : Nat} {cs : List Value} {o : Nat} {y : DataW H × List MemPlace} (h : TrP enc W n 3 ((cs.drop o).take 1) y) : ∃ m : Int, cs[o]? = some (.int .i64 m) := by
 obtain ⟨m, hm, _, _⟩ := DataW.trod_int Tryz.underlying3 h
 exact ⟨m, one_get hm⟩
theorem slF {t e n : Nat} {cs : List Value} {o : Nat} {y : DataW H × List MemPlace} (ht : Tryz.prog.underlying t = some (.slice e)) (h : TrP enc W n t ((cs.drop o).take 1) y) : ∃ s : Sl3, cs[o]? = some s.v ∧ TrP enc W n t [s.v] y := by
 rcases DataW.trod_slice ht h with ⟨h0, _⟩ | ⟨a, len, cap, elems, rest, m, _, h0, _⟩
 ·rw [h0] at h; exact ⟨.nil, one_get h0, h⟩
 ·rw [h0] at h; exact ⟨⟨some a, len, cap⟩, one_get h0, h⟩
theorem list19 {α : Type} {l : List α} (h : l.length = 19) : ∃ a b c d e f g i j k m n o p q r s t u, l = [a, b, c, d, e, f, g, i, j, k, m, n, o, p, q, r, s, t, u] := by
 match l, h with
 | [a, b, c, d, e, f, g, i, j, k, m, n, o, p, q, r, s, t, u], _ => exact ⟨a, b, c, d, e, f, g, i, j, k, m, n, o, p, q, r, s, t, u, rfl⟩
theorem sixF {t n : Nat} {cs : List Value} {o : Nat} {y : DataW H × List MemPlace} (ht : Tryz.prog.underlying t = some (.array 6 3)) (h : TrP enc W n t ((cs.drop o).take 6) y) :
    ∃ m : M6, cs[o]? = some (.int .i64 m.a) ∧ cs[o + 1]? = some (.int .i64 m.b) ∧ cs[o + 2]? = some (.int .i64 m.c) ∧ cs[o + 3]? = some (.int .i64 m.d) ∧ cs[o + 4]? = some (.int .i64 m.e) ∧ cs[o + 5]? = some (.int .i64 m.f) := by
  obtain ⟨xs, m, _, _, hl, hlen, hg⟩ := DataW.trod_array ht h
  have hc : Tryz.prog.cellsOf 3 = 1 := by kernel_rfl
  have each : ∀ i, i < 6 → ∃ z : Int, cs[o + i]? = some (.int .i64 z) := fun i hi => by
    have := hg i hi
    rw [hc, Nat.mul_one, List.getElem?_eq_getElem (by omega)] at this
    obtain ⟨z, hz⟩ := intF this
    rw [List.getElem?_take_of_lt hi, List.getElem?_drop] at hz
    exact ⟨z, hz⟩
  obtain ⟨a, ha⟩ := each 0 (by omega)
  obtain ⟨b, hb⟩ := each 1 (by omega)
  obtain ⟨c, hc⟩ := each 2 (by omega)
  obtain ⟨d, hd⟩ := each 3 (by omega)
  obtain ⟨e, he⟩ := each 4 (by omega)
  obtain ⟨f, hf⟩ := each 5 (by omega)
  exact ⟨⟨a, b, c, d, e, f⟩, ha, hb, hc, hd, he, hf⟩
theorem ptAt {n : Nat} {cs : List Value} {y : DataW H × List MemPlace} (h : TrP enc W n 105 cs y) : ∃ p : Pt, cs = [.int .i64 p.1, .int .i64 p.2] := by
 obtain ⟨_, _, _, h0⟩ := fieldAt (o := 0) (ty := 3) (c := 1) Tryz.underlying105 h 0 rfl rfl rfl (by kernel_rfl)
 obtain ⟨_, _, _, h1⟩ := fieldAt (o := 1) (ty := 3) (c := 1) Tryz.underlying105 h 1 rfl rfl rfl (by kernel_rfl)
 obtain ⟨x, hx⟩ := intF h0
 obtain ⟨y, hy⟩ := intF h1
 obtain ⟨xs, m, _, _, hl, _⟩ := DataW.trod_struct Tryz.underlying105 h
 have hl2 : cs.length = 2 := by rw [hl]; kernel_rfl
 match cs, hl2 with
 | [a, b], _ =>
  simp only [List.getElem?_cons_zero, List.getElem?_cons_succ, Option.some.injEq] at hx hy
  subst hx; subst hy
  exact ⟨(x, y), rfl⟩
theorem choose_list {α : Type} {P : Nat → α → Prop} {n : Nat} [Inhabited α] (h : ∀ i, i < n → ∃ x, P i x) : ∃ l : List α, l.length = n ∧ ∀ i x, l[i]? = some x → P i x := by
 obtain ⟨f, hf⟩ : ∃ f : Nat → α, ∀ i, i < n → P i (f i) := by
  have : ∀ i, ∃ x, i < n → P i x := fun i => by
   by_cases hi : i < n
   ·obtain ⟨x, hx⟩ := h i hi; exact ⟨x, fun _ => hx⟩
   ·exact ⟨default, fun h => absurd h hi⟩
  exact Classical.axiomOfChoice this
 refine ⟨(List.range n).map f, by simp, fun i x hx => ?_⟩
 have hi : i < n := by have := (List.getElem?_eq_some_iff.1 hx).1; simpa using this
 simp [hi] at hx
 subst hx
 exact hf i hi
theorem ptsAt {fuel : Nat} {s : Sl3} {x : DataW H × List MemPlace} (hf : TrP enc W fuel 48 [s.v] x) : ∃ pts : List Pt, s.l ≤ s.c ∧ IS2 W.heap s.p s.l pts := by
 rcases open_slice Tryz.underlying48 hf with ⟨hcs, _⟩ | ⟨a, len', cap', m, n, D, Pl, hcs, _, hl, hm, hmm, _, hx⟩
 ·obtain ⟨p, l, c⟩ := s
  simp only [Sl3.v, List.cons.injEq, Value.slice.injEq, and_true] at hcs
  obtain ⟨rfl, rfl, rfl⟩ := hcs
  exact ⟨[], Nat.le_refl _, IS2.nil _⟩
 ·obtain ⟨p, l, c⟩ := s
  simp only [Sl3.v, List.cons.injEq, Value.slice.injEq, and_true] at hcs
  obtain ⟨rfl, rfl, rfl⟩ := hcs
  have hml : l ≤ m := by rw [hmm]; simp; omega
  obtain ⟨pts, hlen, hpts⟩ := choose_list (P := fun i (p : Pt) => rowIn W.heap (a.add (i * 2)) #[.int .i64 p.1, .int .i64 p.2]) (n := l) fun i hi => by
   obtain ⟨cs, h1, h2⟩ := hx i (by omega)
   rw [show Tryz.prog.cellsOf 105 = 2 from by kernel_rfl] at h1
   obtain ⟨p, rfl⟩ := ptAt h2
   obtain ⟨_, _, hc⟩ := World.cells?_some h1
   refine ⟨p, fun j v hv => ?_⟩
   have hj : j < 2 := (Array.getElem?_eq_some_iff.1 hv).1
   have := hc j hj
   rw [cell_eq] at this
   rw [this]
   simpa using hv
  exact ⟨pts, hl, hlen, fun i x y hi => ⟨a, rfl, hpts i (x, y) hi⟩⟩
theorem edAt {fuel : Nat} {cs : List Value} {x : DataW H × List MemPlace} (h : TrP enc W fuel 52 cs x) : ∃ e s, cs = edL e s ∧ rdEd W.heap e s := by
 have hu := Tryz.underlying52
 obtain ⟨_, _, _, h0⟩ := fieldAt (o := 0) (ty := 3) (c := 1) hu h 0 rfl rfl rfl (by kernel_rfl)
 obtain ⟨_, _, _, h1⟩ := fieldAt (o := 1) (ty := 3) (c := 1) hu h 1 rfl rfl rfl (by kernel_rfl)
 obtain ⟨_, _, _, h2⟩ := fieldAt (o := 2) (ty := 3) (c := 1) hu h 2 rfl rfl rfl (by kernel_rfl)
 obtain ⟨_, _, _, h3⟩ := fieldAt (o := 3) (ty := 3) (c := 1) hu h 3 rfl rfl rfl (by kernel_rfl)
 obtain ⟨_, _, _, h4⟩ := fieldAt (o := 4) (ty := 3) (c := 1) hu h 4 rfl rfl rfl (by kernel_rfl)
 obtain ⟨_, _, _, h5⟩ := fieldAt (o := 5) (ty := 3) (c := 1) hu h 5 rfl rfl rfl (by kernel_rfl)
 obtain ⟨_, _, _, h6⟩ := fieldAt (o := 6) (ty := 3) (c := 1) hu h 6 rfl rfl rfl (by kernel_rfl)
 obtain ⟨_, _, _, h7⟩ := fieldAt (o := 7) (ty := 3) (c := 1) hu h 7 rfl rfl rfl (by kernel_rfl)
 obtain ⟨_, _, _, h8⟩ := fieldAt (o := 8) (ty := 3) (c := 1) hu h 8 rfl rfl rfl (by kernel_rfl)
 obtain ⟨_, _, _, h9⟩ := fieldAt (o := 9) (ty := 3) (c := 1) hu h 9 rfl rfl rfl (by kernel_rfl)
 obtain ⟨_, _, _, h10⟩ := fieldAt (o := 10) (ty := 32) (c := 1) hu h 10 rfl rfl rfl (by kernel_rfl)
 obtain ⟨_, _, _, h11⟩ := fieldAt (o := 11) (ty := 48) (c := 1) hu h 11 rfl rfl rfl (by kernel_rfl)
 obtain ⟨_, _, _, h12⟩ := fieldAt (o := 12) (ty := 50) (c := 6) hu h 12 rfl rfl rfl (by kernel_rfl)
 obtain ⟨_, _, _, h13⟩ := fieldAt (o := 18) (ty := 32) (c := 1) hu h 13 rfl rfl rfl (by kernel_rfl)
 obtain ⟨v0, g0⟩ := intF h0
 obtain ⟨v1, g1⟩ := intF h1
 obtain ⟨v2, g2⟩ := intF h2
 obtain ⟨v3, g3⟩ := intF h3
 obtain ⟨v4, g4⟩ := intF h4
 obtain ⟨v5, g5⟩ := intF h5
 obtain ⟨v6, g6⟩ := intF h6
 obtain ⟨v7, g7⟩ := intF h7
 obtain ⟨v8, g8⟩ := intF h8
 obtain ⟨v9, g9⟩ := intF h9
 obtain ⟨P, g10, t10⟩ := slF Tryz.underlying32 h10
 obtain ⟨S, g11, t11⟩ := slF Tryz.underlying48 h11
 obtain ⟨m, ga, gb, gc, gd, ge, gf⟩ := sixF Tryz.underlying50 h12
 obtain ⟨A, g18, t18⟩ := slF Tryz.underlying32 h13
 obtain ⟨ps, _, hps⟩ := intsAt t10
 obtain ⟨pts, _, hpts⟩ := ptsAt t11
 obtain ⟨qs, _, hqs⟩ := intsAt t18
 obtain ⟨xs, k, _, _, hl, _⟩ := DataW.trod_struct hu h
 have hl2 : cs.length = 19 := by rw [hl]; kernel_rfl
 refine ⟨⟨v0, v1, v2, v3, v4, v5, v6, v7, v8, v9, ps, pts, m, qs⟩, ⟨P, S, A⟩, ?_, ⟨hps, hpts, hqs⟩⟩
 obtain ⟨a, b, c, d, e, f, g, i, j, k, m', n, o, p, q, r, s, t, u, rfl⟩ := list19 hl2
 simp only [List.getElem?_cons_zero, List.getElem?_cons_succ, Option.some.injEq] at g0 g1 g2 g3 g4 g5 g6 g7 g8 g9 g10 g11 ga gb gc gd ge gf g18
 subst g0 g1 g2 g3 g4 g5 g6 g7 g8 g9 g10 g11 ga gb gc gd ge gf g18
 rfl
instance : Inhabited (Ed × EdS) := ⟨⟨0, 0, 0, 0, 0, 0, 0, 0, 0, 0, [], [], ⟨0, 0, 0, 0, 0, 0⟩, []⟩, ⟨.nil, .nil, .nil⟩⟩
theorem editsIn_of {v : Value} {d : DataW H} {ps : List MemPlace} {base : Nat} (hv : Value.okWide Tryz.prog W .any base 22 v) (h : DataW.Trod enc Tryz.prog W 0 (fun _ => true) true 22 v d ps) :
    ∃ a l c es, v = .slice a l c ∧ l ≤ c ∧ EdsR W.heap a l es := by
  obtain ⟨a0, len, cap, rfl⟩ := okWide_slice Tryz.underlying22 hv
  obtain ⟨fuel, hf⟩ := h
  rcases open_slice Tryz.underlying22 hf with ⟨hcs, _⟩ | ⟨a, len', cap', m, n, D, Pl, hcs, _, hl, hm, hmm, _, hx⟩
  · simp only [Value.cells] at hcs
    simp at hcs
    obtain ⟨rfl, rfl, rfl⟩ := hcs
    exact ⟨none, 0, 0, [], rfl, Nat.le_refl _, rfl, fun i e s hx => by simp at hx⟩
  · simp only [Value.cells] at hcs
    simp at hcs
    obtain ⟨rfl, rfl, rfl⟩ := hcs
    have hml : len ≤ m := by rw [hmm]; simp; omega
    obtain ⟨es, hlen, hes⟩ := choose_list (P := fun i (x : Ed × EdS) => rowIn W.heap (a.add (i * 19)) (edL x.1 x.2).toArray ∧ rdEd W.heap x.1 x.2) (n := len) fun i hi => by
      obtain ⟨cs, h1, h2⟩ := hx i (by omega)
      rw [show Tryz.prog.cellsOf 52 = 19 from by kernel_rfl] at h1
      obtain ⟨e, s, rfl, hrd⟩ := edAt h2
      obtain ⟨_, _, hc⟩ := World.cells?_some h1
      refine ⟨(e, s), fun j v hv => ?_, hrd⟩
      have hj : j < 19 := (Array.getElem?_eq_some_iff.1 hv).1
      have := hc j hj
      rw [cell_eq] at this
      rw [this]
      simpa using hv
    exact ⟨some a, len, cap, es, rfl, hl, hlen, fun i e s hi => let ⟨h1, h2⟩ := hes i (e, s) hi; ⟨a, rfl, h1, h2⟩⟩
end
end Go.Proofs
