/-
  OWN WORK. Several texts in one: TsBackP, RnL, RnGroups, RnM, RnHid, OpBytes, OpTree.
-/
import Derived.Test.YtgkfijgdkegdkaaGreatMgRenderHiddenG
import Derived.Test.YtgkfijgdkegdkaaGreatRows
import Derived.Test.YtgkfijgdkegdkaaGreatMgRenderHiddenB
import Derived.ChangeSlices
import Derived.Deep.Slices

set_option linter.unusedVariables false
set_option linter.unusedSimpArgs false
set_option maxRecDepth 10000
namespace Go.Proofs
open Go.Sh
end Go.Proofs
namespace Go.Proofs
open Go.Sh
theorem doD_of {D : DocL} {e : Ed} {n : Int} {ks : List Lay} (hk : 1 ≤ e.kind ∧ e.kind ≤ 9) (h : stepL D.w D.h D.next D.ks e = (0, ks)) (hn : nextL D.next e = n) : doD D e = (0, ⟨D.w, D.h, n, ks⟩) := by
 have : doL D.w D.h D.next D.ks e = (0, n, ks) := by unfold doL; rw [if_neg (by omega), h, if_neg (fun hh => hh rfl), hn]
 unfold doD
 rw [this, if_neg (fun hh => hh rfl)]
end Go.Proofs
namespace Go.Proofs
open Go.Sh
variable {H0 H : Heap} {σ : List Rs} {R : Value → Heap → Prop}
theorem whole_eq {D E : DocL} (hw : D.w = E.w) (hh : D.h = E.h) (h : ∀ x y, lsPx D.w x y D.ks 0 = lsPx D.w x y E.ks 0) : wholeL D = wholeL E := by
 unfold wholeL picL
 have hn : (wholeP D).n = (wholeP E).n := by show (D.w * D.h).toNat = (E.w * E.h).toNat; rw [hw, hh]
 unfold plL
 rw [hn]
 refine List.map_congr_left fun i _ => ?_
 have e1 : (wholeP D).X i = (wholeP E).X i := by show 0 + (i : Int) % D.w = 0 + (i : Int) % E.w; rw [hw]
 have e2 : (wholeP D).Y i = (wholeP E).Y i := by show 0 + (i : Int) / D.w = 0 + (i : Int) / E.w; rw [hw]
 rw [e1, e2]
 show lsPx D.w _ _ D.ks 0 = lsPx E.w _ _ E.ks 0
 rw [h, hw]
end Go.Proofs
namespace Go.Proofs
open Go.Sh
variable {H0 H : Heap} {σ : List Rs} {R : Value → Heap → Prop}
def looksL (W x y : Int) (A B : List Lay) : Prop := ∀ o, pixelB o = true → lsPx W x y A o = lsPx W x y B o
theorem looks_plug {W x y : Int} : ∀ {u : List FrL} {A B : List Lay}, looksL W x y A B → looksL W x y (plugL u A) (plugL u B)
 | [], A, B, hl => hl
 | fr :: u, A, B, hl => by
  refine looks_plug (u := u) fun o ho => ?_
  rw [lsPx_app, lsPx_app, lsPx, lsPx]
  congr 1
  generalize lsPx W x y fr.pre o = q
  obtain ⟨pre, f, post⟩ := fr
  rw [layPx, layPx, hl 0 pixZ0]
theorem adj_none {t : List Int} {c : C4} (hc : OkC c) : adjP t 0 c = c := by
 have one : ∀ {i : Int}, i ≤ c.a → adjP1 t 0 i c.a = i := fun {i} h => by
  unfold adjP1
  rw [mulP_0, show (255 : Int) - 0 = 255 from rfl, mulP_255]; omega
 exact C4.ext' (one hc.r.2) (one hc.g.2) (one hc.b.2) rfl
theorem lay_hidden {W x y : Int} {f : LayF} {ks : List Lay} {o : Int} (h : f.hidden = true) : layPx W x y (.mk f ks) o = o := by rw [layPx, if_pos h]
theorem part_none {f : LayF} {i : Int} (h : f.opacity = 0) : partP f i = 0 := by
 unfold partP
 rw [h]
 split
 ·rfl
 ·exact mul0P _
theorem lay_none {W x y : Int} {f : LayF} {ks : List Lay} {o : Int} (h : partP f (y * W + x) = 0) (ho : pixelB o = true) : layPx W x y (.mk f ks) o = o := by
 rw [layPx, h]
 split
 ·rfl
 split
 ·unfold adjustP
  rw [adj_none (spl_ok ho), join_spl (pixelB_iff.1 ho).1]
 ·unfold overP
  rw [if_neg (by omega)]
theorem hid_do {D : DocL} {id : Int} {fr : FrL} {u : List FrL} {ks : List Lay} (hf : flK [] [] id D.ks = some (fr :: u, ks)) : doD D (ed0 6 id 0 0 1 0 0 0 0 0) = (0, ⟨D.w, D.h, D.next, plugL (⟨fr.pre, { fr.f with hidden := true }, fr.post⟩ :: u) ks⟩) :=
 doD_of ⟨show (1 : Int) ≤ 6 by decide, show (6 : Int) ≤ 9 by decide⟩ (chg_ok (g := hideF (ed0 6 id 0 0 1 0 0 0 0 0)) hf (by unfold hideF; exact if_neg (show ¬ ((1 : Int) ≠ 0 ∧ (1 : Int) ≠ 1) by decide))) rfl
theorem hid_no {D : DocL} {id : Int} (hf : flK [] [] id D.ks = none) : (doD D (ed0 6 id 0 0 1 0 0 0 0 0)).1 = 40 := by
 have h : stepL D.w D.h D.next D.ks (ed0 6 id 0 0 1 0 0 0 0 0) = (40, []) := by
  show chgL (hideF (ed0 6 id 0 0 1 0 0 0 0 0)) D.ks id = _
  unfold chgL
  rw [hf]
 have : doL D.w D.h D.next D.ks (ed0 6 id 0 0 1 0 0 0 0 0) = (40, 0, []) ∨ (doL D.w D.h D.next D.ks (ed0 6 id 0 0 1 0 0 0 0 0)).1 = 40 := by
  right
  unfold doL
  rw [if_neg (show ¬ ((ed0 6 id 0 0 1 0 0 0 0 0).kind < 1 ∨ (ed0 6 id 0 0 1 0 0 0 0 0).kind > 9) from (show ¬ ((6 : Int) < 1 ∨ (6 : Int) > 9) by decide)), h, if_pos (by decide)]
 unfold doD
 rcases this with h1 | h1
 ·rw [h1, if_pos (by decide)]
 ·rw [if_pos (by rw [h1]; decide)]; exact h1
theorem opa_do {D : DocL} {id : Int} {fr : FrL} {u : List FrL} {ks : List Lay} {w h n : Int} (hf : flK [] [] id D.ks = some (fr :: u, ks)) (hg : goodF w h n fr.f) : doD D (ed0 5 id 0 0 0 fr.f.mode 0 0 0 0) = (0, ⟨D.w, D.h, D.next, plugL (⟨fr.pre, { fr.f with opacity := 0 }, fr.post⟩ :: u) ks⟩) :=
 doD_of ⟨show (1 : Int) ≤ 5 by decide, show (5 : Int) ≤ 9 by decide⟩ (chg_ok (g := lookF (ed0 5 id 0 0 0 fr.f.mode 0 0 0 0)) hf (by
  have hm := hg.mode
  unfold lookF
  rw [if_neg (by show ¬ ((0 : Int) < 0 ∨ (0 : Int) > 255 ∨ fr.f.mode < 0 ∨ fr.f.mode > 11); omega), if_neg (by rintro ⟨h1, h2⟩; exact h2 (hg.adj h1))]
  rfl)) rfl
theorem del_do {D : DocL} {id : Int} {fr : FrL} {u : List FrL} {ks : List Lay} (hf : flK [] [] id D.ks = some (fr :: u, ks)) : doD D (ed0 2 id 0 0 0 0 0 0 0 0) = (0, ⟨D.w, D.h, D.next, plugL u (fr.pre ++ fr.post)⟩) :=
 doD_of ⟨show (1 : Int) ≤ 2 by decide, show (2 : Int) ≤ 9 by decide⟩ (by
  show removeL D.ks id = _
  unfold removeL
  rw [hf]) rfl
theorem looks_gone {W x y : Int} {w h n : Int} {pre post : List Lay} {t : Lay} (hg : gKs (goodF w h n) pre) (ht : ∀ o, pixelB o = true → layPx W x y t o = o) : looksL W x y (pre ++ t :: post) (pre ++ post) := fun o ho => by
 rw [lsPx_app, lsPx_app, lsPx, ht _ (ls_px W x y hg ho)]
theorem whole_gone {D : DocL} {fr : FrL} {u : List FrL} {ks : List Lay} {f : LayF} (hi : Inv D) (hp : plugL (fr :: u) ks = D.ks) (ht : ∀ x y o, pixelB o = true → layPx D.w x y (.mk f ks) o = o) : wholeL ⟨D.w, D.h, D.next, plugL (⟨fr.pre, f, fr.post⟩ :: u) ks⟩ = wholeL ⟨D.w, D.h, D.next, plugL u (fr.pre ++ fr.post)⟩ := by
 have hg := hi.good
 rw [← hp] at hg
 refine whole_eq rfl rfl fun x y => ?_
 have h1 := (g_node hg).2.1
 exact looks_plug (u := u) (looks_gone h1 fun o ho => ht x y o ho) 0 pixZ0
theorem one_pic {b n : Nat} {w h : Int} : ∀ v ∈ (#[.int .i64 w, .int .i64 h, slV b n] : Array Value).toList, v.oneCell' = true := by simp [Value.oneCell', slV]
theorem St.call1 {H1 : Heap} {r : Rs} (hs : St H0 H σ) (ht : St H H1 [r]) : St H0 H1 (r :: σ) := hs.call ht
end Go.Proofs
namespace Go.Proofs
open Go.Sh
variable {H0 H : Heap} {σ : List Rs} {R : Value → Heap → Prop}
abbrev pixZero (b : Nat) : Rs := .cell b #[.int .i64 0, .int .i64 0, .slice none 0 0] 34
abbrev pixRs (b : Nat) (g : List Int) : Rs := .cell b (ints g).toArray 3
def picV (b : Nat) : Array Value := #[.int .i64 8, .int .i64 8, slV b 64]
theorem hid_law {p : Option Addr} {l c : Nat} {es : List (Ed × EdS)} {id : Int} (hes : EdsR H p l es) (hR : ∀ H', Ext H H' → R (.bool true) H') : CallsH Tryz.prog 7 #[.slice p l c, .int .i64 id] H R := by
 refine Tryz.s7 ?_
 unfold Tryz.S7
 refine c9 fun H4 he4 => ⟨_, rfl, br_f rfl ?_⟩
 refine played_call (hes.ext he4) (fun A B H7 hA hB oA oB _ he7 => ⟨_, _, _, rfl, ?_⟩) fun A D Kd rs L H7 hsz hw16 hh16 hi hDw hDh hnx hmem hrel hs7 => ⟨_, _, _, rfl, ?_⟩
 ·refine (St.of_ext (he4.trans he7)).alc fun b11 H12 hs12 => hs12.alc fun b13 H14 hs14 => ⟨hA, hs14.putAll 1 rfl hA oA fun H15 hs15 => ⟨hB, hs15.putAll 0 rfl hB oB fun H16 hs16 => ?_⟩⟩
  exact br_t rfl (hR _ hs16.ext)
 have hd := hs7.doc 0 rfl
 refine ((St.of_ext he4).callR hs7).alc fun b11 H12 hs12 => hs12.alc fun b13 H14 hs14 => ⟨hd.size, hs14.putAll 1 rfl hd.size hd.one fun H15 hs15 => ⟨rfl, hs15.putAll 0 rfl rfl (docA_one _ _ _ _) fun H16 hs16 => br_f rfl ?_⟩⟩
 have hs16 : St H H16 [.cell b13 (docA D.w D.h D.next Kd) 29, .cell b11 A 26, docRs A D, poolRs L] := hs16
 refine ⟨A, hd.size, rowIn_whole (hs16.block 1 rfl), ?_⟩
 refine do_st (D := D) (e := ed0 6 id 0 0 1 0 0 0 0 0) (s := es0) hs16 (hs16.doc 2 rfl) hi (by omega) (ed0_ok H16 ..) fun A1 H19 hd1 hs19 => ⟨_, _, rfl, ?_⟩
 refine hs19.alc fun b22 H23 hs23 => ⟨hd1.size, hs23.putAll 0 rfl hd1.size hd1.one fun H24 hs24 => ?_⟩
 have hs24 : St H H24 [.cell b22 A1 26, docRs A1 (doD D (ed0 6 id 0 0 1 0 0 0 0 0)).2, .cell b13 (docA D.w D.h D.next Kd) 29, .cell b11 A 26, docRs A D, poolRs L] := hs24
 rcases fl_cases id D.ks with hf | ⟨fr, u, ks, hf, hid, hp⟩
 ·have hfl : findL D.ks id = none := by unfold findL; rw [hf]
  refine ⟨A, hd.size, rowIn_whole (hs24.block 3 rfl), find_st hs24 (hs24.doc 4 rfl) hi (fun _ H27 hs27 => ⟨_, _, rfl, ?_⟩) fun lf hlf => by rw [hfl] at hlf; cases hlf⟩
  refine hs27.alc fun b30 H31 hs31 => ⟨rfl, hs31.putAll 0 rfl rfl (by intro v hv; exact cellsT_one (.mk zeroF .nil .nil .nil .nil []) v hv) fun H32 hs32 => ?_⟩
  rw [hid_no hf]
  exact br_ne (fun _ => hR _ hs32.ext) fun h => absurd h (by decide)
 have hfl : findL D.ks id = some (.mk fr.f ks) := by unfold findL; rw [hf]
 refine ⟨A, hd.size, rowIn_whole (hs24.block 3 rfl), find_st hs24 (hs24.doc 4 rfl) hi (fun hlf => by rw [hfl] at hlf; cases hlf) fun lf hlf B H27 hlr hs27 => ⟨_, _, rfl, ?_⟩⟩
 rw [hfl] at hlf
 cases hlf
 obtain ⟨hgood, hkk⟩ := Inv.found hi hf
 refine hs27.alc fun b30 H31 hs31 => ⟨hlr.size, hs31.putAll 0 rfl (by rw [Array.length_toList, hlr.size]; rfl) hlr.one fun H32 hs32 => ?_⟩
 have hB4 : B[4]? = some (.int .i64 fr.f.mode) := by
  obtain ⟨t, htB, htr, htl⟩ := hlr
  cases t with | mk tf tP tM tA tK tks =>
  have htf : tf = fr.f := congrArg Lay.f htl
  subst htf
  rw [htB]; rfl
 have hs32 : St H H32 [.cell b30 B 58, layRs B (.mk fr.f ks), .cell b22 A1 26, docRs A1 (doD D (ed0 6 id 0 0 1 0 0 0 0 0)).2, .cell b13 (docA D.w D.h D.next Kd) 29, .cell b11 A 26, docRs A D, poolRs L] := by simpa using hs32
 have h1 : (doD D (ed0 6 id 0 0 1 0 0 0 0 0)).1 = 0 := by rw [hid_do hf]
 have i1 := do_inv hi h1
 rw [h1]
 refine br_ne (fun h => absurd rfl h) fun _ => ⟨A, hd.size, rowIn_whole (hs32.block 5 rfl), fr.f.mode, hs32.get 0 rfl (j := 4) hB4, ?_⟩
 have h2 : (doD D (ed0 5 id 0 0 0 fr.f.mode 0 0 0 0)).1 = 0 := by rw [opa_do hf hgood]
 have i2 := do_inv hi h2
 refine do_st (D := D) (e := ed0 5 id 0 0 0 fr.f.mode 0 0 0 0) (s := es0) hs32 (hs32.doc 6 rfl) hi (by omega) (ed0_ok H32 ..) fun A2 H36 hd2 hs36 => ⟨_, _, rfl, ?_⟩
 refine hs36.alc fun b39 H40 hs40 => ⟨hd2.size, hs40.putAll 0 rfl hd2.size hd2.one fun H41 hs41 => ?_⟩
 have hs41 : St H H41 [.cell b39 A2 26, docRs A2 (doD D (ed0 5 id 0 0 0 fr.f.mode 0 0 0 0)).2, .cell b30 B 58, layRs B (.mk fr.f ks), .cell b22 A1 26, docRs A1 (doD D (ed0 6 id 0 0 1 0 0 0 0 0)).2, .cell b13 (docA D.w D.h D.next Kd) 29, .cell b11 A 26, docRs A D, poolRs L] := hs41
 have h3 : (doD D (ed0 2 id 0 0 0 0 0 0 0 0)).1 = 0 := by rw [del_do hf]
 have i3 := do_inv hi h3
 refine ⟨A, hd.size, rowIn_whole (hs41.block 7 rfl), ?_⟩
 refine do_st (D := D) (e := ed0 2 id 0 0 0 0 0 0 0 0) (s := es0) hs41 (hs41.doc 8 rfl) hi (by omega) (ed0_ok H41 ..) fun A3 H44 hd3 hs44 => ⟨_, _, rfl, ?_⟩
 refine hs44.alc fun b47 H48 hs48 => ⟨hd3.size, hs48.putAll 0 rfl hd3.size hd3.one fun H49 hs49 => ?_⟩
 have hs49 : St H H49 [.cell b47 A3 26, docRs A3 (doD D (ed0 2 id 0 0 0 0 0 0 0 0)).2, .cell b39 A2 26, docRs A2 (doD D (ed0 5 id 0 0 0 fr.f.mode 0 0 0 0)).2, .cell b30 B 58, layRs B (.mk fr.f ks), .cell b22 A1 26, docRs A1 (doD D (ed0 6 id 0 0 1 0 0 0 0 0)).2, .cell b13 (docA D.w D.h D.next Kd) 29, .cell b11 A 26, docRs A D, poolRs L] := hs49
 have e12 : wholeL (doD D (ed0 5 id 0 0 0 fr.f.mode 0 0 0 0)).2 = wholeL (doD D (ed0 6 id 0 0 1 0 0 0 0 0)).2 := by
  rw [opa_do hf hgood, hid_do hf]
  exact (whole_gone hi hp fun x y o ho => lay_none (part_none rfl) ho).trans (whole_gone hi hp fun x y o ho => lay_hidden rfl).symm
 have e13 : wholeL (doD D (ed0 2 id 0 0 0 0 0 0 0 0)).2 = wholeL (doD D (ed0 6 id 0 0 1 0 0 0 0 0)).2 := by
  rw [del_do hf, hid_do hf]
  exact (whole_gone hi hp fun x y o ho => lay_hidden rfl).symm
 obtain ⟨-, -, w1, g1⟩ := do_next h1
 obtain ⟨-, -, w2, g2⟩ := do_next h2
 obtain ⟨-, -, w3, g3⟩ := do_next h3
 have n64 : ∀ E : DocL, E.w = 8 → E.h = 8 → (wholeP E).n = 64 := fun E hw hh => by show (E.w * E.h).toNat = 64; rw [hw, hh]; rfl
 have wA : ∀ {A' : Array Value} {E : DocL} {H1 : Heap} {R1 : Value → Heap → Prop}, DocR H49 A' E → Inv E → E.w = 8 → E.h = 8 → Ext H49 H1 → (∀ bw H', St H1 H' [pixRs bw (wholeL E)] → R1 (.agg (picV bw)) H') → CallsH Tryz.prog 11 #[.agg A'] H1 R1 := fun hdE hiE hw hh he k => c11 (hdE.ext he) hiE fun bw H' hs => by
  rw [hw, hh, n64 _ hw hh]; exact k bw H' hs
 have k1 := fun {H1 R1} => @wA _ _ H1 R1 (hs49.doc 7 rfl) i1 (w1.trans hDw) (g1.trans hDh)
 have k2 := fun {H1 R1} => @wA _ _ H1 R1 (hs49.doc 3 rfl) i2 (w2.trans hDw) (g2.trans hDh)
 have k3 := fun {H1 R1} => @wA _ _ H1 R1 (hs49.doc 1 rfl) i3 (w3.trans hDw) (g3.trans hDh)
 have hlen1 : (wholeL (doD D (ed0 6 id 0 0 1 0 0 0 0 0)).2).length = 64 := by rw [wholeL_len, n64 _ (w1.trans hDw) (g1.trans hDh)]
 rw [e12] at k2
 rw [e13] at k3
 rw [h2, h3]
 have sz1 := (hs49.doc 7 rfl).size
 have sz2 := (hs49.doc 3 rfl).size
 have sz3 := (hs49.doc 1 rfl).size
 have rw1 := rowIn_whole (hs49.block 6 rfl)
 have rw2 := rowIn_whole (hs49.block 2 rfl)
 have rw3 := rowIn_whole (hs49.block 0 rfl)
 have hst : St H H49 [] := St.of_ext hs49.ext
 clear hs49 hs41 hs44 hs48 hs40 hs36 hs32 hs31 hs27 hs24 hs23 hs19 hs16 hs15 hs14 hs12 hs7 wA
 generalize wholeL (doD D (ed0 6 id 0 0 1 0 0 0 0 0)).2 = G at k1 k2 k3 hlen1
 intro J50 hJ50
 have fin : ∀ (bx by_ bz v1 v2 v3 : Nat) (H2 : Heap), St H H2 [pixZero bx, pixZero by_, pixZero bz, pixRs v1 G, pixRs v2 G, pixRs v3 G] → (picV v1).size = 3 ∧ stAt H2 ⟨bx, 0, none⟩ (picV v1).toList fun H3 => (picV v2).size = 3 ∧ stAt H3 ⟨by_, 0, none⟩ (picV v2).toList fun H4 => (picV v3).size = 3 ∧ stAt H4 ⟨bz, 0, none⟩ (picV v3).toList fun H5 => J50 [.pointer (some ⟨bx, 0, none⟩), .pointer (some ⟨by_, 0, none⟩), .pointer (some ⟨bz, 0, none⟩)] H5 := by
  intro bx by_ bz v1 v2 v3 H2 hs2
  refine ⟨rfl, hs2.putAll 0 rfl rfl one_pic fun H3 hs3 => ⟨rfl, hs3.putAll 1 rfl rfl one_pic fun H4 hs4 => ⟨rfl, hs4.putAll 2 rfl rfl one_pic fun H5 hs5 => ?_⟩⟩⟩
  have hs5 : St H H5 [.cell bx (picV v1) 34, .cell by_ (picV v2) 34, .cell bz (picV v3) 34, pixRs v1 G, pixRs v2 G, pixRs v3 G] := hs5
  refine hJ50 _ _ _ _ ?_
  refine br_eq (fun _ => br_eq (fun _ => ?_) fun h => absurd rfl h) fun h => absurd rfl h
  refine ⟨_, _, _, hs5.get 0 rfl (j := 2) rfl, _, _, _, hs5.get 1 rfl (j := 2) rfl, ?_⟩
  refine c14 (hs5.isA 3 rfl hlen1) (hs5.isA 4 rfl hlen1) (by decide) ⟨_, rfl, ?_⟩
  rw [decide_eq_true rfl]
  refine br_t rfl ⟨_, _, _, hs5.get 0 rfl (j := 2) rfl, _, _, _, hs5.get 2 rfl (j := 2) rfl, ?_⟩
  refine c14 (hs5.isA 3 rfl hlen1) (hs5.isA 5 rfl hlen1) (by decide) ⟨_, rfl, ?_⟩
  rw [decide_eq_true rfl]
  exact hR _ hs5.ext
 clear hJ50
 refine ⟨A1, sz1, rw1, A2, sz2, rw2, A3, sz3, rw3, ?_⟩
 have hx : Ext H49 H49 := Ext.refl _
 repeat' first
  | with_reducible refine fin _ _ _ _ _ _ _ ?_
  | ((first | refine k1 ‹Ext H49 _› fun bw Hn hw => ⟨_, rfl, ?_⟩ | refine k2 ‹Ext H49 _› fun bw Hn hw => ⟨_, rfl, ?_⟩ | refine k3 ‹Ext H49 _› fun bw Hn hw => ⟨_, rfl, ?_⟩); have hxn := Ext.trans ‹Ext H49 _› hw.ext; have hsn := St.call1 ‹St H _ _› hw; (try refine ⟨.inl hw.ext, ?_⟩))
  | (with_reducible refine St.alcE ‹St H _ _› fun bn Hn hn hs0 => ?_; have hsn : St H Hn (pixZero bn :: _) := hs0; clear hs0; have hxn := Ext.trans ‹Ext H49 _› hn; (try refine ⟨.inl hn, ?_⟩))
  | with_reducible refine And.intro ?_ ?_
 all_goals exact St.perm ‹St H _ _› (permC (a := [_, _, _, _, _, _]) (b := [_, _, _, _, _, _]) fun _ y => by simp only [List.count_cons, List.count_nil]; ac_rfl)
end Go.Proofs
namespace Go.Proofs
open Go.Sh Go.RowKit Go.ChangeShapes Go.WideShapes Go.ChangeAt
end Go.Proofs
namespace Go.Proofs
open Go.Sh Go.RowKit Go.ChangeShapes Go.WideShapes Go.ChangeAt Go.Deep
section
variable {H : Type} {enc : TypeId × Value → H} {W : World}
abbrev TrP (enc : TypeId × Value → H) (W : World) (fuel : Nat) (t : TypeId) (cs : List Value) (x : DataW H × List MemPlace) : Prop := DataW.trod enc Tryz.prog W 0 (fun _ => true) true fuel t cs = some x
theorem intsAt {fuel : Nat} {a0 : Option Addr} {len cap : Nat} {x : DataW H × List MemPlace} (hf : TrP enc W fuel 32 [.slice a0 len cap] x) : ∃ ls, len ≤ cap ∧ IS W.heap a0 len (ints ls) := by
 rcases open_ints Tryz.underlying32 Tryz.underlying3 (by kernel_rfl) hf with ⟨hcs, _⟩ | ⟨a, len2, cap2, zs, hcs, _, hl, _, hz, _, hc, hw⟩
 ·simp at hcs
  obtain ⟨rfl, rfl, rfl⟩ := hcs
  exact ⟨[], Nat.le_refl _, ⟨rfl, fun i v hv => by simp [ints] at hv⟩⟩
 ·simp at hcs
  obtain ⟨rfl, rfl, rfl⟩ := hcs
  have hzl : len ≤ zs.length := by rw [hz]; simp; omega
  refine ⟨zs.take len, hl, ⟨by rw [ints_len]; simp; omega, fun i v hv => ⟨a, rfl, ?_⟩⟩⟩
  have hi : i < len := by have := (List.getElem?_eq_some_iff.1 hv).1; rw [ints_len] at this; simp at this; omega
  have := hc i (by omega)
  rw [cell_eq] at this
  rw [this]
  have hg : (zs.take len)[i]? = some (zs.getD i 0) := by
   rw [List.getElem?_take_of_lt hi, List.getD_eq_getElem?_getD, List.getElem?_eq_getElem (by omega)]; rfl
  rw [ints_get hg] at hv
  exact hv
theorem fieldAt {t : TypeId} {fs : Array Field} {fuel : Nat} {cs : List Value} {x : DataW H × List MemPlace} (hs : Tryz.prog.underlying t = some (.struct fs)) (h : TrP enc W fuel t cs x) (i : Nat) {f : Field} {o ty c : Nat} (hf : fs[i]? = some f) (ho : f.offset = o) (ht : f.type = ty) (hc : Tryz.prog.cellsOf ty = c) :
    ∃ n y, n < fuel ∧ TrP enc W n ty ((cs.drop o).take c) y := by
  obtain ⟨xs, n, hfu, _, hl, hlen, hg⟩ := DataW.trod_struct hs h
  have := hg i f hf
  have hi := (Array.getElem?_eq_some_iff.1 hf).1
  rw [List.getElem?_eq_getElem (by omega), ho, ht, hc] at this
  exact ⟨n, _, by omega, this⟩
theorem one_get {cs : List Value} {o : Nat} {v : Value} (h : (cs.drop o).take 1 = [v]) : cs[o]? = some v := by
 have h4 : ((cs.drop o).take 1)[0]? = some v := by rw [h]; rfl
 rw [List.getElem?_take_of_lt (by omega), List.getElem?_drop] at h4
 simpa using h4
theorem intF {n : Nat} {cs : List Value} {o : Nat} {y : DataW H × List MemPlace} (h : TrP enc W n 3 ((cs.drop o).take 1) y) : ∃ m : Int, cs[o]? = some (.int .i64 m) := by
 obtain ⟨m, hm, _, _⟩ := DataW.trod_int Tryz.underlying3 h
 exact ⟨m, one_get hm⟩
theorem slF {t e n : Nat} {cs : List Value} {o : Nat} {y : DataW H × List MemPlace} (ht : Tryz.prog.underlying t = some (.slice e)) (h : TrP enc W n t ((cs.drop o).take 1) y) : ∃ s : Sl3, cs[o]? = some s.v ∧ TrP enc W n t [s.v] y := by
 rcases DataW.trod_slice ht h with ⟨h0, _⟩ | ⟨a, len, cap, elems, rest, m, _, h0, _⟩
 ·rw [h0] at h; exact ⟨.nil, one_get h0, h⟩
 ·rw [h0] at h; exact ⟨⟨some a, len, cap⟩, one_get h0, h⟩
theorem list19 {α : Type} {l : List α} (h : l.length = 19) : ∃ a b c d e f g i j k m n o p q r s t u, l = [a, b, c, d, e, f, g, i, j, k, m, n, o, p, q, r, s, t, u] := by
 match l, h with
 | [a, b, c, d, e, f, g, i, j, k, m, n, o, p, q, r, s, t, u], _ => exact ⟨a, b, c, d, e, f, g, i, j, k, m, n, o, p, q, r, s, t, u, rfl⟩
theorem sixF {t n : Nat} {cs : List Value} {o : Nat} {y : DataW H × List MemPlace} (ht : Tryz.prog.underlying t = some (.array 6 3)) (h : TrP enc W n t ((cs.drop o).take 6) y) :
    ∃ m : M6, cs[o]? = some (.int .i64 m.a) ∧ cs[o + 1]? = some (.int .i64 m.b) ∧ cs[o + 2]? = some (.int .i64 m.c) ∧ cs[o + 3]? = some (.int .i64 m.d) ∧ cs[o + 4]? = some (.int .i64 m.e) ∧ cs[o + 5]? = some (.int .i64 m.f) := by
  obtain ⟨xs, m, _, _, hl, hlen, hg⟩ := DataW.trod_array ht h
  have hc : Tryz.prog.cellsOf 3 = 1 := by kernel_rfl
  have each : ∀ i, i < 6 → ∃ z : Int, cs[o + i]? = some (.int .i64 z) := fun i hi => by
    have := hg i hi
    rw [hc, Nat.mul_one, List.getElem?_eq_getElem (by omega)] at this
    obtain ⟨z, hz⟩ := intF this
    rw [List.getElem?_take_of_lt hi, List.getElem?_drop] at hz
    exact ⟨z, hz⟩
  obtain ⟨a, ha⟩ := each 0 (by omega)
  obtain ⟨b, hb⟩ := each 1 (by omega)
  obtain ⟨c, hc⟩ := each 2 (by omega)
  obtain ⟨d, hd⟩ := each 3 (by omega)
  obtain ⟨e, he⟩ := each 4 (by omega)
  obtain ⟨f, hf⟩ := each 5 (by omega)
  exact ⟨⟨a, b, c, d, e, f⟩, ha, hb, hc, hd, he, hf⟩
theorem ptAt {n : Nat} {cs : List Value} {y : DataW H × List MemPlace} (h : TrP enc W n 105 cs y) : ∃ p : Pt, cs = [.int .i64 p.1, .int .i64 p.2] := by
 obtain ⟨_, _, _, h0⟩ := fieldAt (o := 0) (ty := 3) (c := 1) Tryz.underlying105 h 0 rfl rfl rfl (by kernel_rfl)
 obtain ⟨_, _, _, h1⟩ := fieldAt (o := 1) (ty := 3) (c := 1) Tryz.underlying105 h 1 rfl rfl rfl (by kernel_rfl)
 obtain ⟨x, hx⟩ := intF h0
 obtain ⟨y, hy⟩ := intF h1
 obtain ⟨xs, m, _, _, hl, _⟩ := DataW.trod_struct Tryz.underlying105 h
 have hl2 : cs.length = 2 := by rw [hl]; kernel_rfl
 match cs, hl2 with
 | [a, b], _ =>
  simp only [List.getElem?_cons_zero, List.getElem?_cons_succ, Option.some.injEq] at hx hy
  subst hx; subst hy
  exact ⟨(x, y), rfl⟩
theorem choose_list {α : Type} {P : Nat → α → Prop} {n : Nat} [Inhabited α] (h : ∀ i, i < n → ∃ x, P i x) : ∃ l : List α, l.length = n ∧ ∀ i x, l[i]? = some x → P i x := by
 obtain ⟨f, hf⟩ : ∃ f : Nat → α, ∀ i, i < n → P i (f i) := by
  have : ∀ i, ∃ x, i < n → P i x := fun i => by
   by_cases hi : i < n
   ·obtain ⟨x, hx⟩ := h i hi; exact ⟨x, fun _ => hx⟩
   ·exact ⟨default, fun h => absurd h hi⟩
  exact Classical.axiomOfChoice this
 refine ⟨(List.range n).map f, by simp, fun i x hx => ?_⟩
 have hi : i < n := by have := (List.getElem?_eq_some_iff.1 hx).1; simpa using this
 simp [hi] at hx
 subst hx
 exact hf i hi
theorem ptsAt {fuel : Nat} {s : Sl3} {x : DataW H × List MemPlace} (hf : TrP enc W fuel 48 [s.v] x) : ∃ pts : List Pt, s.l ≤ s.c ∧ IS2 W.heap s.p s.l pts := by
 rcases open_slice Tryz.underlying48 hf with ⟨hcs, _⟩ | ⟨a, len', cap', m, n, D, Pl, hcs, _, hl, hm, hmm, _, hx⟩
 ·obtain ⟨p, l, c⟩ := s
  simp only [Sl3.v, List.cons.injEq, Value.slice.injEq, and_true] at hcs
  obtain ⟨rfl, rfl, rfl⟩ := hcs
  exact ⟨[], Nat.le_refl _, IS2.nil _⟩
 ·obtain ⟨p, l, c⟩ := s
  simp only [Sl3.v, List.cons.injEq, Value.slice.injEq, and_true] at hcs
  obtain ⟨rfl, rfl, rfl⟩ := hcs
  have hml : l ≤ m := by rw [hmm]; simp; omega
  obtain ⟨pts, hlen, hpts⟩ := choose_list (P := fun i (p : Pt) => rowIn W.heap (a.add (i * 2)) #[.int .i64 p.1, .int .i64 p.2]) (n := l) fun i hi => by
   obtain ⟨cs, h1, h2⟩ := hx i (by omega)
   rw [show Tryz.prog.cellsOf 105 = 2 from by kernel_rfl] at h1
   obtain ⟨p, rfl⟩ := ptAt h2
   obtain ⟨_, _, hc⟩ := World.cells?_some h1
   refine ⟨p, fun j v hv => ?_⟩
   have hj : j < 2 := (Array.getElem?_eq_some_iff.1 hv).1
   have := hc j hj
   rw [cell_eq] at this
   rw [this]
   simpa using hv
  exact ⟨pts, hl, hlen, fun i x y hi => ⟨a, rfl, hpts i (x, y) hi⟩⟩
theorem edAt {fuel : Nat} {cs : List Value} {x : DataW H × List MemPlace} (h : TrP enc W fuel 52 cs x) : ∃ e s, cs = edL e s ∧ rdEd W.heap e s := by
 have hu := Tryz.underlying52
 obtain ⟨_, _, _, h0⟩ := fieldAt (o := 0) (ty := 3) (c := 1) hu h 0 rfl rfl rfl (by kernel_rfl)
 obtain ⟨_, _, _, h1⟩ := fieldAt (o := 1) (ty := 3) (c := 1) hu h 1 rfl rfl rfl (by kernel_rfl)
 obtain ⟨_, _, _, h2⟩ := fieldAt (o := 2) (ty := 3) (c := 1) hu h 2 rfl rfl rfl (by kernel_rfl)
 obtain ⟨_, _, _, h3⟩ := fieldAt (o := 3) (ty := 3) (c := 1) hu h 3 rfl rfl rfl (by kernel_rfl)
 obtain ⟨_, _, _, h4⟩ := fieldAt (o := 4) (ty := 3) (c := 1) hu h 4 rfl rfl rfl (by kernel_rfl)
 obtain ⟨_, _, _, h5⟩ := fieldAt (o := 5) (ty := 3) (c := 1) hu h 5 rfl rfl rfl (by kernel_rfl)
 obtain ⟨_, _, _, h6⟩ := fieldAt (o := 6) (ty := 3) (c := 1) hu h 6 rfl rfl rfl (by kernel_rfl)
 obtain ⟨_, _, _, h7⟩ := fieldAt (o := 7) (ty := 3) (c := 1) hu h 7 rfl rfl rfl (by kernel_rfl)
 obtain ⟨_, _, _, h8⟩ := fieldAt (o := 8) (ty := 3) (c := 1) hu h 8 rfl rfl rfl (by kernel_rfl)
 obtain ⟨_, _, _, h9⟩ := fieldAt (o := 9) (ty := 3) (c := 1) hu h 9 rfl rfl rfl (by kernel_rfl)
 obtain ⟨_, _, _, h10⟩ := fieldAt (o := 10) (ty := 32) (c := 1) hu h 10 rfl rfl rfl (by kernel_rfl)
 obtain ⟨_, _, _, h11⟩ := fieldAt (o := 11) (ty := 48) (c := 1) hu h 11 rfl rfl rfl (by kernel_rfl)
 obtain ⟨_, _, _, h12⟩ := fieldAt (o := 12) (ty := 50) (c := 6) hu h 12 rfl rfl rfl (by kernel_rfl)
 obtain ⟨_, _, _, h13⟩ := fieldAt (o := 18) (ty := 32) (c := 1) hu h 13 rfl rfl rfl (by kernel_rfl)
 obtain ⟨v0, g0⟩ := intF h0
 obtain ⟨v1, g1⟩ := intF h1
 obtain ⟨v2, g2⟩ := intF h2
 obtain ⟨v3, g3⟩ := intF h3
 obtain ⟨v4, g4⟩ := intF h4
 obtain ⟨v5, g5⟩ := intF h5
 obtain ⟨v6, g6⟩ := intF h6
 obtain ⟨v7, g7⟩ := intF h7
 obtain ⟨v8, g8⟩ := intF h8
 obtain ⟨v9, g9⟩ := intF h9
 obtain ⟨P, g10, t10⟩ := slF Tryz.underlying32 h10
 obtain ⟨S, g11, t11⟩ := slF Tryz.underlying48 h11
 obtain ⟨m, ga, gb, gc, gd, ge, gf⟩ := sixF Tryz.underlying50 h12
 obtain ⟨A, g18, t18⟩ := slF Tryz.underlying32 h13
 obtain ⟨ps, _, hps⟩ := intsAt t10
 obtain ⟨pts, _, hpts⟩ := ptsAt t11
 obtain ⟨qs, _, hqs⟩ := intsAt t18
 obtain ⟨xs, k, _, _, hl, _⟩ := DataW.trod_struct hu h
 have hl2 : cs.length = 19 := by rw [hl]; kernel_rfl
 refine ⟨⟨v0, v1, v2, v3, v4, v5, v6, v7, v8, v9, ps, pts, m, qs⟩, ⟨P, S, A⟩, ?_, ⟨hps, hpts, hqs⟩⟩
 obtain ⟨a, b, c, d, e, f, g, i, j, k, m', n, o, p, q, r, s, t, u, rfl⟩ := list19 hl2
 simp only [List.getElem?_cons_zero, List.getElem?_cons_succ, Option.some.injEq] at g0 g1 g2 g3 g4 g5 g6 g7 g8 g9 g10 g11 ga gb gc gd ge gf g18
 subst g0 g1 g2 g3 g4 g5 g6 g7 g8 g9 g10 g11 ga gb gc gd ge gf g18
 rfl
instance : Inhabited (Ed × EdS) := ⟨⟨0, 0, 0, 0, 0, 0, 0, 0, 0, 0, [], [], ⟨0, 0, 0, 0, 0, 0⟩, []⟩, ⟨.nil, .nil, .nil⟩⟩
theorem editsIn_of {v : Value} {d : DataW H} {ps : List MemPlace} {base : Nat} (hv : Value.okWide Tryz.prog W .any base 22 v) (h : DataW.Trod enc Tryz.prog W 0 (fun _ => true) true 22 v d ps) :
    ∃ a l c es, v = .slice a l c ∧ l ≤ c ∧ EdsR W.heap a l es := by
  obtain ⟨a0, len, cap, rfl⟩ := okWide_slice Tryz.underlying22 hv
  obtain ⟨fuel, hf⟩ := h
  rcases open_slice Tryz.underlying22 hf with ⟨hcs, _⟩ | ⟨a, len', cap', m, n, D, Pl, hcs, _, hl, hm, hmm, _, hx⟩
  · simp only [Value.cells] at hcs
    simp at hcs
    obtain ⟨rfl, rfl, rfl⟩ := hcs
    exact ⟨none, 0, 0, [], rfl, Nat.le_refl _, rfl, fun i e s hx => by simp at hx⟩
  · simp only [Value.cells] at hcs
    simp at hcs
    obtain ⟨rfl, rfl, rfl⟩ := hcs
    have hml : len ≤ m := by rw [hmm]; simp; omega
    obtain ⟨es, hlen, hes⟩ := choose_list (P := fun i (x : Ed × EdS) => rowIn W.heap (a.add (i * 19)) (edL x.1 x.2).toArray ∧ rdEd W.heap x.1 x.2) (n := len) fun i hi => by
      obtain ⟨cs, h1, h2⟩ := hx i (by omega)
      rw [show Tryz.prog.cellsOf 52 = 19 from by kernel_rfl] at h1
      obtain ⟨e, s, rfl, hrd⟩ := edAt h2
      obtain ⟨_, _, hc⟩ := World.cells?_some h1
      refine ⟨(e, s), fun j v hv => ?_, hrd⟩
      have hj : j < 19 := (Array.getElem?_eq_some_iff.1 hv).1
      have := hc j hj
      rw [cell_eq] at this
      rw [this]
      simpa using hv
    exact ⟨some a, len, cap, es, rfl, hl, hlen, fun i e s hi => let ⟨h1, h2⟩ := hes i (e, s) hi; ⟨a, rfl, h1, h2⟩⟩
end
end Go.Proofs
