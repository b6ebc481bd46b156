/-
  OWN WORK. Several texts in one: TsBackP, RnL, RnOver, RnInv, OpBytes, OpTree.
-/
import Derived.Test.YtgkfijgdkegdkaaMgRenderInvertF
import Derived.Test.YtgkfijgdkegdkaaRows
import Derived.Test.YtgkfijgdkegdkaaMgRenderInvertB
import Derived.ChangeSlices
import Derived.Deep.Slices

set_option linter.unusedVariables false
set_option linter.unusedSimpArgs false
set_option maxRecDepth 10000
namespace Go.Proofs
open Go.Sh
theorem fl_skip {id : Int} : ∀ (A B : List Lay) (up : List FrL) (pre : List Lay), id ∉ idsKs A → flK up pre id (A ++ B) = flK up (pre ++ A) id B
 | [], B, up, pre, _ => by rw [List.nil_append, List.append_nil]
 | t :: A, B, up, pre, h => by
  rw [idsKs, List.mem_append, not_or] at h
  rw [List.cons_append, flK, (fl_none id t up pre (A ++ B)).2 h.1]
  simp only
  rw [fl_skip A B up (pre ++ [t]) h.2, List.append_assoc]; rfl
end Go.Proofs
namespace Go.Proofs
open Go.Sh
theorem ids_lenT : ∀ t, (idsT t).length = cntL t := Lay.ind fun f ks ih => by
 rw [idsT, cntL, List.length_cons]
 have : ∀ (ts : List Lay), (∀ t ∈ ts, (idsT t).length = cntL t) → (idsKs ts).length = cntKs ts := by
  intro ts
  induction ts with
  | nil => intro _; rfl
  | cons t ts ih2 => intro h; rw [idsKs, cntKs, List.length_append, h t List.mem_cons_self, ih2 fun u hu => h u (List.mem_cons_of_mem _ hu)]
 rw [this ks ih]; omega
theorem ids_len (ts : List Lay) : (idsKs ts).length = cntKs ts := by
 induction ts with
 | nil => rfl
 | cons t ts ih => rw [idsKs, cntKs, List.length_append, ids_lenT, ih]
theorem nodup_len : ∀ (m : Nat) (l : List Int), l.Nodup → (∀ x ∈ l, 1 ≤ x ∧ x ≤ m) → l.length ≤ m
 | 0, l, _, h => by
  cases l with
  | nil => exact Nat.le_refl _
  | cons x l => have := h x List.mem_cons_self; omega
 | m + 1, l, hn, h => by
  by_cases hm : ((m + 1 : Nat) : Int) ∈ l
  ·have h1 := nodup_len m (l.erase ((m + 1 : Nat) : Int)) (hn.erase _) fun x hx => by
    obtain ⟨h2, h3⟩ := (List.Nodup.mem_erase_iff hn).1 hx
    have := h x h3
    omega
   rw [List.length_erase_of_mem hm] at h1
   omega
  ·have := nodup_len m l hn fun x hx => by
    have h1 := h x hx
    have h2 : x ≠ ((m + 1 : Nat) : Int) := fun he => hm (he ▸ hx)
    omega
   omega
theorem Inv.few2 {D : DocL} (hi : Inv D) : (cntKs D.ks : Int) ≤ D.next - 1 := by
 have hn := hi.next
 have := nodup_len (D.next - 1).toNat (idsKs D.ks) hi.ids fun x hx => by have := ids_ltKs hi.good x hx; omega
 rw [ids_len] at this
 omega
theorem doD_of {D : DocL} {e : Ed} {n : Int} {ks : List Lay} (hk : 1 ≤ e.kind ∧ e.kind ≤ 9) (h : stepL D.w D.h D.next D.ks e = (0, ks)) (hn : nextL D.next e = n) : doD D e = (0, ⟨D.w, D.h, n, ks⟩) := by
 have : doL D.w D.h D.next D.ks e = (0, n, ks) := by unfold doL; rw [if_neg (by omega), h, if_neg (fun hh => hh rfl), hn]
 unfold doD
 rw [this, if_neg (fun hh => hh rfl)]
theorem add_top {D : DocL} (hi : Inv D) (hc : D.next ≤ 4000) {n w h : Int} (hn : 0 ≤ n ∧ n ≤ 2) (hsz : n = 0 → sizedB w h = true) : doD D (ed0 1 0 0 (-1) n 0 0 0 w h) = (0, ⟨D.w, D.h, D.next + 1, D.ks ++ [.mk (newL D.next (ed0 1 0 0 (-1) n 0 0 0 w h)) []]⟩) := by
 have hcn := hi.few2
 have hdp := hi.dep
 refine doD_of ⟨show (1 : Int) ≤ 1 by decide, show (1 : Int) ≤ 9 by decide⟩ ?_ rfl
 have hput : putL [] D.ks (-1) (.mk (newL D.next (ed0 1 0 0 (-1) n 0 0 0 w h)) []) = (0, D.ks ++ [.mk (newL D.next (ed0 1 0 0 (-1) n 0 0 0 w h)) []]) := by
  unfold putL
  rw [show atL (-1) D.ks.length = some D.ks.length from rfl]
  simp only [List.take_length, List.drop_length, plugL]
  rw [if_neg]
  rw [depKs_app]
  simp only [depKs, depL]
  omega
 show addL D.next D.ks (ed0 1 0 0 (-1) n 0 0 0 w h) = _
 unfold addL
 rw [if_neg (by show ¬ (n < 0 ∨ n > 2); omega), if_neg (by
  rintro ⟨h1, h2⟩
  have := hsz h1
  rw [show (ed0 1 0 0 (-1) n 0 0 0 w h).w = w from rfl, show (ed0 1 0 0 (-1) n 0 0 0 w h).h = h from rfl, this] at h2
  cases h2)]
 rw [show homeL D.ks (ed0 1 0 0 (-1) n 0 0 0 w h).to = (0, [], D.ks) from rfl]
 simp only
 rw [show (ed0 1 0 0 (-1) n 0 0 0 w h).at_ = -1 from rfl, hput]
 rw [if_neg (fun hh => hh rfl), if_neg (fun hh => hh rfl), if_neg (by omega)]
theorem chg_top {ks : List Lay} {f : LayF} {sub : List Lay} {g : LayF → Int × LayF} (hid : f.id ∉ idsKs ks) (hg : (g f).1 = 0) : chgL g (ks ++ [.mk f sub]) f.id = (0, ks ++ [.mk (g f).2 sub]) := by
 have hf : flK [] [] f.id (ks ++ [.mk f sub]) = some ([⟨ks, f, []⟩], sub) := by
  rw [fl_skip _ _ _ _ hid, flK, flT, if_pos rfl]; rfl
 unfold chgL
 rw [hf]
 simp only
 rw [if_neg (by rw [hg]; decide)]
 rfl
theorem range_getDR {p : List Int} : (List.range p.length).map (fun q => p.getD q 0) = p := by
 refine List.ext_getElem? fun i => ?_
 rw [List.getElem?_map]
 by_cases hi : i < p.length
 ·rw [List.getElem?_range hi, Option.map_some, List.getD_eq_getElem?_getD, List.getElem?_eq_getElem hi]; rfl
 ·rw [List.getElem?_eq_none (by simpa using hi), List.getElem?_eq_none (by omega)]; rfl
theorem paint_full {e : Ed} {W Hh : Int} {p : List Int} (hw : 0 < W) (hx : e.x = 0) (hy : e.y = 0) (he : e.w = W) (hh : e.h = Hh) (hl : (p.length : Int) = W * Hh) (hp : e.p.length = p.length) : paintP e W p = e.p := by
 unfold paintP
 rw [← hp]
 conv => rhs; rw [← range_getDR (p := e.p)]
 refine List.map_congr_left fun i hi => ?_
 have hil := List.mem_range.1 hi
 have e1 := Int.emod_nonneg (i : Int) (show W ≠ 0 by omega)
 have e2 := Int.emod_lt_of_pos (i : Int) hw
 have e3 : 0 ≤ (i : Int) / W := Int.ediv_nonneg (by omega) (by omega)
 have e4 : (i : Int) / W < Hh := Int.ediv_lt_of_lt_mul hw (by rw [Int.mul_comm]; omega)
 have e5 := Int.mul_ediv_add_emod (i : Int) W
 rw [if_pos (show insideB e W i = true from decide_eq_true (by rw [hx, hy, he, hh]; omega))]
 congr 1
 unfold idxP
 rw [hx, hy, he, Int.sub_zero, Int.sub_zero, Int.mul_comm]
 omega
theorem back_one : backM oneM = (0, oneM) := by decide +kernel
theorem seen_one {f : LayF} (hm : f.map = oneM) (hs : f.smooth = false) (x y : Int) : seenP f x y = picAt f.w f.h f.p x y := by
 unfold seenP atP
 rw [hm, back_one, hs]
 have e1 : atU oneM.a oneM.b oneM.e x y / 65536 = x := by unfold atU oneM; simp only; omega
 have e2 : atU oneM.c oneM.d oneM.f x y / 65536 = y := by unfold atU oneM; simp only; omega
 rw [e1, e2]; rfl
theorem mul_split {s d : Int} (hs : byte s) (hd : byte d) : mulP s (255 - d) + mulP d s = s := by
 unfold mulP byte at *
 have e : s * (255 - d) = 255 * s - d * s := by rw [Int.mul_sub, Int.mul_comm s 255, Int.mul_comm s d]
 rw [e]
 omega
theorem bare_255 {c : Int} (h : byte c) : bareP c 255 = c := by unfold bareP byte at *; rw [if_neg (by decide)]; omega
theorem over_full {s d : C4} (hs : OkC s) (hd : OkC d) (ha : s.a = 255) : blendP 0 s d = s := by
 obtain ⟨s1, s2, s3, s4⟩ := hs.bytes
 obtain ⟨d1, d2, d3, d4⟩ := hd.bytes
 have ea : 255 + d.a - mulP 255 d.a = 255 := by rw [mulP_comm, mulP_255]; omega
 have one : ∀ {si di : Int}, byte si → mixP 0 s.a d.a si di = si := fun {si di} h => by
  unfold mixP
  rw [ha, ea, mulP_comm 255 d.a, mulP_255, show blP 0 (bareP di d.a) (bareP si 255) = bareP si 255 from rfl, bare_255 h, show (255 : Int) - 255 = 0 from rfl, mulP_0, Int.add_zero, mul_split h d4]
  unfold byte at h; omega
 refine C4.ext' (one s1) (one s2) (one s3) ?_
 show s.a + d.a - mulP s.a d.a = s.a
 rw [ha]; exact ea
theorem fade_255 (c : C4) : fadeP c 255 = c := C4.ext' (mulP_255 _) (mulP_255 _) (mulP_255 _) (mulP_255 _)
theorem pix_in {W Hh : Int} {p : List Int} (hl : (p.length : Int) = W * Hh) (hw : 0 < W) {i : Nat} (hi : i < p.length) : picAt W Hh p ((i : Int) % W) ((i : Int) / W) = p.getD i 0 := by
 have e1 := Int.emod_nonneg (i : Int) (show W ≠ 0 by omega)
 have e2 := Int.emod_lt_of_pos (i : Int) hw
 have e3 : 0 ≤ (i : Int) / W := Int.ediv_nonneg (by omega) (by omega)
 have e4 : (i : Int) / W < Hh := Int.ediv_lt_of_lt_mul hw (by rw [Int.mul_comm]; omega)
 have e5 := Int.mul_ediv_add_emod (i : Int) W
 unfold picAt
 rw [if_neg (by omega)]
 congr 1
 rw [Int.mul_comm]
 omega
theorem whole_top {D : DocL} (hi : Inv D) {ks : List Lay} {f : LayF} (hk : D.ks = ks ++ [.mk f []]) (hf : f.kind = 0 ∧ f.hidden = false ∧ f.opacity = 255 ∧ f.mode = 0 ∧ f.mask = [] ∧ f.map = oneM ∧ f.smooth = false) (hw : f.w = D.w) (hh : f.h = D.h) (ha : ∀ v ∈ f.p, v % 256 = 255) : wholeL D = f.p := by
  obtain ⟨f1, f2, f3, f4, f5, f6, f7⟩ := hf
  obtain ⟨s1, s2⟩ := hi.sides
  have hg := hi.good
  rw [hk, gKs_app] at hg
  have hgf : goodF D.w D.h D.next f := hg.2.1.1
  obtain ⟨r1, r2, r3, r4⟩ := hgf.ras f1
  have hn := wholeP_n hi
  have hlen : f.p.length = (wholeP D).n := by have : (f.p.length : Int) = ((wholeP D).n : Int) := by rw [r2, hn, hw, hh]
                                              omega
  refine List.ext_getElem? fun i => ?_
  by_cases hin : i < (wholeP D).n
  · have e1 := getD_some (wholeL D) 0 (i := i) (by rw [wholeL_len]; exact hin)
    have e2 := getD_some f.p 0 (i := i) (by omega)
    rw [e1, e2]
    congr 1
    rw [show wholeL D = plL (wholeP D) fun i => lsPx (wholeP D).W ((wholeP D).X i) ((wholeP D).Y i) D.ks 0 from rfl, plL_at hin, hk, lsPx_app, lsPx, lsPx, layPx]
    rw [if_neg (by rw [f2]; decide), if_neg (by rw [f1]; decide), if_pos f1, seen_one f6 f7]
    have hX : (wholeP D).X i = (i : Int) % f.w := by rw [hw]; show 0 + (i : Int) % D.w = _; omega
    have hY : (wholeP D).Y i = (i : Int) / f.w := by rw [hw]; show 0 + (i : Int) / D.w = _; omega
    rw [hX, hY, pix_in r2 (by omega) (by omega)]
    have hv : f.p.getD i 0 ∈ f.p := by rw [List.getD_eq_getElem?_getD, List.getElem?_eq_getElem (by omega)]; exact List.getElem_mem _
    generalize f.p.getD i 0 = v at hv
    have hpx : pixelB v = true := List.all_eq_true.1 r3 v hv
    have hva := ha v hv
    have hrng := (pixelB_iff.1 hpx).1
    have hpart : partP f ((i : Int) / f.w * (wholeP D).W + (i : Int) % f.w) = 255 := by unfold partP; rw [f5, f3]; rfl
    rw [hpart]
    unfold overP
    rw [if_pos ⟨by omega, by decide⟩, f4, fade_255, over_full (spl_ok hpx) (spl_ok (ls_px _ _ _ hg.1 pixZ0)) (show v % 256 = 255 from hva), join_spl hrng]
  · rw [List.getElem?_eq_none (by rw [wholeL_len]; omega), List.getElem?_eq_none (by omega)]
end Go.Proofs
namespace Go.Proofs
open Go.Sh
variable {H0 H : Heap} {σ : List Rs} {R : Value → Heap → Prop}
theorem and24 (a : Int) : andI .i64 a (16777215 : Int) = a % 16777216 := by
 unfold andI
 rw [show IntKind.bits .i64 = 64 from rfl, BitVec.toNat_and, BitVec.toNat_ofInt, BitVec.toNat_ofInt]
 rw [show ((16777215 : Int) % ((2 ^ 64 : Nat) : Int)).toNat = 2 ^ 24 - 1 from by decide, Nat.and_two_pow_sub_one_eq_mod]
 have h2 : (((a % ((2 ^ 64 : Nat) : Int)).toNat % 2 ^ 24 : Nat) : Int) = a % 16777216 := by
  rw [show ((2 ^ 64 : Nat) : Int) = 18446744073709551616 from by decide]; omega
 rw [h2]
 exact wrap_id (by omega) (by omega)
def fullV (v : Int) : Int := (v % 16777216) * 256 + 255
theorem full_eq (v : Int) : orI .i64 (shlI .i64 (andI .i64 v (16777215 : Int)) (8 : Int)) (255 : Int) = fullV v := by
 have e8 : (2 : Int) ^ 8 = 256 := by decide
 rw [and24, show shlI .i64 (v % 16777216) (8 : Int) = (v % 16777216) * 2 ^ 8 from shl_of (k := 8) (by omega) (by decide) (by omega), or_sum' (a := 255) (b := v % 16777216) (k := 8) (by decide) (by decide) (by omega) (by omega)]
 unfold fullV
 omega
theorem full_px (v : Int) : pixelB (fullV v) = true ∧ fullV v % 256 = 255 := by
 unfold fullV
 refine ⟨decide_eq_true ?_, by omega⟩
 omega
theorem paintF_ok {e : Ed} {f : LayF} (h1 : f.kind = 0) (h2 : 1 ≤ e.w ∧ 1 ≤ e.h ∧ e.w ≤ 32768 ∧ e.h ≤ 32768 ∧ (e.p.length : Int) = e.w * e.h) (h3 : e.p.all pixelB = true) (h4 : (-32768 ≤ e.x ∧ e.x ≤ 32768) ∧ (-32768 ≤ e.y ∧ e.y ≤ 32768)) : paintF e f = (0, { f with p := paintP e f.w f.p }) := by
 unfold paintF
 rw [if_neg (fun hh => hh h1), if_neg (by omega), if_neg (fun hh => by
  obtain ⟨v, hv, hb⟩ := List.any_eq_true.1 hh
  rw [List.all_eq_true.1 h3 v hv] at hb
  cases hb), if_neg (by omega)]
def pntE (id : Int) (w h : Int) (P : List Int) : Ed := ⟨4, id, 0, 0, 0, 0, 0, 0, w, h, P, [], zeroM, []⟩
theorem pnt_top {D : DocL} (hi : Inv D) {w h : Int} (hsz : sizedB w h = true) {P : List Int} (hl : (P.length : Int) = w * h) (hp : P.all pixelB = true) :
    doD ⟨D.w, D.h, D.next + 1, D.ks ++ [.mk (newL D.next (ed0 1 0 0 (-1) 0 0 0 0 w h)) []]⟩ (pntE D.next w h P) = (0, ⟨D.w, D.h, D.next + 1, D.ks ++ [.mk { newL D.next (ed0 1 0 0 (-1) 0 0 0 0 w h) with p := P } []]⟩) := by
  have hs := hsz
  unfold sizedB at hs
  have hs := of_decide_eq_true hs
  refine doD_of ⟨show (1 : Int) ≤ 4 by decide, show (4 : Int) ≤ 9 by decide⟩ ?_ rfl
  have hf : paintF (pntE D.next w h P) (newL D.next (ed0 1 0 0 (-1) 0 0 0 0 w h)) = (0, { newL D.next (ed0 1 0 0 (-1) 0 0 0 0 w h) with p := P }) := by
    rw [paintF_ok (e := pntE D.next w h P) (f := newL D.next (ed0 1 0 0 (-1) 0 0 0 0 w h)) rfl (by show 1 ≤ w ∧ 1 ≤ h ∧ w ≤ 32768 ∧ h ≤ 32768 ∧ (P.length : Int) = w * h; omega) hp (by show (-32768 ≤ (0 : Int) ∧ (0 : Int) ≤ 32768) ∧ (-32768 ≤ (0 : Int) ∧ (0 : Int) ≤ 32768); decide)]
    have hlen : (List.replicate (w * h).toNat (0 : Int)).length = (w * h).toNat := by simp
    have e : paintP (pntE D.next w h P) w (List.replicate (w * h).toNat 0) = P := by
      have h0 : 0 ≤ w * h := Int.mul_nonneg (by omega) (by omega)
      exact paint_full (W := w) (Hh := h) (by omega) rfl rfl rfl rfl (by rw [hlen]; omega) (by rw [hlen]; show P.length = _; omega)
    show ((0 : Int), { newL D.next (ed0 1 0 0 (-1) 0 0 0 0 w h) with p := paintP (pntE D.next w h P) w (List.replicate (w * h).toNat 0) }) = _
    rw [e]
  have hid : (newL D.next (ed0 1 0 0 (-1) 0 0 0 0 w h)).id ∉ idsKs D.ks := fun hm => by
    have := ids_ltKs hi.good _ hm
    have h2 : (newL D.next (ed0 1 0 0 (-1) 0 0 0 0 w h)).id = D.next := rfl
    omega
  have := chg_top (sub := []) (g := paintF (pntE D.next w h P)) hid (by rw [hf])
  rw [hf] at this
  exact this
end Go.Proofs
namespace Go.Proofs
open Go.Sh
variable {H0 H : Heap} {σ : List Rs} {R : Value → Heap → Prop}
def invV (v : Int) : Int := 4294967550 - v
theorem xor_mask {n : Nat} (h : n < 4294967296) (ha : n % 256 = 255) : n ^^^ 4294967040 = 4294967550 - n := by
 have e : n = 2 ^ 8 * (n / 256) + 255 := by omega
 have hq : n / 256 < 2 ^ 24 := by omega
 generalize n / 256 = a at e hq
 have e2 : 4294967550 - n = 2 ^ 8 * (2 ^ 24 - (a + 1)) + 255 := by omega
 rw [e2, e, show (4294967040 : Nat) = 2 ^ 8 * (2 ^ 24 - 1) from rfl]
 refine Nat.eq_of_testBit_eq fun j => ?_
 rw [Nat.testBit_xor, Nat.testBit_two_pow_mul_add _ (by decide), Nat.testBit_two_pow_mul_add _ (by decide), Nat.testBit_two_pow_mul]
 by_cases hj : j < 8
 ·rw [if_pos hj, if_pos hj, decide_eq_false (by omega), Bool.false_and, Bool.xor_false]
 ·rw [if_neg hj, if_neg hj, decide_eq_true (by omega), Bool.true_and, Nat.testBit_two_pow_sub_succ hq, Nat.testBit_two_pow_sub_one]
  by_cases h24 : j - 8 < 24
  ·rw [decide_eq_true h24]; cases a.testBit (j - 8) <;> rfl
  ·rw [decide_eq_false h24]
   have : a.testBit (j - 8) = false := Nat.testBit_lt_two_pow (Nat.lt_of_lt_of_le hq (Nat.pow_le_pow_right (by decide) (by omega)))
   rw [this]; rfl
theorem xor_full {v : Int} (h : 0 ≤ v ∧ v < 4294967296) (ha : v % 256 = 255) : xorI .i64 v (4294967040 : Int) = invV v := by
 obtain ⟨x, rfl⟩ := Int.eq_ofNat_of_zero_le h.1
 have hx := xor_mask (n := x) (by omega) (by omega)
 unfold xorI
 rw [show IntKind.bits .i64 = 64 from rfl, BitVec.toNat_xor, ofInt_nat (by omega) (by omega), ofInt_nat (by omega) (by omega), Int.toNat_natCast, show (4294967040 : Int).toNat = 4294967040 from rfl, hx, wrap_id (by omega) (by omega)]
 unfold invV
 omega
def fullB (v : Int) : Prop := (0 ≤ v ∧ v < 4294967296) ∧ v % 256 = 255
theorem fullV_full (v : Int) : fullB (fullV v) := by unfold fullV fullB; omega
theorem invV_full {v : Int} (h : fullB v) : fullB (invV v) := by unfold invV fullB at *; omega
theorem invV_invV (v : Int) : invV (invV v) = v := by unfold invV; omega
theorem inv_one {c : Int} (h : byte c) : adjP1 (tabL 2 []) 255 c 255 = 255 - c := by
 unfold adjP1 mapP1
 rw [bare_255 h, mulP_255, mulP_255, show (255 : Int) - 255 = 0 from rfl, mulP_0]
 unfold byte at h
 rw [tabL_at (k := c.toNat) (by omega)]
 show min 255 (255 - ((c.toNat : Nat) : Int) + 0) = _
 omega
theorem inv_px {v : Int} (h : fullB v) : joinP (adjP (tabL 2 []) 255 (spl v)) = invV v := by
 obtain ⟨b1, b2, b3, b4⟩ := spl_byte v
 have ha : (spl v).a = 255 := h.2
 have e : adjP (tabL 2 []) 255 (spl v) = ⟨255 - (spl v).r, 255 - (spl v).g, 255 - (spl v).b, 255⟩ := by
  unfold adjP
  rw [ha, inv_one b1, inv_one b2, inv_one b3]
 rw [e]
 unfold invV fullB at *
 simp only [joinP, spl]
 omega
def invE : Ed := ed0 1 0 0 (-1) 2 0 0 0 0 0
theorem inv_lay {W x y nx v : Int} (h : fullB v) : layPx W x y (.mk (newL nx invE) []) v = invV v := by
 rw [layPx, if_neg (show ¬ (newL nx invE).hidden = true from (show ¬ false = true by decide)), if_pos (show (newL nx invE).kind = 2 from rfl)]
 show joinP (adjP (tabL 2 []) 255 (spl v)) = _
 exact inv_px h
theorem whole_inv {w h n m nx : Int} {ks : List Lay} (hf : ∀ v ∈ wholeL ⟨w, h, n, ks⟩, fullB v) : wholeL ⟨w, h, m, ks ++ [.mk (newL nx invE) []]⟩ = (wholeL ⟨w, h, n, ks⟩).map invV := by
 unfold wholeL picL plL at *
 rw [List.map_map]
 refine List.map_congr_left fun i hi => ?_
 have := hf _ (List.mem_map.2 ⟨i, hi, rfl⟩)
 show lsPx w _ _ (ks ++ [.mk (newL nx invE) []]) 0 = invV (lsPx w _ _ ks 0)
 rw [lsPx_app, lsPx, lsPx]
 exact inv_lay this
def ivF (P : List Int) : LayF := { newL 1 (ed0 1 0 0 (-1) 0 0 0 0 4 3) with p := P }
def ivD0 : DocL := ⟨4, 3, 1, []⟩
def ivD1 : DocL := ⟨4, 3, 2, [.mk (newL 1 (ed0 1 0 0 (-1) 0 0 0 0 4 3)) []]⟩
def ivD2 (P : List Int) : DocL := ⟨4, 3, 2, [.mk (ivF P) []]⟩
def ivD3 (P : List Int) : DocL := ⟨4, 3, 3, [.mk (ivF P) []] ++ [.mk (newL 2 invE) []]⟩
def ivD4 (P : List Int) : DocL := ⟨4, 3, 4, ([.mk (ivF P) []] ++ [.mk (newL 2 invE) []]) ++ [.mk (newL 3 invE) []]⟩
theorem iv_inv0 : Inv ivD0 := new_inv (by decide)
theorem iv_1 : doD ivD0 (ed0 1 0 0 (-1) 0 0 0 0 4 3) = (0, ivD1) := add_top iv_inv0 (by decide) (n := 0) (w := 4) (h := 3) (by decide) (fun _ => by decide)
theorem iv_inv1 : Inv ivD1 := by have := do_inv iv_inv0 (e := ed0 1 0 0 (-1) 0 0 0 0 4 3) (by rw [iv_1]); rw [iv_1] at this; exact this
theorem iv_2 {P : List Int} (hl : P.length = 12) (hp : P.all pixelB = true) : doD ivD1 (pntE 1 4 3 P) = (0, ivD2 P) := pnt_top iv_inv0 (w := 4) (h := 3) (by decide) (by rw [hl]; rfl) hp
theorem iv_inv2 {P : List Int} (hl : P.length = 12) (hp : P.all pixelB = true) : Inv (ivD2 P) := by have := do_inv iv_inv1 (e := pntE 1 4 3 P) (by rw [iv_2 hl hp]); rw [iv_2 hl hp] at this; exact this
theorem iv_3 {P : List Int} (hi : Inv (ivD2 P)) : doD (ivD2 P) invE = (0, ivD3 P) := add_top hi (show (2 : Int) ≤ 4000 by decide) (n := 2) (w := 0) (h := 0) (by decide) (fun h => absurd h (by decide))
theorem iv_inv3 {P : List Int} (hi : Inv (ivD2 P)) : Inv (ivD3 P) := by have := do_inv hi (e := invE) (by rw [iv_3 hi]); rw [iv_3 hi] at this; exact this
theorem iv_4 {P : List Int} (hi : Inv (ivD3 P)) : doD (ivD3 P) invE = (0, ivD4 P) := add_top hi (show (3 : Int) ≤ 4000 by decide) (n := 2) (w := 0) (h := 0) (by decide) (fun h => absurd h (by decide))
theorem iv_inv4 {P : List Int} (hi : Inv (ivD3 P)) : Inv (ivD4 P) := by have := do_inv hi (e := invE) (by rw [iv_4 hi]); rw [iv_4 hi] at this; exact this
theorem iv_w2 {P : List Int} (hi : Inv (ivD2 P)) (hf : ∀ v ∈ P, fullB v) : wholeL (ivD2 P) = P := whole_top (ks := []) (f := ivF P) hi rfl ⟨rfl, rfl, rfl, rfl, rfl, rfl, rfl⟩ rfl rfl fun v hv => (hf v hv).2
theorem iv_w3 {P : List Int} (hi : Inv (ivD2 P)) (hf : ∀ v ∈ P, fullB v) : wholeL (ivD3 P) = P.map invV := by
 have h2 := iv_w2 hi hf
 have := whole_inv (w := 4) (h := 3) (n := 2) (m := 3) (nx := 2) (ks := [.mk (ivF P) []]) (by rw [show (⟨4, 3, 2, [.mk (ivF P) []]⟩ : DocL) = ivD2 P from rfl, h2]; exact hf)
 rw [show (⟨4, 3, 2, [.mk (ivF P) []]⟩ : DocL) = ivD2 P from rfl, h2] at this
 exact this
theorem iv_w4 {P : List Int} (hi : Inv (ivD2 P)) (hf : ∀ v ∈ P, fullB v) : wholeL (ivD4 P) = P := by
 have h3 := iv_w3 hi hf
 have := whole_inv (w := 4) (h := 3) (n := 3) (m := 4) (nx := 3) (ks := [.mk (ivF P) []] ++ [.mk (newL 2 invE) []]) (by
  rw [show (⟨4, 3, 3, [.mk (ivF P) []] ++ [.mk (newL 2 invE) []]⟩ : DocL) = ivD3 P from rfl, h3]
  intro v hv
  obtain ⟨u, hu, rfl⟩ := List.mem_map.1 hv
  exact invV_full (hf u hu))
 rw [show (⟨4, 3, 3, [.mk (ivF P) []] ++ [.mk (newL 2 invE) []]⟩ : DocL) = ivD3 P from rfl, h3, List.map_map] at this
 refine this.trans ?_
 rw [show (invV ∘ invV) = id from funext invV_invV, List.map_id]
theorem iv_len {D : DocL} (hw : D.w = 4) (hh : D.h = 3) : (wholeP D).n = 12 := by show (D.w * D.h).toNat = 12; rw [hw, hh]; rfl
theorem inv_law {p : Option Addr} {l c : Nat} {ps : List Int} {twice : Bool} (hps : IS H p l (ints ps)) (hR : ∀ H', Ext H H' → R (.bool true) H') : CallsH Try.prog 3 #[.slice p l c, .bool twice] H R := by
 refine Try.s3 ?_
 unfold Try.S3
 have hlen := hps.length
 refine c4 fun H4 he4 => ⟨_, rfl, br_f rfl (br_ne (fun _ => hR _ he4) fun hl12 => ?_)⟩
 refine c5 (fun _ H7 he7 => ⟨_, _, rfl, ?_⟩) fun h => absurd h (by decide)
 refine (St.of_ext (he4.trans he7)).alc fun b10 H11 hs11 => ⟨rfl, hs11.putAll 0 rfl rfl (docA_one 4 3 1 .nil) fun H12 hs12 => ⟨_, rfl, rowIn_whole (hs12.block 0 rfl), ?_⟩⟩
 refine do_st (D := ivD0) (e := ed0 1 0 0 (-1) 0 0 0 0 4 3) (s := es0) hs12 (DocR.new H12 4 3) iv_inv0 (by decide) (ed0_ok H12 ..) fun A1 H15 hd1 hs15 => ⟨_, _, rfl, hd1.size, hs15.putAll 1 rfl hd1.size hd1.one fun H18 hs18 => ?_⟩
 have hs18 : St H H18 [docRs A1 (doD ivD0 (ed0 1 0 0 (-1) 0 0 0 0 4 3)).2, .cell b10 A1 26] := hs18
 rw [iv_1] at hs18
 intro X19 hX19
 have go : ∀ k, k ≤ ps.length → ∀ (P : Sl3) H1, P.l = k → St H H1 [.sl P.p P.l P.c 3 1 (ints ((ps.take k).map fullV)), docRs A1 ivD1, .cell b10 A1 26] → X19 [.slice P.p P.l P.c, .int .i64 (k : Nat)] H1 := by
  refine upto fun k hk ih P H1 hP hs1 => hX19 _ _ _ _ _ (br_dec (fun hlt => ?_) fun hge => ?_)
  ·have hk' : k < ps.length := by omega
   refine rdG (i := (k : Int)) (hps.ext hs1.ext) (by omega) hlt ⟨by decide, ?_⟩
   rw [Int.toNat_natCast, full_eq]
   have htk : (ps.take (k + 1)).map fullV = (ps.take k).map fullV ++ [fullV (ps.getD k 0)] := by rw [List.take_add_one, getD_some ps 0 hk', List.map_append]; rfl
   refine hs1.alc fun b31 H32 hs32 => hs32.appC 1 0 rfl rfl rfl (by simp [Value.oneCell']) (by decide) rfl (by omega) (by omega) fun p' c' H34 hs34 => ?_
   rw [wrap_id (by omega) (by omega)]
   refine ih hk' ⟨p', P.l + 1, c'⟩ H34 (by show P.l + 1 = _; omega) ?_
   rw [htk, ints_append]
   exact hs34.tail
  ·obtain rfl : k = ps.length := by omega
   rw [List.take_of_length_le (Nat.le_refl _)] at hs1
   have hFl : (ps.map fullV).length = 12 := by rw [List.length_map]; omega
   have hFf : ∀ v ∈ ps.map fullV, fullB v := fun v hv => by
    obtain ⟨u, _, rfl⟩ := List.mem_map.1 hv
    exact fullV_full u
   have hFp : (ps.map fullV).all pixelB = true := by
    rw [List.all_eq_true]
    intro v hv
    obtain ⟨u, _, rfl⟩ := List.mem_map.1 hv
    exact (full_px u).1
   generalize ps.map fullV = F at hs1 hFl hFf hFp
   have hPl : P.l = 12 := by omega
   have i2 := iv_inv2 hFl hFp
   have i3 := iv_inv3 i2
   have i4 := iv_inv4 i3
   have hd1 := hs1.doc 1 rfl
   refine ⟨A1, hd1.size, rowIn_whole (hs1.block 2 rfl), ?_⟩
   have hed : EdOk H1 (pntE 1 4 3 F) ⟨P, .nil, .nil⟩ := ⟨⟨hs1.is 0 rfl, IS2.nil _, ⟨rfl, fun i v h => by simp [pntE, ints] at h⟩⟩, by simp [pntE], by simp [pntE]⟩
   refine do_st (D := ivD1) (e := pntE 1 4 3 F) (s := ⟨P, .nil, .nil⟩) hs1 hd1 iv_inv1 (show (2 : Int) ≤ _ by decide) hed fun A2 H31 hd2 hs31 => ⟨_, _, rfl, hd2.size, hs31.putAll 3 rfl (hd2.size.trans hd1.size.symm) hd2.one fun H34 hs34 => ⟨A2, hd2.size, rowIn_whole (hs34.block 3 rfl), ?_⟩⟩
   have hs34 : St H H34 [docRs A2 (doD ivD1 (pntE 1 4 3 F)).2, .sl P.p P.l P.c 3 1 (ints F), docRs A1 ivD1, .cell b10 A2 26] := hs34
   rw [iv_2 hFl hFp] at hs34 hd2
   refine do_st (D := ivD2 F) (e := invE) (s := es0) hs34 (hs34.doc 0 rfl) i2 (show (2 : Int) ≤ _ by decide) (ed0_ok H34 ..) fun A3 H37 hd3 hs37 => ⟨_, _, rfl, hd3.size, hs37.putAll 4 rfl (hd3.size.trans hd2.size.symm) hd3.one fun H40 hs40 => ?_⟩
   have hs40 : St H H40 [docRs A3 (doD (ivD2 F) invE).2, docRs A2 (ivD2 F), .sl P.p P.l P.c 3 1 (ints F), docRs A1 ivD1, .cell b10 A3 26] := hs40
   rw [iv_3 i2] at hs40 hd3
   rw [iv_2 hFl hFp, iv_3 i2]
   intro J41 hJ41
   have fin : ∀ (A : Array Value) (D : DocL) (Hx : Heap), St H Hx [docRs A D, .sl P.p P.l P.c 3 1 (ints F), .cell b10 A 26] → Inv D → D.w = 4 → D.h = 3 → wholeL D = (if twice = true then F else F.map invV) → J41 [.int .i64 0] Hx := by
    intro A D Hx hsx hi hDw hDh hwl
    have hdx := hsx.doc 0 rfl
    refine hJ41 _ _ ?_
    intro J44 hJ44
    refine br_ne (fun h => absurd rfl h) fun _ => br_ne (fun h => absurd rfl h) fun _ => hJ44 _ ⟨A, hdx.size, rowIn_whole (hsx.block 2 rfl), ?_⟩
    have hn := iv_len hDw hDh
    refine c7 hdx hi fun bw H48 hs48 => ⟨_, rfl, ?_⟩
    rw [hn]
    have hfull : ∀ v ∈ wholeL D, fullB v := by
     rw [hwl]
     intro v hv
     split at hv
     ·exact hFf v hv
     ·obtain ⟨u, hu, rfl⟩ := List.mem_map.1 hv; exact invV_full (hFf u hu)
    have hGl : (wholeL D).length = 12 := by rw [wholeL_len, hn]
    generalize wholeL D = G at hs48 hwl hfull hGl
    refine (hsx.call hs48).alc fun b50 H51 hs51 => ⟨rfl, hs51.putAll 0 rfl rfl (by simp [Value.oneCell', slV]) fun H52 hs52 => ?_⟩
    have hs52 : St H H52 [.cell b50 #[.int .i64 D.w, .int .i64 D.h, slV bw 12] 38, .cell bw (ints G).toArray 3, docRs A D, .sl P.p P.l P.c 3 1 (ints F), .cell b10 A 26] := hs52
    refine ⟨_, _, _, hs52.get 0 rfl (j := 2) rfl, br_ne (fun h => absurd rfl h) fun _ => ⟨_, _, _, hs52.get 0 rfl (j := 2) rfl, ?_⟩⟩
    have hF := hs52.is 3 rfl
    have hG := hs52.isA 1 rfl hGl
    intro X55 hX55
    have loop : ∀ k, k ≤ 12 → X55 [.int .i64 (k : Nat)] H52 := by
     refine upto fun k hk ih => hX55 _ _ (br_dec (fun hlt => ?_) fun hge => ?_)
     ·have hk' : k < 12 := by omega
      refine rdG (i := (k : Int)) hG (by omega) hlt (rdG (i := (k : Int)) hF (by omega) (by omega) ?_)
      rw [Int.toNat_natCast]
      have hm : F.getD k 0 ∈ F := by rw [List.getD_eq_getElem?_getD, List.getElem?_eq_getElem (by omega)]; exact List.getElem_mem _
      have hx := hFf _ hm
      have hst : X55 [.int .i64 (IntKind.wrap .i64 ((k : Int) + 1))] H52 := by rw [wrap_id (by omega) (by omega)]; exact ih hk'
      refine br_i (fun ht => ?_) fun ht => ?_
      ·have ht : twice = false := by simpa using ht
       subst ht
       have e : G.getD k 0 = invV (F.getD k 0) := by
        rw [hwl, if_neg (by decide), List.getD_eq_getElem?_getD, List.getElem?_map, getD_some F 0 (by omega)]; rfl
       rw [xor_full hx.1 hx.2]
       exact br_ne (fun h => absurd e h) fun _ => hst
      ·have ht : twice = true := by simpa using ht
       subst ht
       have e : G.getD k 0 = F.getD k 0 := by rw [hwl, if_pos rfl]
       exact br_ne (fun h => absurd e h) fun _ => hst
     ·refine ⟨_, _, _, hs52.get 0 rfl (j := 2) rfl, ?_⟩
      refine c8 hG (by omega) fun Q H64 hQ hs64 => ⟨_, _, _, rfl, br_t (by rw [hQ, hGl]; rfl) ?_⟩
      have h64 := hs52.call hs64
      have hw := h64.is 0 rfl
      refine hw.rd (k := .u8) (i := 0) (by decide) (by omega) (getD_some (whiteL G) 0 (by rw [whiteL_len]; show 0 < _; omega)) ⟨_, _, _, h64.get 1 rfl (j := 2) rfl, ?_⟩
      refine rdG (i := (0 : Int)) (h64.isA 2 rfl hGl) (by decide) (by decide) ⟨by decide, ?_⟩
      have hm : G.getD 0 0 ∈ G := by rw [List.getD_eq_getElem?_getD, List.getElem?_eq_getElem (by omega)]; exact List.getElem_mem _
      have hx := hfull _ hm
      have e : (whiteL G).getD 0 0 = G.getD 0 0 / 16777216 := by
       cases G with
       | nil => simp at hGl
       | cons g G =>
        have hx : fullB g := hx
        show (g / 16777216 % 256 + 255 - g % 256) % 256 = g / 16777216
        unfold fullB at hx
        omega
      rw [show (0 : Int).toNat = 0 from rfl, e, show shrI .i64 (G.getD 0 0) (24 : Int) = G.getD 0 0 / 16777216 from shrTo _ rfl rfl (by decide)]
      unfold fullB at hx
      rw [wrap_id (by omega) (by omega), beq_self_eq_true]
      exact hR _ h64.ext
    exact loop 0 (Nat.zero_le _)
   refine br_i (fun ht => ?_) fun ht => ?_
   ·refine ⟨A3, hd3.size, rowIn_whole (hs40.block 4 rfl), ?_⟩
    refine do_st (D := ivD3 F) (e := invE) (s := es0) hs40 (hs40.doc 0 rfl) i3 (show (3 : Int) ≤ _ by decide) (ed0_ok H40 ..) fun A4 H73 hd4 hs73 => ⟨_, _, rfl, hd4.size, hs73.putAll 5 rfl (hd4.size.trans hd3.size.symm) hd4.one fun H76 hs76 => ?_⟩
    have hs76 : St H H76 [docRs A4 (doD (ivD3 F) invE).2, docRs A3 (ivD3 F), docRs A2 (ivD2 F), .sl P.p P.l P.c 3 1 (ints F), docRs A1 ivD1, .cell b10 A4 26] := hs76
    rw [iv_4 i3] at hs76 ⊢
    exact fin A4 (ivD4 F) H76 (((hs76.del 1).del 1).del 2) i4 rfl rfl (by rw [iv_w4 i2 hFf, if_pos ht])
   ·exact fin A3 (ivD3 F) H40 ((hs40.del 1).del 2) i3 rfl rfl (by rw [iv_w3 i2 hFf, if_neg (by rw [ht]; decide)])
 exact go 0 (Nat.zero_le _) .nil H18 rfl (hs18.nilSl _ _)
end Go.Proofs
namespace Go.Proofs
open Go.Sh Go.RowKit Go.ChangeShapes Go.WideShapes Go.ChangeAt
end Go.Proofs
namespace Go.Proofs
open Go.Sh Go.RowKit Go.ChangeShapes Go.WideShapes Go.ChangeAt Go.Deep
section
variable {H : Type} {enc : TypeId × Value → H} {W : World}
abbrev TrP (enc : TypeId × Value → H) (W : World) (fuel : Nat) (t : TypeId) (cs : List Value) (x : DataW H × List MemPlace) : Prop := DataW.trod enc Try.prog W 0 (fun _ => true) true fuel t cs = some x
theorem intsAt {fuel : Nat} {a0 : Option Addr} {len cap : Nat} {x : DataW H × List MemPlace} (hf : TrP enc W fuel 22 [.slice a0 len cap] x) : ∃ ls, len ≤ cap ∧ IS W.heap a0 len (ints ls) := by
 rcases open_ints Try.underlying22 Try.underlying3 (by kernel_rfl) hf with ⟨hcs, _⟩ | ⟨a, len2, cap2, zs, hcs, _, hl, _, hz, _, hc, hw⟩
 ·simp at hcs
  obtain ⟨rfl, rfl, rfl⟩ := hcs
  exact ⟨[], Nat.le_refl _, ⟨rfl, fun i v hv => by simp [ints] at hv⟩⟩
 ·simp at hcs
  obtain ⟨rfl, rfl, rfl⟩ := hcs
  have hzl : len ≤ zs.length := by rw [hz]; simp; omega
  refine ⟨zs.take len, hl, ⟨by rw [ints_len]; simp; omega, fun i v hv => ⟨a, rfl, ?_⟩⟩⟩
  have hi : i < len := by have := (List.getElem?_eq_some_iff.1 hv).1; rw [ints_len] at this; simp at this; omega
  have := hc i (by omega)
  rw [cell_eq] at this
  rw [this]
  have hg : (zs.take len)[i]? = some (zs.getD i 0) := by
   rw [List.getElem?_take_of_lt hi, List.getD_eq_getElem?_getD, List.getElem?_eq_getElem (by omega)]; rfl
  rw [ints_get hg] at hv
  exact hv
theorem fieldAt {t : TypeId} {fs : Array Field} {fuel : Nat} {cs : List Value} {x : DataW H × List MemPlace} (hs : Try.prog.underlying t = some (.struct fs)) (h : TrP enc W fuel t cs x) (i : Nat) {f : Field} {o ty c : Nat} (hf : fs[i]? = some f) (ho : f.offset = o) (ht : f.type = ty) (hc : Try.prog.cellsOf ty = c) :
    ∃ n y, n < fuel ∧ TrP enc W n ty ((cs.drop o).take c) y := by
  obtain ⟨xs, n, hfu, _, hl, hlen, hg⟩ := DataW.trod_struct hs h
  have := hg i f hf
  have hi := (Array.getElem?_eq_some_iff.1 hf).1
  rw [List.getElem?_eq_getElem (by omega), ho, ht, hc] at this
  exact ⟨n, _, by omega, this⟩
instance : Inhabited (Ed × EdS) := ⟨⟨0, 0, 0, 0, 0, 0, 0, 0, 0, 0, [], [], ⟨0, 0, 0, 0, 0, 0⟩, []⟩, ⟨.nil, .nil, .nil⟩⟩
theorem intsIn_of {v : Value} {d : DataW H} {ps : List MemPlace} {base : Nat} (hv : Value.okWide Try.prog W .any base 22 v) (h : DataW.Trod enc Try.prog W 0 (fun _ => true) true 22 v d ps) :
    ∃ a l c ls, v = .slice a l c ∧ l ≤ c ∧ IS W.heap a l (ints ls) := by
  obtain ⟨a0, len, cap, rfl⟩ := okWide_slice Try.underlying22 hv
  obtain ⟨fuel, hf⟩ := h
  obtain ⟨ls, h1, h2⟩ := intsAt hf
  exact ⟨a0, len, cap, ls, rfl, h1, h2⟩
end
end Go.Proofs
