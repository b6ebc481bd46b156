/-
  OWN WORK. Several texts in one: JpJ, JqL, JqM, JqN, JqO, FlI, FlJ, FlCoP, FlK, LzA, LzB, FlM, JqP, OpBytes.
-/
import Derived.Test.YtcggbdggpdcnjaaMgJpegNearG
import Derived.Test.YtcggbdggpdcnjaaMgJpegNearE
import Derived.Test.YtcggbdggpdcnjaaMgJpegNearD
import Derived.Test.YtcggbdggpdcnjaaMgJpegNearC
import Derived.Test.YtcggbdggpdcnjaaRows
import Derived.Test.YtcggbdggpdcnjaaMgJpegNearB
import Derived.ChangeSlices

set_option linter.unusedVariables false
set_option linter.unusedSimpArgs false
namespace Go.Proofs
open Go.Sh
variable {H0 H : Heap} {σ : List Rs} {R : Value → Heap → Prop}
theorem c10 {i j n1 n2 m1 m2 : Nat} {p1 p2 : Option Addr} {e1 e2 : TypeId} {l1 l2 : List (List Int)} (hs : St H0 H σ) (hi : σ[i]? = some (.sl p1 n1 m1 e1 64 (ints l1.flatten))) (hj : σ[j]? = some (.sl p2 n2 m2 e2 64 (ints l2.flatten)))
    (h1 : ∀ b ∈ l1, b.length = 64) (hn1 : l1.length = n1) (hn2 : l2.length = n2) (hn : n1 ≤ 1000000) (he : l1 = l2) (hR : ∀ H', Ext H H' → R (.bool true) H') :
    CallsH Try.prog 10 #[.slice p1 n1 m1, .slice p2 n2 m2] H R := by
  subst he
  subst hn1 hn2
  refine Try.s10 (br_ne (fun hne => absurd rfl hne) (fun _ => ?_))
  intro X hX
  have go : ∀ t, t ≤ l1.length → ∀ H1, Ext H H1 → X [.int .i64 (t : Nat)] H1 := upto fun t ht ih H1 e1 => by
    refine hX _ H1 (br_dec (fun hlt => ?_) (fun hge => hR H1 e1))
    have hlt : t < l1.length := by omega
    obtain ⟨b, hb⟩ : ∃ b, l1[t]? = some b := ⟨_, List.getElem?_eq_getElem hlt⟩
    have hbl := h1 b (List.mem_of_getElem? hb)
    obtain ⟨k1, hp1, r1⟩ := St.row64 (hs.step e1) i hi h1 hb hlt
    refine ⟨_, hp1, by omega, by omega, _, by rw [intsA_size]; exact hbl, by rw [add_none, Nat.zero_add, Int.toNat_natCast]; exact r1, ?_⟩
    refine (St.of_ext e1).alc fun b8 H2 hs2 => ⟨by rw [intsA_size]; exact hbl, hs2.putAllA 0 rfl (by rw [hbl]; simp) fun H3 hs3 => ?_⟩
    have e3 := hs3.ext
    obtain ⟨k2, hp2, r2⟩ := St.row64 (hs.step e3) j hj h1 hb hlt
    refine ⟨_, by rw [intsA_size]; exact hbl, rowIn_whole (hs3.block 0 rfl), _, hp2, by omega, by omega, _, by simpa using hbl, by rw [add_none, Nat.zero_add, Int.toNat_natCast]; exact r2, rfl, b, b, hbl, hbl, rfl, rfl, ?_⟩
    rw [decide_eq_true rfl, w1 (by omega)]
    exact br_f rfl (ih hlt H3 e3)
  exact go 0 (by omega) H (Ext.refl _)
theorem decodeNil (hR : ∀ H', Ext H H' → R (.tuple #[.agg #[.int .i64 0, .int .i64 0, .slice none 0 0, .bool false, .slice none 0 0], .int .i64 51]) H') : CallsH Try.prog 9 #[.slice none 0 0] H R := by
 refine Try.s9 ?_
 unfold Try.S9
 refine (St.nil H).alc fun b2 H1 hs1 => ?_
 intro J hJ
 refine br_y (by decide) ⟨rfl, hs1.putAll 0 rfl rfl (by simp [Value.oneCell']) fun H2 hs2 => ?_⟩
 exact ⟨_, rfl, rowIn_whole (hs2.block 0 rfl), hR H2 hs2.ext⟩
theorem anc_order : orderM 1 1 false = [(0, 0, 0), (1, 0, 0), (2, 0, 0)] := by decide +kernel
theorem anc_vals : (blockV 1 1 [255, 255, 255] 100 false (0, 0, 0)).getD 0 0 = 1016 ∧ (blockV 1 1 [255, 255, 255] 100 false (0, 0, 0)).getD 1 0 = 0 ∧ (blockV 1 1 [255, 255, 255] 100 false (1, 0, 0)).getD 0 0 = 0 := by decide +kernel
theorem c6 (hR : ∀ H', Ext H H' → R (.bool true) H') : CallsH Try.prog 6 #[] H R := by
 refine Try.s6 (_u := ()) ?_
 unfold Try.S6
 refine (St.nil H).alc fun b1 H1 hs1 => ?_
 have i1 : IS H1 (some ⟨b1, 0, none⟩) 3 (kints .u8 [255, 255, 255]) := ⟨rfl, fun i v hv => ⟨_, rfl, by
  rw [add_none, Nat.zero_add]
  exact cell_get (hs1.block 0 rfl) (by
   have : (#[Value.int .u8 255, Value.int .u8 255, Value.int .u8 255] : Array Value) = (kints .u8 [255, 255, 255]).toArray := rfl
   rw [this, List.getElem?_toArray]; exact hv)⟩⟩
 have s1 : SizedM 1 1 := by decide
 refine c8 i1 (by decide) (by decide) (fun hn => absurd s1 hn) (fun _ hn => absurd (by decide) hn) (fun _ _ hn => absurd (by decide) hn) (fun W Ht hw' hh hW hH hl hn hq H2 b m hs2 => ⟨_, _, _, _, rfl, ?_⟩)
 have e1 : W = 1 := by omega
 have e2 : Ht = 1 := by omega
 subst e1 e2
 have hol : (orderM 1 1 false).length = 3 := by rw [anc_order]; rfl
 have hbs : blocksL 1 1 [255, 255, 255] 100 false = [blockV 1 1 [255, 255, 255] 100 false (0, 0, 0), blockV 1 1 [255, 255, 255] 100 false (1, 0, 0), blockV 1 1 [255, 255, 255] 100 false (2, 0, 0)] := by unfold blocksL; rw [anc_order]; rfl
 obtain ⟨v0, v1, v2⟩ := anc_vals
 have h64 := blocksL_64 1 1 [255, 255, 255] 100 false
 have bl0 := blockV_len 1 1 [255, 255, 255] 100 false (0, 0, 0)
 have bl1 := blockV_len 1 1 [255, 255, 255] 100 false (1, 0, 0)
 rw [hbs] at hs2 h64
 generalize blockV 1 1 [255, 255, 255] 100 false (0, 0, 0) = B0 at *
 generalize blockV 1 1 [255, 255, 255] 100 false (1, 0, 0) = B1 at *
 generalize blockV 1 1 [255, 255, 255] 100 false (2, 0, 0) = B2 at *
 rw [hol] at hs2 ⊢
 have hs2 := hs1.call hs2
 refine decodeNil fun H3 e3 => ⟨_, _, rfl, ?_⟩
 have hs3 := hs2.step e3
 refine hs3.alc fun b11 H4 hs4 => ⟨rfl, hs4.putAll 0 rfl rfl (by simp [Value.oneCell']) fun H5 hs5 => ?_⟩
 obtain ⟨k0, hp0, r0⟩ := St.row64 hs5 1 rfl h64 (t := 0) (b := B0) rfl (by decide)
 obtain ⟨k1, hp1, r1⟩ := St.row64 hs5 1 rfl h64 (t := 1) (b := B1) rfl (by decide)
 have c0 := r0 0 (.int .i64 1016) (by rw [List.getElem?_toArray, ← v0]; exact ints_get (getD_some B0 0 (by omega)))
 have c1 := r0 1 (.int .i64 0) (by rw [List.getElem?_toArray, ← v1]; exact ints_get (getD_some B0 0 (by omega)))
 have c2 := r1 0 (.int .i64 0) (by rw [List.getElem?_toArray, ← v2]; exact ints_get (getD_some B1 0 (by omega)))
 refine br_t rfl (br_t rfl ⟨_, hp0, by decide, by decide, by decide, by decide, _, c0, br_t rfl ⟨_, hp0, by decide, by decide, by decide, by decide, _, c1, br_t rfl ⟨_, hp1, by decide, by decide, by decide, by decide, _, c2, br_t rfl ?_⟩⟩⟩)
 exact hR H5 hs5.ext
end Go.Proofs
namespace Go.Proofs
open Go.Sh
variable {H0 H : Heap} {σ : List Rs} {R : Value → Heap → Prop}
theorem stuffB_len : ∀ L : List Int, (stuffB L).length ≤ 2 * L.length
 | [] => by simp [stuffB]
 | a :: L => by
  have ih := stuffB_len L
  unfold stuffB at *
  rw [List.flatMap_cons, List.length_append, List.length_cons]
  have h2 : (if a = 255 then [255, 0] else [a] : List Int).length ≤ 2 := by split <;> simp
  omega
section
variable {W Ht : Nat} {half : Bool} {bl : List (List Int)} {st0 st1 B : List Int}
theorem enc_len (h : EncOk W Ht half bl st0 st1 B) : (encB W Ht half st0 st1 (itemsM (orderM W Ht half) bl [0, 0, 0]) B).length ≤ 200000000 := by
 have hA := h.few
 have hsym := items_sym (orderM W Ht half) bl [0, 0, 0] h.wb rfl la0 (fun u hu => (order_in u hu).1)
 have hA2 := itemsM_len (orderM W Ht half) bl [0, 0, 0]
 have hcnt := order_cnt W Ht half h.W1000 h.H1000
 have h1 := its_le hA _ hsym
 have h2 := h.bits.len
 have h3 := stuffB_len B
 generalize itemsM (orderM W Ht half) bl [0, 0, 0] = A at *
 have hfl : (fillM (itsBits (eA A) A) 1).length ≤ 27 * A.length + 8 := by unfold fillM; rw [List.length_append, List.length_replicate]; omega
 have t0 := tabB_len hA 0
 have t1 := tabB_len hA 1
 have t2 := tabB_len hA 2
 have t3 := tabB_len hA 3
 unfold encB headB
 simp only [List.length_append, segB_len, List.length_cons, zzB_len, List.length_nil]
 have e1 : (frameB W Ht half).length = 15 := rfl
 have e2 : scanB.length = 10 := rfl
 omega
theorem enc_rng (h : EncOk W Ht half bl st0 st1 B) : ∀ x ∈ encB W Ht half st0 st1 (itemsM (orderM W Ht half) bl [0, 0, 0]) B, 0 ≤ x ∧ x < 256 := by
 have hA := h.few
 have hsym := items_sym (orderM W Ht half) bl [0, 0, 0] h.wb rfl la0 (fun u hu => (order_in u hu).1)
 generalize itemsM (orderM W Ht half) bl [0, 0, 0] = A at *
 have seg : ∀ (mark : Int) (d : List Int), 0 ≤ mark ∧ mark < 256 → d.length ≤ 60000 → (∀ x ∈ d, 0 ≤ x ∧ x < 256) → ∀ x ∈ segB mark d, 0 ≤ x ∧ x < 256 := fun mark d hm hl hd x hx => by
  unfold segB at hx
  rcases List.mem_append.1 hx with hx | hx
  ·simp at hx; rcases hx with rfl | rfl | rfl | rfl <;> omega
  ·exact hd x hx
 have zz : ∀ (k : Int) (st : List Int), StOk st → 0 ≤ k ∧ k < 256 → ∀ x ∈ k :: zzB st, 0 ≤ x ∧ x < 256 := fun k st hs hk x hx => by
  rcases List.mem_cons.1 hx with rfl | hx
  ·exact hk
  ·obtain ⟨i, hi, rfl⟩ := List.mem_map.1 hx
   have := hs.rng _ (zig_lt (List.mem_range.1 hi)); omega
 have hll := fun t => lsC_len (cntS_ok hA t)
 have tab : ∀ t, t < 4 → ∀ x ∈ tabB A t, 0 ≤ x ∧ x < 256 := fun t ht x hx => by
  unfold tabB dataM at hx
  rcases List.mem_cons.1 hx with rfl | hx
  ·omega
  ·rcases List.mem_append.1 hx with hx | hx
   ·obtain ⟨n, hn, rfl⟩ := List.mem_map.1 hx
    have := few_sym hA hsym t (n + 1) (by omega)
    rw [hll t]; omega
   ·have := srtS_rng (lsC (cntS A t)) 16 x hx
    rw [hll t] at this; omega
 have hfr : ∀ x ∈ frameB W Ht half, 0 ≤ x ∧ x < 256 := fun x hx => by
  have := h.W1000
  have := h.H1000
  unfold frameB at hx
  simp at hx
  rcases hx with rfl | rfl | rfl | rfl | rfl | rfl | rfl | rfl | rfl | rfl | rfl | rfl | rfl | rfl | rfl <;> first | omega | (split <;> omega)
 have hst : ∀ x ∈ stuffB B, 0 ≤ x ∧ x < 256 := fun x hx => by
  obtain ⟨c, hc, hx⟩ := List.mem_flatMap.1 hx
  have := h.bits.rng c hc
  split at hx
  ·simp at hx; rcases hx with rfl | rfl <;> omega
  ·rw [List.mem_singleton.1 hx]; exact this
 intro x hx
 unfold encB headB at hx
 simp only [List.mem_append] at hx
 rcases hx with hx | (hx | hx | hx | hx | hx | hx | hx | hx) | hx | hx
 ·simp at hx; rcases hx with rfl | rfl <;> omega
 ·exact seg _ _ (by omega) (by rw [List.length_cons, zzB_len]; omega) (zz 0 st0 h.s0 (by omega)) x hx
 ·exact seg _ _ (by omega) (by rw [List.length_cons, zzB_len]; omega) (zz 1 st1 h.s1 (by omega)) x hx
 ·exact seg _ _ (by omega) (by show 15 ≤ 60000; omega) hfr x hx
 ·exact seg _ _ (by omega) (by have := tabB_len hA 0; omega) (tab 0 (by omega)) x hx
 ·exact seg _ _ (by omega) (by have := tabB_len hA 1; omega) (tab 1 (by omega)) x hx
 ·exact seg _ _ (by omega) (by have := tabB_len hA 2; omega) (tab 2 (by omega)) x hx
 ·exact seg _ _ (by omega) (by have := tabB_len hA 3; omega) (tab 3 (by omega)) x hx
 ·exact seg _ _ (by omega) (by decide) (by decide) x hx
 ·exact hst x hx
 ·simp at hx; rcases hx with rfl | rfl <;> omega
theorem decode_enc (h : EncOk W Ht half bl st0 st1 B) (hn : W * Ht ≤ 1000) {p : Option Addr} {l c : Nat} (hb : SlB H p l c (encB W Ht half st0 st1 (itemsM (orderM W Ht half) bl [0, 0, 0]) B))
    (hR : PaintOk W Ht half bl [st0, st1, st1] → ∀ H' q k bq bk, St H H' [.sl q (paintM W Ht half bl [st0, st1, st1]).length k 5 1 (kints .u8 (paintM W Ht half bl [st0, st1, st1])), .sl bq bl.length bk 40 64 (ints bl.flatten)] →
      R (.tuple #[.agg #[.int .i64 (W : Nat), .int .i64 (Ht : Nat), .slice q (paintM W Ht half bl [st0, st1, st1]).length k, .bool half, .slice bq bl.length bk], .int .i64 0]) H') :
    CallsH Try.prog 9 #[.slice p l c] H R := by
  have hdec := dec_enc h
  have hl := enc_len h
  have hbl := hb.len
  refine c9 hb (by omega) (fun hno => ?_) (fun m hm W' Ht' hW hHt hok => ?_)
  · rw [hdec] at hno; cases hno
  · rw [hdec] at hm
    cases hm
    have e1 : W' = W := by have : ((W : Nat) : Int) = W' := hW; omega
    have e2 : Ht' = Ht := by have : ((Ht : Nat) : Int) = Ht' := hHt; omega
    subst e1 e2
    exact hR hok
end
end Go.Proofs
namespace Go.Proofs
open Go.Sh
end Go.Proofs
namespace Go.Proofs
open Go.Sh
theorem sumN_pl (n : Nat) (f g : Nat → Int) : sumN n f + sumN n g = sumN n fun i => f i + g i := (sumN_plus f g n).symm
theorem sumN_scal (n : Nat) (f : Nat → Int) (c : Int) : c * sumN n f = sumN n fun i => c * f i := by
 induction n with
 | zero => simp [sumN]
 | succ n ih => simp only [sumN]; rw [← ih, Int.mul_add]
theorem sumN_zero (n : Nat) : (sumN n fun _ => 0) = 0 := by
 induction n with
 | zero => rfl
 | succ n ih => simp only [sumN]; rw [ih]; rfl
theorem sumN_swap (m n : Nat) (f : Nat → Nat → Int) : (sumN m fun i => sumN n fun j => f i j) = sumN n fun j => sumN m fun i => f i j := by
 induction m with
 | zero => simp only [sumN]; rw [sumN_zero]
 | succ m ih => simp only [sumN]; rw [ih, sumN_pl]
def kM (a x : Nat) : Int := sumN 8 fun u => cM u a * cM u x
def kD (x : Nat) : Int := sumN 8 fun a => ((kM a x - if a = x then 67108864 else 0).natAbs : Int)
theorem kD_le : ∀ x : Fin 8, kD x.val ≤ 17168 := by decide +kernel
theorem kA_le : ∀ x : Fin 8, (sumN 8 fun u => ((cM u x.val).natAbs : Int)) ≤ 21641 := by decide +kernel
theorem pick (v : Nat → Int) (x : Nat) : ∀ n, x < n → (sumN n fun a => v a * if a = x then 67108864 else 0) = 67108864 * v x := by
 have zero : ∀ n, n ≤ x → (sumN n fun a => v a * if a = x then 67108864 else 0) = 0 := fun n => by
  induction n with
  | zero => intro _; rfl
  | succ n ih => intro h; simp only [sumN]; rw [ih (by omega), if_neg (by omega)]; omega
 intro n
 induction n with
 | zero => intro h; omega
 | succ n ih =>
  intro h
  simp only [sumN]
  by_cases e : n = x
  ·subst e; rw [zero n (Nat.le_refl _), if_pos rfl]; omega
  ·rw [ih (by omega), if_neg e]; omega
theorem line_back {v : Nat → Int} {B : Int} (hB : 0 ≤ B) (hv : ∀ a, a < 8 → -B ≤ v a ∧ v a ≤ B) {x : Nat} (hx : x < 8) :
    -(B * 17168) ≤ (sumN 8 fun u => (sumN 8 fun a => v a * cM u a) * cM u x) - 67108864 * v x ∧ (sumN 8 fun u => (sumN 8 fun a => v a * cM u a) * cM u x) - 67108864 * v x ≤ B * 17168 := by
  have e1 : (sumN 8 fun u => (sumN 8 fun a => v a * cM u a) * cM u x) = sumN 8 fun a => v a * kM a x := by
    have h1 : (sumN 8 fun u => (sumN 8 fun a => v a * cM u a) * cM u x) = sumN 8 fun u => sumN 8 fun a => v a * cM u a * cM u x := sumN_congr fun u _ => sumN_mul _ _ _
    rw [h1, sumN_swap]
    refine sumN_congr fun a _ => ?_
    unfold kM
    rw [sumN_scal]
    exact sumN_congr fun u _ => Int.mul_assoc _ _ _
  have e2 : (sumN 8 fun a => v a * kM a x) = (sumN 8 fun a => v a * (kM a x - if a = x then 67108864 else 0)) + 67108864 * v x := by
    rw [← pick v x 8 hx, sumN_pl]
    refine sumN_congr fun a _ => ?_
    rw [← Int.mul_add, Int.sub_add_cancel]
  have h := sumN_abs hB (fun a => kM a x - if a = x then 67108864 else 0) 8 hv
  have hk := kD_le ⟨x, hx⟩
  simp only at hk
  unfold kD at hk
  have := Int.mul_le_mul_of_nonneg_left hk hB
  rw [e1, e2]
  omega
theorem there_back {s : List Int} (hs : ∀ i, -128 ≤ s.getD i 0 ∧ s.getD i 0 ≤ 128) {i : Nat} (hi : i < 64) : -4 ≤ (bakM (fwdM s)).getD i 0 - s.getD i 0 ∧ (bakM (fwdM s)).getD i 0 - s.getD i 0 ≤ 4 := by
 have hx : i % 8 < 8 := by omega
 have hy : i / 8 < 8 := by omega
 have hie : i / 8 * 8 + i % 8 = i := by omega
 rw [show (bakM (fwdM s)).getD i 0 = nearM (bakV (fwdM s) (i / 8) (i % 8)) from tab_getD hi]
 generalize hX : i % 8 = x at *
 generalize hY : i / 8 = y at *
 -- what is lost by being rounded
 let e : Nat → Nat → Int := fun v u => 67108864 * (fwdM s).getD (v * 8 + u) 0 - fwdV s v u
 have he : ∀ v u, v < 8 → u < 8 → -33554432 ≤ e v u ∧ e v u ≤ 33554432 := fun v u hv hu => by
  show -33554432 ≤ 67108864 * (fwdM s).getD (v * 8 + u) 0 - fwdV s v u ∧ 67108864 * (fwdM s).getD (v * 8 + u) 0 - fwdV s v u ≤ 33554432
  rw [show (fwdM s).getD (v * 8 + u) 0 = nearM (fwdV s ((v * 8 + u) / 8) ((v * 8 + u) % 8)) from tab_getD (by omega), show (v * 8 + u) / 8 = v by omega, show (v * 8 + u) % 8 = u by omega]
  unfold nearM; omega
 -- along the rows
 let p : Nat → Int := fun b => sumN 8 fun u => halfV s b u * cM u x
 have hp : ∀ b, -(128 * 17168) ≤ p b - 67108864 * s.getD (b * 8 + x) 0 ∧ p b - 67108864 * s.getD (b * 8 + x) 0 ≤ 128 * 17168 := fun b =>
  line_back (v := fun a => s.getD (b * 8 + a) 0) (B := 128) (by decide) (fun a _ => hs _) hx
 have hpb : ∀ b, b < 8 → -8592132096 ≤ p b ∧ p b ≤ 8592132096 := fun b _ => by
  have h1 := hp b
  have h2 := hs (b * 8 + x)
  omega
 have h2 := line_back (v := p) (B := 8592132096) (by decide) hpb hy
 -- what is lost in all
 let E : Nat → Int := fun v => sumN 8 fun u => e v u * cM u x
 have hE : ∀ v, v < 8 → -726151462912 ≤ E v ∧ E v ≤ 726151462912 := fun v hv => by
  have := sumN_abs (f := e v) (M := 33554432) (by decide) (fun u => cM u x) 8 fun u hu => he v u hv hu
  have hk := kA_le ⟨x, hx⟩
  simp only at hk
  show -726151462912 ≤ (sumN 8 fun u => e v u * cM u x) ∧ (sumN 8 fun u => e v u * cM u x) ≤ 726151462912
  omega
 have h3 := sumN_abs (f := E) (M := 726151462912) (by decide) (fun v => cM v y) 8 hE
 have hk := kA_le ⟨y, hy⟩
 simp only at hk
 have hsum : 67108864 * bakV (fwdM s) y x = (sumN 8 fun v => (sumN 8 fun b => p b * cM v b) * cM v y) + sumN 8 fun v => E v * cM v y := by
  unfold bakV
  rw [sumN_scal, sumN_pl]
  refine sumN_congr fun v _ => ?_
  rw [← Int.add_mul, ← Int.mul_assoc]
  congr 1
  unfold halfB
  rw [sumN_scal]
  have hq : (sumN 8 fun b => p b * cM v b) = sumN 8 fun u => fwdV s v u * cM u x := by
   have h1 : (sumN 8 fun b => p b * cM v b) = sumN 8 fun b => sumN 8 fun u => halfV s b u * cM u x * cM v b := sumN_congr fun b _ => sumN_mul _ _ _
   rw [h1, sumN_swap]
   refine sumN_congr fun u _ => ?_
   unfold fwdV
   rw [sumN_mul]
   exact sumN_congr fun b _ => by rw [Int.mul_assoc, Int.mul_assoc, Int.mul_comm (cM u x)]
  rw [hq]
  show _ = _ + sumN 8 fun u => e v u * cM u x
  rw [sumN_pl]
  refine sumN_congr fun u _ => ?_
  rw [← Int.add_mul, ← Int.mul_assoc]
  congr 1
  show _ = fwdV s v u + (67108864 * (fwdM s).getD (v * 8 + u) 0 - fwdV s v u)
  omega
 have h4 := hp y
 rw [hie] at h4
 have hs1 := hs i
 generalize s.getD i 0 = S at *
 generalize p y = P at *
 generalize (sumN 8 fun v => (sumN 8 fun b => p b * cM v b) * cM v y) = A at *
 generalize (sumN 8 fun v => E v * cM v y) = C at *
 generalize bakV (fwdM s) y x = D at *
 unfold nearM
 omega
theorem bright_near {r g b : Int} (hr : 0 ≤ r ∧ r ≤ 255) (hg : 0 ≤ g ∧ g ≤ 255) (hb : 0 ≤ b ∧ b ≤ 255) :
    (19595 * r + 38470 * g + 7471 * b - 32768 ≤ 65536 * brightM r g b 0 ∧ 65536 * brightM r g b 0 ≤ 19595 * r + 38470 * g + 7471 * b + 32768) ∧
    (32768 * b - 11059 * r - 21709 * g - 65536 ≤ 65536 * (brightM r g b 1 - 128) ∧ 65536 * (brightM r g b 1 - 128) ≤ 32768 * b - 11059 * r - 21709 * g + 32768) ∧
    (32768 * r - 27439 * g - 5329 * b - 65536 ≤ 65536 * (brightM r g b 2 - 128) ∧ 65536 * (brightM r g b 2 - 128) ≤ 32768 * r - 27439 * g - 5329 * b + 32768) := by
  simp only [brightM, cutM]
  refine ⟨?_, ?_, ?_⟩ <;> omega
theorem cut_near {a v d : Int} (hv : 0 ≤ v ∧ v ≤ 255) (h : -d ≤ a - v ∧ a - v ≤ d) (hd : 0 ≤ d) : -d ≤ cutM a - v ∧ cutM a - v ≤ d := by
 unfold cutM; omega
theorem colour_near {r g b y c d : Int} (hr : 0 ≤ r ∧ r ≤ 255) (hg : 0 ≤ g ∧ g ≤ 255) (hb : 0 ≤ b ∧ b ≤ 255)
    (hy : -4 ≤ y - brightM r g b 0 ∧ y - brightM r g b 0 ≤ 4) (hc : -4 ≤ c - brightM r g b 1 ∧ c - brightM r g b 1 ≤ 4) (hd : -4 ≤ d - brightM r g b 2 ∧ d - brightM r g b 2 ≤ 4) :
    ∀ k, k < 3 → -15 ≤ colourM y c d k - [r, g, b].getD k 0 ∧ colourM y c d k - [r, g, b].getD k 0 ≤ 15 := by
  obtain ⟨⟨a1, a2⟩, ⟨b1, b2⟩, ⟨c1, c2⟩⟩ := bright_near hr hg hb
  generalize brightM r g b 0 = Y at *
  generalize brightM r g b 1 = C at *
  generalize brightM r g b 2 = D at *
  intro k hk
  obtain rfl | rfl | rfl : k = 0 ∨ k = 1 ∨ k = 2 := by omega
  · exact cut_near (v := r) hr (by omega) (by decide)
  · exact cut_near (v := g) hg (by omega) (by decide)
  · exact cut_near (v := b) hb (by omega) (by decide)
end Go.Proofs
namespace Go.Proofs
open Go.Sh
theorem steps100 : ∀ d : Bool, stepsM 100 d = List.replicate 64 1 := by decide +kernel
theorem in1 (f : Int) : inStepsM f 1 = f := by unfold inStepsM; split <;> omega
theorem blkV100 (W Ht : Nat) (rgb : List Int) (u : Nat × Nat × Nat) (d : Bool) : blkV (blockV W Ht rgb 100 false u) (stepsM 100 d) = bakM (fwdM (smpL W Ht rgb false u)) := by
 unfold blkV
 congr 1
 refine list_ext_getD (n := 64) (tab_len _ _) (fwdM_len _) fun j hj => ?_
 rw [show (mulL (blockV W Ht rgb 100 false u) (stepsM 100 d)).getD j 0 = (blockV W Ht rgb 100 false u).getD j 0 * (stepsM 100 d).getD j 0 from tab_getD hj,
  show (blockV W Ht rgb 100 false u).getD j 0 = inStepsM ((fwdM (smpL W Ht rgb false u)).getD j 0) (stepV 100 (decide (0 < u.1)) j) from tab_getD hj]
 have h1 : ∀ d : Bool, (stepsM 100 d).getD j 0 = 1 := fun d => by
  rw [steps100, List.getD_eq_getElem?_getD, List.getElem?_replicate, if_pos hj]; rfl
 have h2 : stepV 100 (decide (0 < u.1)) j = 1 := by
  have := h1 (decide (0 < u.1))
  rwa [show (stepsM 100 (decide (0 < u.1))).getD j 0 = stepV 100 (decide (0 < u.1)) j from tab_getD hj] at this
 rw [h1, h2, in1, Int.mul_one]
def Gd (S : Nat → Nat → Int) (w : Nat) (L : List Int) (j : Nat) : Prop := -4 ≤ L.getD j 0 - S (j % w) (j / w) ∧ L.getD j 0 - S (j % w) (j / w) ≤ 4
theorem put_good {S : Nat → Nat → Int} {w x y : Nat} {v L : List Int} (hx : x + 8 ≤ w) (hL : ∀ i, i < 64 → (y + i / 8) * w + x + i % 8 < L.length)
    (hv : ∀ i, i < 64 → -4 ≤ cutM (v.getD i 0 + 128) - S (x + i % 8) (y + i / 8) ∧ cutM (v.getD i 0 + 128) - S (x + i % 8) (y + i / 8) ≤ 4) :
    ∀ n, n ≤ 64 → ∀ j, (Gd S w L j ∨ ∃ i, i < n ∧ j = (y + i / 8) * w + x + i % 8) → Gd S w (putN w x y v L n) j
  | 0, _, j, h => by
    rcases h with h | ⟨i, hi, _⟩
    · exact h
    · omega
  | n + 1, hn, j, h => by
    have hlt := hL n (by omega)
    unfold Gd
    rw [putN, getD_set_ite _ _ _ _ _ (by rw [putN_len]; exact hlt)]
    by_cases e : (y + n / 8) * w + x + n % 8 = j
    · rw [if_pos e, ← e]
      have e1 : ((y + n / 8) * w + x + n % 8) / w = y + n / 8 := by
        rw [Nat.add_assoc, Nat.add_comm, Nat.add_mul_div_right _ _ (by omega), Nat.div_eq_of_lt (by omega), Nat.zero_add]
      have e2 : ((y + n / 8) * w + x + n % 8) % w = x + n % 8 := by
        rw [Nat.add_assoc, Nat.add_comm, Nat.add_mul_mod_self_right, Nat.mod_eq_of_lt (by omega)]
      rw [e1, e2]
      exact hv n (by omega)
    · rw [if_neg e]
      refine put_good hx hL hv n (by omega) j ?_
      rcases h with h | ⟨i, hi, hj⟩
      · exact .inl h
      · refine .inr ⟨i, ?_, hj⟩
        rcases Nat.lt_or_ge i n with h1 | h1
        · exact h1
        · rw [show i = n by omega] at hj; exact absurd hj.symm e
section
variable {W Ht : Nat} {rgb : List Int}
theorem laid_good (hW : 1 ≤ W) (hH : 1 ≤ Ht) : ∀ t, t ≤ (orderM W Ht false).length → ∀ k j, (∃ t', t' < t ∧ ((orderM W Ht false).getD t' (0, 0, 0)).1 = k ∧ ∃ i, i < 64 ∧ j = (((orderM W Ht false).getD t' (0, 0, 0)).2.2 + i / 8) * w16 W + ((orderM W Ht false).getD t' (0, 0, 0)).2.1 + i % 8) →
    Gd (sampM W Ht rgb false k) (w16 W) (laidV (w16 W) (w16 W * w16 Ht) (orderM W Ht false) (blocksL W Ht rgb 100 false) [stepsM 100 false, stepsM 100 true, stepsM 100 true] t k) j
  | 0, _, k, j, ⟨t', h, _⟩ => by omega
  | t + 1, ht, k, j, ⟨t', ht', hk, i, hi, hj⟩ => by
    rw [laidV]
    have hmem := get_gD (orderM W Ht false) (0, 0, 0) (i := t) (by omega)
    have hin := order_in (W := W) (Ht := Ht) (half := false) _ (List.mem_of_getElem? hmem)
    have hbl : (blocksL W Ht rgb 100 false).getD t [] = blockV W Ht rgb 100 false ((orderM W Ht false).getD t (0, 0, 0)) := by
      unfold blocksL
      rw [List.getD_eq_getElem?_getD, List.getElem?_map, hmem]; rfl
    generalize hu : (orderM W Ht false).getD t (0, 0, 0) = u at *
    obtain ⟨hu1, hu2, hu3⟩ := hin
    have hst : ∃ d : Bool, [stepsM 100 false, stepsM 100 true, stepsM 100 true].getD u.1 [] = stepsM 100 d := by
      obtain h | h | h : u.1 = 0 ∨ u.1 = 1 ∨ u.1 = 2 := by omega
      · rw [h]; exact ⟨false, rfl⟩
      · rw [h]; exact ⟨true, rfl⟩
      · rw [h]; exact ⟨true, rfl⟩
    obtain ⟨d, hd⟩ := hst
    rw [hbl, hd, blkV100]
    have old : t' ≠ t → Gd (sampM W Ht rgb false k) (w16 W) (laidV (w16 W) (w16 W * w16 Ht) (orderM W Ht false) (blocksL W Ht rgb 100 false) [stepsM 100 false, stepsM 100 true, stepsM 100 true] t k) j := fun hne =>
      laid_good hW hH t (by omega) k j ⟨t', by omega, hk, i, hi, hj⟩
    split
    · rename_i hku
      refine put_good hu2 (fun i hi => by rw [laidV_len]; exact place_lt hu2 hu3 hi) (fun i hi => ?_) 64 (Nat.le_refl _) j ?_
      · have hr := smp_rng W Ht rgb false u
        have hb := there_back (s := smpL W Ht rgb false u) (fun i => by have := hr i; omega) hi
        have hs : (smpL W Ht rgb false u).getD i 0 = sampM W Ht rgb false u.1 (u.2.1 + i % 8) (u.2.2 + i / 8) - 128 := tab_getD hi
        rw [hs] at hb
        have hrr := sampM_rng W Ht rgb false u.1 (u.2.1 + i % 8) (u.2.2 + i / 8)
        rw [← hku] at hb hrr
        exact cut_near hrr (by omega) (by decide)
      · by_cases hne : t' = t
        · subst hne
          rw [hu] at hj
          exact .inr ⟨i, hi, hj⟩
        · exact .inl (old hne)
    · rename_i hku
      by_cases hne : t' = t
      · subst hne
        rw [hu] at hk
        exact absurd hk.symm hku
      · exact old hne
theorem order_cover {x y k : Nat} (hx : x < W) (hy : y < Ht) (hk : k < 3) : ∃ t, t < (orderM W Ht false).length ∧ (orderM W Ht false).getD t (0, 0, 0) = (k, 8 * (x / 8), 8 * (y / 8)) := by
 have hm : (k, 8 * (x / 8), 8 * (y / 8)) ∈ orderM W Ht false := by
  refine List.mem_flatMap.2 ⟨y / 8, List.mem_range.2 ?_, List.mem_flatMap.2 ⟨x / 8, List.mem_range.2 ?_, ?_⟩⟩
  ·show y / 8 < (Ht + 8 - 1) / 8; omega
  ·show x / 8 < (W + 8 - 1) / 8; omega
  ·obtain rfl | rfl | rfl : k = 0 ∨ k = 1 ∨ k = 2 := by omega
   ·simp [unitM]
   ·simp [unitM]
   ·simp [unitM]
 obtain ⟨t, ht⟩ := List.getElem?_of_mem hm
 refine ⟨t, ?_, gD_get ht⟩
 rcases Nat.lt_or_ge t (orderM W Ht false).length with h | h
 ·exact h
 ·rw [List.getElem?_eq_none h] at ht; cases ht
theorem laid_near (hW : 1 ≤ W) (hH : 1 ≤ Ht) {x y k : Nat} (hx : x < W) (hy : y < Ht) (hk : k < 3) :
    -4 ≤ (laidP W Ht false (blocksL W Ht rgb 100 false) [stepsM 100 false, stepsM 100 true, stepsM 100 true] k).getD (y * w16 W + x) 0 - sampM W Ht rgb false k x y ∧ (laidP W Ht false (blocksL W Ht rgb 100 false) [stepsM 100 false, stepsM 100 true, stepsM 100 true] k).getD (y * w16 W + x) 0 - sampM W Ht rgb false k x y ≤ 4 := by
  obtain ⟨t, ht, hO⟩ := order_cover hx hy hk
  have hw := (w16_le W).1
  have h := laid_good (rgb := rgb) hW hH _ (Nat.le_refl _) k (y * w16 W + x) ⟨t, ht, by rw [hO], y % 8 * 8 + x % 8, by omega, by
    rw [hO]
    show y * w16 W + x = (8 * (y / 8) + (y % 8 * 8 + x % 8) / 8) * w16 W + 8 * (x / 8) + (y % 8 * 8 + x % 8) % 8
    rw [show 8 * (y / 8) + (y % 8 * 8 + x % 8) / 8 = y by omega]
    omega⟩
  unfold Gd at h
  rw [show (y * w16 W + x) / w16 W = y by rw [Nat.add_comm, Nat.add_mul_div_right _ _ (by omega), Nat.div_eq_of_lt (by omega), Nat.zero_add],
    show (y * w16 W + x) % w16 W = x by rw [Nat.add_comm, Nat.add_mul_mod_self_right, Nat.mod_eq_of_lt (by omega)]] at h
  exact h
theorem samp_in {x y k : Nat} (hx : x < W) (hy : y < Ht) : sampM W Ht rgb false k x y = brightM (rgb.getD (3 * (y * W + x)) 0) (rgb.getD (3 * (y * W + x) + 1) 0) (rgb.getD (3 * (y * W + x) + 2) 0) k := by
 have hi : y * W + x < W * Ht := ix_lt (by omega) (by omega) (by omega) (by omega)
 unfold sampM
 rw [if_neg (by simp)]
 unfold atM
 rw [Nat.min_eq_left (by omega), Nat.min_eq_left (by omega)]
 exact tab_getD hi
theorem rgbN_get (half : Bool) (P : Nat → List Int) {j k : Nat} (hk : k < 3) : ∀ n, j < n → (rgbN W half P n).getD (3 * j + k) 0 = (pxL W half P j).getD k 0
 | n + 1, h => by
  have hl := rgbN_len W half P n
  rw [rgbN_succ]
  rcases Nat.lt_or_ge j n with h1 | h1
  ·rw [List.getD_eq_getElem?_getD, List.getElem?_append_left (by omega), ← List.getD_eq_getElem?_getD]
   exact rgbN_get half P hk n h1
  ·rw [show j = n by omega, List.getD_eq_getElem?_getD, List.getElem?_append_right (by omega), show 3 * n + k - (rgbN W half P n).length = k by omega, ← List.getD_eq_getElem?_getD]
theorem paint_near (hW : 1 ≤ W) (hH : 1 ≤ Ht) (hl : rgb.length = 3 * (W * Ht)) (hr : ∀ x ∈ rgb, 0 ≤ x ∧ x < 256) {i : Nat} (hi : i < 3 * (W * Ht)) :
    -15 ≤ (paintM W Ht false (blocksL W Ht rgb 100 false) [stepsM 100 false, stepsM 100 true, stepsM 100 true]).getD i 0 - rgb.getD i 0 ∧ (paintM W Ht false (blocksL W Ht rgb 100 false) [stepsM 100 false, stepsM 100 true, stepsM 100 true]).getD i 0 - rgb.getD i 0 ≤ 15 := by
  obtain ⟨j, k, rfl, hk⟩ : ∃ j k, i = 3 * j + k ∧ k < 3 := ⟨i / 3, i % 3, by omega, by omega⟩
  have hj : j < W * Ht := by omega
  have hx : j % W < W := Nat.mod_lt _ (by omega)
  have hy : j / W < Ht := by rw [Nat.div_lt_iff_lt_mul (by omega), Nat.mul_comm]; exact hj
  have hje : j / W * W + j % W = j := by rw [Nat.mul_comm]; exact Nat.div_add_mod j W
  unfold paintM
  rw [rgbN_get false _ hk _ hj]
  have n0 := laid_near (rgb := rgb) hW hH hx hy (k := 0) (by omega)
  have n1 := laid_near (rgb := rgb) hW hH hx hy (k := 1) (by omega)
  have n2 := laid_near (rgb := rgb) hW hH hx hy (k := 2) (by omega)
  rw [samp_in hx hy, hje] at n0 n1 n2
  have b0 := getD_byte hr (3 * j)
  have b1 := getD_byte hr (3 * j + 1)
  have b2 := getD_byte hr (3 * j + 2)
  have h := colour_near (r := rgb.getD (3 * j) 0) (g := rgb.getD (3 * j + 1) 0) (b := rgb.getD (3 * j + 2) 0) (by omega) (by omega) (by omega) n0 n1 n2 k hk
  unfold pxL
  simp only [Bool.false_eq_true, if_false]
  obtain rfl | rfl | rfl : k = 0 ∨ k = 1 ∨ k = 2 := by omega
  · exact h
  · exact h
  · exact h
end
end Go.Proofs
namespace Go.Proofs
open Go.Sh
variable {H0 H : Heap} {σ : List Rs} {R : Value → Heap → Prop}
section
variable {f a most : Nat} {B out : List Int}
end
end Go.Proofs
namespace Go.Proofs
open Go.Sh
variable {H0 H : Heap} {σ : List Rs} {R : Value → Heap → Prop}
section
variable {f a most : Nat} {B out : List Int}
end
end Go.Proofs
namespace Go.Proofs
open Go.Sh
end Go.Proofs
namespace Go.Proofs
open Go.Sh
end Go.Proofs
namespace Go.Proofs
open Go.Sh
structure Tok where
 n : Nat
 d : Nat
 c : Int
def hashM (b : List Int) (a : Nat) : Int := (xorI .i64 (xorI .i64 (shlI .i64 (b.getD a 0) (8 : Int)) (shlI .i64 (b.getD (a + 1) 0) (4 : Int))) (b.getD (a + 2) 0)) % 4096
def addF (b F : List Int) (a : Nat) : List Int := if a + 3 ≤ b.length then F.set (hashM b a).toNat ((a : Int) + 1) else F
def addA (b F A : List Int) (a : Nat) : List Int := if a + 3 ≤ b.length then A.set a (F.getD (hashM b a).toNat 0) else A
def TokOk (out : List Int) (t : Tok) : Prop := (t.n = 0 ∧ t.d = 0 ∧ 0 ≤ t.c ∧ t.c < 256) ∨ (3 ≤ t.n ∧ t.n ≤ 258 ∧ 1 ≤ t.d ∧ t.d ≤ 32768 ∧ t.d ≤ out.length ∧ t.c = 0)
def expT (out : List Int) (t : Tok) : List Int := if t.n = 0 then out ++ [t.c] else copyM t.d t.n out
def Runs : List Int → List Tok → List Int → Prop
 | out, [], b => out = b
 | out, t :: r, b => TokOk out t ∧ Runs (expT out t) r b
theorem expT_len (out : List Int) (t : Tok) : (expT out t).length = out.length + max t.n 1 := by
 unfold expT
 split
 ·rename_i h; rw [h, List.length_append]; rfl
 ·rw [copyM_len]; omega
theorem Runs.len : ∀ {out : List Int} {l : List Tok} {b : List Int}, Runs out l b → out.length + l.length ≤ b.length
 | out, [], b, h => by cases h; simp
 | out, t :: r, b, h => by
  have := h.2.len
  rw [expT_len] at this
  simp only [List.length_cons]
  omega
structure Chains (b F A : List Int) (a : Nat) : Prop where
 fl : F.length = 4096
 al : A.length = b.length
 fr : ∀ x ∈ F, 0 ≤ x ∧ x ≤ a
 ar : ∀ (i : Nat) x, A[i]? = some x → 0 ≤ x ∧ x ≤ i
theorem getD_mem_or {l : List Int} (i : Nat) : l.getD i 0 ∈ l ∨ l.getD i 0 = 0 := by
 rw [List.getD_eq_getElem?_getD]
 cases h : l[i]? with
 | none => right; rfl
 | some x => left; exact List.mem_of_getElem? h
theorem Chains.fget {b F A : List Int} {a : Nat} (h : Chains b F A a) (i : Nat) : 0 ≤ F.getD i 0 ∧ F.getD i 0 ≤ a := by
 rcases getD_mem_or (l := F) i with h1 | h1
 ·exact h.fr _ h1
 ·rw [h1]; omega
theorem Chains.add {b F A : List Int} {a : Nat} (h : Chains b F A a) : Chains b (addF b F a) (addA b F A a) (a + 1) := by
 have hf := h.fget (hashM b a).toNat
 unfold addF addA
 split
 ·refine ⟨by rw [List.length_set]; exact h.fl, by rw [List.length_set]; exact h.al, fun x hx => ?_, fun i x hx => ?_⟩
  ·rcases List.mem_or_eq_of_mem_set hx with hx | rfl
   ·have := h.fr x hx; omega
   ·omega
  ·rw [List.getElem?_set] at hx
   split at hx
   ·split at hx
    ·cases hx; omega
    ·cases hx
   ·exact h.ar i x hx
 ·exact ⟨h.fl, h.al, fun x hx => by have := h.fr x hx; omega, h.ar⟩
end Go.Proofs
namespace Go.Proofs
open Go.Sh
variable {H0 H : Heap} {σ : List Rs} {R : Value → Heap → Prop}
section
variable {f l c bf ba a : Nat} {p : Option Addr} {b F A : List Int}
end
end Go.Proofs
namespace Go.Proofs
open Go.Sh
variable {H0 H : Heap} {σ : List Rs} {R : Value → Heap → Prop}
section
variable {f a most : Nat} {B out : List Int} {e : Int}
end
end Go.Proofs
namespace Go.Proofs
open Go.Sh
variable {H0 H : Heap} {σ : List Rs} {R : Value → Heap → Prop}
theorem colourL_byt (y b r : Int) : Byt (colourL y b r) := fun i => by
 have h : ∀ k, 0 ≤ colourM y b r k ∧ colourM y b r k ≤ 255 := fun k => by unfold colourM; split <;> exact cutM_rng _
 match i with
 | 0 => exact h 0
 | 1 => exact h 1
 | 2 => exact h 2
 | _ + 3 => exact ⟨Int.le_refl 0, show (0 : Int) ≤ 255 by decide⟩
theorem paintM_byt (W Ht : Nat) (half : Bool) (bl st : List (List Int)) : Byt (paintM W Ht half bl st) := fun i => by
 have hl := paintM_len W Ht half bl st
 rcases Nat.lt_or_ge i (3 * (W * Ht)) with h | h
 ·have := rgbN_get (W := W) half (laidP W Ht half bl st) (j := i / 3) (k := i % 3) (by omega) (W * Ht) (by omega)
  rw [show 3 * (i / 3) + i % 3 = i by omega] at this
  unfold paintM
  rw [this]
  exact colourL_byt _ _ _ _
 ·rw [gD_none _ _ (by omega)]; omega
theorem jlawNear {w h : Int} {l c : Nat} {p : Option Addr} {rgb : List Int} (hi : IS H p l (kints .u8 rgb)) (hr : ∀ x ∈ rgb, 0 ≤ x ∧ x < 256) :
    CallsH Try.prog 4 #[.int .i64 w, .int .i64 h, .slice p l c] H (fun u H' => u = .bool true ∧ Ext H H') := by
  refine Try.s4 ?_
  generalize hRd : (fun (u : Value) (H' : Heap) => u = Value.bool true ∧ Ext H H') = R
  have R1 : ∀ H', Ext H H' → R (.bool true) H' := fun H' e => by subst hRd; exact ⟨rfl, e⟩
  clear hRd
  unfold Try.S4
  have hrl := hi.length
  refine c6 fun H1 e1 => ⟨_, rfl, br_f rfl ?_⟩
  intro J7 hJ7
  refine br_dec (fun _ => R1 H1 e1) (fun hl => ?_)
  refine c11 ⟨_, rfl, ?_⟩
  by_cases hz : SizedM w h
  rotate_left
  · exact br_t (by simp [hz]) (R1 H1 e1)
  refine br_f (by simp [hz]) ?_
  obtain ⟨z1, z2, z3, z4, z5⟩ := hz
  obtain ⟨W, rfl⟩ := Int.eq_ofNat_of_zero_le (show 0 ≤ w by omega)
  obtain ⟨Ht, rfl⟩ := Int.eq_ofNat_of_zero_le (show 0 ≤ h by omega)
  have hmul : ((W : Int)) * (Ht : Int) = ((W * Ht : Nat) : Int) := by rw [Int.natCast_mul]
  rw [hmul] at z5
  have hw3 : IntKind.wrap .i64 ((3 : Int) * (W : Int)) = 3 * (W : Int) := wrap_id (by omega) (by omega)
  have hwh : 3 * (W : Int) * (Ht : Int) = ((3 * (W * Ht) : Nat) : Int) := by rw [Int.mul_assoc, hmul]; omega
  rw [hw3, hwh, wrap_id (by omega) (by omega)]
  refine br_ne (fun _ => R1 H1 e1) (fun heq => hJ7 H1 ?_)
  have hlN : l = 3 * (W * Ht) := by omega
  have hn : W * Ht ≤ 1000 := by omega
  have hW1 : 1 ≤ W := by omega
  have hH1 : 1 ≤ Ht := by omega
  have i1 := hi.ext e1
  have hz : SizedM (W : Int) (Ht : Int) := ⟨z1, z2, z3, z4, by rw [hmul]; exact z5⟩
  have hle : (l : Int) = 3 * (W : Int) * (Ht : Int) := by rw [hwh]; omega
  refine c7 i1 hr (by omega) (fun W Ht _ _ _ => blocks_ok) (fun hn => absurd hz hn) (fun _ hn => absurd hle hn) (fun _ _ hq => absurd (by decide) hq) (fun W' Ht' B hw' hh _ _ _ hok H2 eb em hs2 => ⟨_, _, _, _, rfl, ?_⟩)
  obtain rfl : W = W' := by omega
  obtain rfl : Ht = Ht' := by omega
  have hs2 := (St.of_ext e1).call hs2
  refine decode_enc hok hn ⟨hs2.is 0 rfl, (hs2.fs 0 rfl).le, enc_rng hok⟩ fun hpo H4 q4 k4 bq bk hs4 => ⟨_, _, rfl, ?_⟩
  have hs4 := hs2.call hs4
  have hpl := paintM_len W Ht false (blocksL W Ht rgb 100 false) [stepsM 100 false, stepsM 100 true, stepsM 100 true]
  have hnear := fun i => paint_near (rgb := rgb) hW1 hH1 (by omega) hr (i := i)
  have hbyt := paintM_byt W Ht false (blocksL W Ht rgb 100 false) [stepsM 100 false, stepsM 100 true, stepsM 100 true]
  generalize paintM W Ht false (blocksL W Ht rgb 100 false) [stepsM 100 false, stepsM 100 true, stepsM 100 true] = P at *
  refine hs4.alc fun b17 H5 hs5 => ⟨rfl, hs5.putAll 0 rfl rfl (by simp [Value.oneCell']) fun H6 hs6 => ?_⟩
  intro J20 hJ20
  refine br_f rfl (br_f rfl ⟨_, _, _, hs6.get 0 (j := 2) rfl rfl, br_ne (fun hne => ?_) (fun _ => hJ20 H6 ⟨_, _, _, hs6.get 0 (j := 2) rfl rfl, ?_⟩)⟩)
  · exact absurd (by omega) hne
  · intro X23 hX23
    have hi6 := hi.ext hs6.ext
    have loop : ∀ i, i ≤ P.length → X23 [.int .i64 (i : Nat)] H6 := upto fun i hi' ih => by
      refine hX23 _ H6 (br_dec (fun hlt => ?_) (fun _ => R1 H6 hs6.ext))
      have hil : i < P.length := by omega
      obtain ⟨a, ha, hc⟩ := (hs6.is 1 rfl).get i _ (kints_get (get_gD P 0 hil))
      obtain ⟨a2, ha2, hc2⟩ := hi6.get i _ (kints_get (get_gD rgb 0 (by omega)))
      have hb1 := hbyt i
      have hb2 := getD_byte hr i
      have hn1 := hnear i (by omega)
      refine ⟨a, ha, by omega, by omega, P.getD i 0, by simpa using hc, a2, ha2, by omega, by omega, rgb.getD i 0, by simpa using hc2, ?_⟩
      rw [wrap_id (n := P.getD i 0) (by omega) (by omega), wrap_id (n := rgb.getD i 0) (by omega) (by omega), wrap_id (by omega) (by omega)]
      refine br_n (by omega) (br_n (by omega) ?_)
      rw [w1' (by omega)]
      exact ih hil
    exact loop 0 (by omega)
end Go.Proofs
namespace Go.Proofs
open Go.Sh Go.RowKit Go.ChangeShapes Go.WideShapes Go.ChangeAt
theorem wf_range8 {a : Int} (h : (Lit.int .u8 a).wf = true) : 0 ≤ a ∧ a < 256 := by
 have : 0 ≤ a ∧ a ≤ 255 := by simpa [Lit.wf, IntKind.min, IntKind.max, IntKind.signed, IntKind.bits] using h
 omega
theorem bytesAt {H : Type} {enc : TypeId × Value → H} {W : World} {fuel : Nat} {a0 : Option Addr} {len cap : Nat} {x : DataW H × List MemPlace} (hf : DataW.trod enc Try.prog W 0 (fun _ => true) true fuel 22 [.slice a0 len cap] = some x) :
    ∃ ls, len ≤ cap ∧ IS W.heap a0 len (kints .u8 ls) ∧ ∀ n ∈ ls, 0 ≤ n ∧ n < 256 := by
  rcases open_ints Try.underlying22 Try.underlying5 (by kernel_rfl) hf with ⟨hcs, _⟩ | ⟨a, len2, cap2, zs, hcs, _, hl, _, hz, _, hc, hw⟩
  · simp at hcs
    obtain ⟨rfl, rfl, rfl⟩ := hcs
    exact ⟨[], Nat.le_refl _, ⟨rfl, fun i v hv => by simp [kints] at hv⟩, fun n hn => by simp at hn⟩
  · simp at hcs
    obtain ⟨rfl, rfl, rfl⟩ := hcs
    have hzl : len ≤ zs.length := by rw [hz]; simp; omega
    refine ⟨zs.take len, hl, ⟨by rw [kints_len]; simp; omega, fun i v hv => ⟨a, rfl, ?_⟩⟩, fun n hn => wf_range8 (hw n (List.mem_of_mem_take hn))⟩
    have hi : i < len := by have := (List.getElem?_eq_some_iff.1 hv).1; rw [kints_len] at this; simp at this; omega
    have := hc i (by omega)
    rw [cell_eq] at this
    rw [this]
    have hg : (zs.take len)[i]? = some (zs.getD i 0) := by
      rw [List.getElem?_take_of_lt hi, List.getD_eq_getElem?_getD, List.getElem?_eq_getElem (by omega)]; rfl
    rw [kints_get hg] at hv
    exact hv
set_option maxRecDepth 100000 in
theorem bytesIn_of {H : Type} {enc : TypeId × Value → H} {W : World} {v : Value} {d : DataW H} {ps : List MemPlace} {base : Nat} (hv : Value.okWide Try.prog W .any base 22 v) (h : DataW.Trod enc Try.prog W 0 (fun _ => true) true 22 v d ps) :
    ∃ a l c ls, v = .slice a l c ∧ l ≤ c ∧ IS W.heap a l (kints .u8 ls) ∧ ∀ n ∈ ls, 0 ≤ n ∧ n < 256 := by
  obtain ⟨a0, len, cap, rfl⟩ := okWide_slice Try.underlying22 hv
  obtain ⟨fuel, hf⟩ := h
  obtain ⟨ls, h1, h2, h3⟩ := bytesAt hf
  exact ⟨a0, len, cap, ls, rfl, h1, h2, h3⟩
end Go.Proofs
