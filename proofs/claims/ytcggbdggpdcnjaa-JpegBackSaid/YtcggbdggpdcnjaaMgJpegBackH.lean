/-
  OWN WORK. Several texts in one: JpJ, JqL, OpBytes.
-/
import Derived.Test.YtcggbdggpdcnjaaMgJpegBackG
import Derived.Test.YtcggbdggpdcnjaaRows
import Derived.Test.YtcggbdggpdcnjaaMgJpegBackB
import Derived.Test.YtcggbdggpdcnjaaMgJpegBackC
import Derived.ChangeSlices

set_option linter.unusedVariables false
set_option linter.unusedSimpArgs false
namespace Go.Proofs
open Go.Sh
variable {H0 H : Heap} {σ : List Rs} {R : Value → Heap → Prop}
theorem c10 {i j n1 n2 m1 m2 : Nat} {p1 p2 : Option Addr} {e1 e2 : TypeId} {l1 l2 : List (List Int)} (hs : St H0 H σ) (hi : σ[i]? = some (.sl p1 n1 m1 e1 64 (ints l1.flatten))) (hj : σ[j]? = some (.sl p2 n2 m2 e2 64 (ints l2.flatten)))
    (h1 : ∀ b ∈ l1, b.length = 64) (hn1 : l1.length = n1) (hn2 : l2.length = n2) (hn : n1 ≤ 1000000) (he : l1 = l2) (hR : ∀ H', Ext H H' → R (.bool true) H') :
    CallsH Try.prog 10 #[.slice p1 n1 m1, .slice p2 n2 m2] H R := by
  subst he
  subst hn1 hn2
  refine Try.s10 (br_ne (fun hne => absurd rfl hne) (fun _ => ?_))
  intro X hX
  have go : ∀ t, t ≤ l1.length → ∀ H1, Ext H H1 → X [.int .i64 (t : Nat)] H1 := upto fun t ht ih H1 e1 => by
    refine hX _ H1 (br_dec (fun hlt => ?_) (fun hge => hR H1 e1))
    have hlt : t < l1.length := by omega
    obtain ⟨b, hb⟩ : ∃ b, l1[t]? = some b := ⟨_, List.getElem?_eq_getElem hlt⟩
    have hbl := h1 b (List.mem_of_getElem? hb)
    obtain ⟨k1, hp1, r1⟩ := St.row64 (hs.step e1) i hi h1 hb hlt
    refine ⟨_, hp1, by omega, by omega, _, by rw [intsA_size]; exact hbl, by rw [add_none, Nat.zero_add, Int.toNat_natCast]; exact r1, ?_⟩
    refine (St.of_ext e1).alc fun b8 H2 hs2 => ⟨by rw [intsA_size]; exact hbl, hs2.putAllA 0 rfl (by rw [hbl]; simp) fun H3 hs3 => ?_⟩
    have e3 := hs3.ext
    obtain ⟨k2, hp2, r2⟩ := St.row64 (hs.step e3) j hj h1 hb hlt
    refine ⟨_, by rw [intsA_size]; exact hbl, rowIn_whole (hs3.block 0 rfl), _, hp2, by omega, by omega, _, by simpa using hbl, by rw [add_none, Nat.zero_add, Int.toNat_natCast]; exact r2, rfl, b, b, hbl, hbl, rfl, rfl, ?_⟩
    rw [decide_eq_true rfl, w1 (by omega)]
    exact br_f rfl (ih hlt H3 e3)
  exact go 0 (by omega) H (Ext.refl _)
theorem decodeNil (hR : ∀ H', Ext H H' → R (.tuple #[.agg #[.int .i64 0, .int .i64 0, .slice none 0 0, .bool false, .slice none 0 0], .int .i64 51]) H') : CallsH Try.prog 9 #[.slice none 0 0] H R := by
 refine Try.s9 ?_
 unfold Try.S9
 refine (St.nil H).alc fun b2 H1 hs1 => ?_
 intro J hJ
 refine br_y (by decide) ⟨rfl, hs1.putAll 0 rfl rfl (by simp [Value.oneCell']) fun H2 hs2 => ?_⟩
 exact ⟨_, rfl, rowIn_whole (hs2.block 0 rfl), hR H2 hs2.ext⟩
theorem anc_order : orderM 1 1 false = [(0, 0, 0), (1, 0, 0), (2, 0, 0)] := by decide +kernel
theorem anc_vals : (blockV 1 1 [255, 255, 255] 100 false (0, 0, 0)).getD 0 0 = 1016 ∧ (blockV 1 1 [255, 255, 255] 100 false (0, 0, 0)).getD 1 0 = 0 ∧ (blockV 1 1 [255, 255, 255] 100 false (1, 0, 0)).getD 0 0 = 0 := by decide +kernel
theorem c6 (hR : ∀ H', Ext H H' → R (.bool true) H') : CallsH Try.prog 6 #[] H R := by
 refine Try.s6 (_u := ()) ?_
 unfold Try.S6
 refine (St.nil H).alc fun b1 H1 hs1 => ?_
 have i1 : IS H1 (some ⟨b1, 0, none⟩) 3 (kints .u8 [255, 255, 255]) := ⟨rfl, fun i v hv => ⟨_, rfl, by
  rw [add_none, Nat.zero_add]
  exact cell_get (hs1.block 0 rfl) (by
   have : (#[Value.int .u8 255, Value.int .u8 255, Value.int .u8 255] : Array Value) = (kints .u8 [255, 255, 255]).toArray := rfl
   rw [this, List.getElem?_toArray]; exact hv)⟩⟩
 have s1 : SizedM 1 1 := by decide
 refine c8 i1 (by decide) (by decide) (fun hn => absurd s1 hn) (fun _ hn => absurd (by decide) hn) (fun _ _ hn => absurd (by decide) hn) (fun W Ht hw' hh hW hH hl hn hq H2 b m hs2 => ⟨_, _, _, _, rfl, ?_⟩)
 have e1 : W = 1 := by omega
 have e2 : Ht = 1 := by omega
 subst e1 e2
 have hol : (orderM 1 1 false).length = 3 := by rw [anc_order]; rfl
 have hbs : blocksL 1 1 [255, 255, 255] 100 false = [blockV 1 1 [255, 255, 255] 100 false (0, 0, 0), blockV 1 1 [255, 255, 255] 100 false (1, 0, 0), blockV 1 1 [255, 255, 255] 100 false (2, 0, 0)] := by unfold blocksL; rw [anc_order]; rfl
 obtain ⟨v0, v1, v2⟩ := anc_vals
 have h64 := blocksL_64 1 1 [255, 255, 255] 100 false
 have bl0 := blockV_len 1 1 [255, 255, 255] 100 false (0, 0, 0)
 have bl1 := blockV_len 1 1 [255, 255, 255] 100 false (1, 0, 0)
 rw [hbs] at hs2 h64
 generalize blockV 1 1 [255, 255, 255] 100 false (0, 0, 0) = B0 at *
 generalize blockV 1 1 [255, 255, 255] 100 false (1, 0, 0) = B1 at *
 generalize blockV 1 1 [255, 255, 255] 100 false (2, 0, 0) = B2 at *
 rw [hol] at hs2 ⊢
 have hs2 := hs1.call hs2
 refine decodeNil fun H3 e3 => ⟨_, _, rfl, ?_⟩
 have hs3 := hs2.step e3
 refine hs3.alc fun b11 H4 hs4 => ⟨rfl, hs4.putAll 0 rfl rfl (by simp [Value.oneCell']) fun H5 hs5 => ?_⟩
 obtain ⟨k0, hp0, r0⟩ := St.row64 hs5 1 rfl h64 (t := 0) (b := B0) rfl (by decide)
 obtain ⟨k1, hp1, r1⟩ := St.row64 hs5 1 rfl h64 (t := 1) (b := B1) rfl (by decide)
 have c0 := r0 0 (.int .i64 1016) (by rw [List.getElem?_toArray, ← v0]; exact ints_get (getD_some B0 0 (by omega)))
 have c1 := r0 1 (.int .i64 0) (by rw [List.getElem?_toArray, ← v1]; exact ints_get (getD_some B0 0 (by omega)))
 have c2 := r1 0 (.int .i64 0) (by rw [List.getElem?_toArray, ← v2]; exact ints_get (getD_some B1 0 (by omega)))
 refine br_t rfl (br_t rfl ⟨_, hp0, by decide, by decide, by decide, by decide, _, c0, br_t rfl ⟨_, hp0, by decide, by decide, by decide, by decide, _, c1, br_t rfl ⟨_, hp1, by decide, by decide, by decide, by decide, _, c2, br_t rfl ?_⟩⟩⟩)
 exact hR H5 hs5.ext
end Go.Proofs
namespace Go.Proofs
open Go.Sh
variable {H0 H : Heap} {σ : List Rs} {R : Value → Heap → Prop}
theorem stuffB_len : ∀ L : List Int, (stuffB L).length ≤ 2 * L.length
 | [] => by simp [stuffB]
 | a :: L => by
  have ih := stuffB_len L
  unfold stuffB at *
  rw [List.flatMap_cons, List.length_append, List.length_cons]
  have h2 : (if a = 255 then [255, 0] else [a] : List Int).length ≤ 2 := by split <;> simp
  omega
section
variable {W Ht : Nat} {half : Bool} {bl : List (List Int)} {st0 st1 B : List Int}
theorem enc_len (h : EncOk W Ht half bl st0 st1 B) : (encB W Ht half st0 st1 (itemsM (orderM W Ht half) bl [0, 0, 0]) B).length ≤ 200000000 := by
 have hA := h.few
 have hsym := items_sym (orderM W Ht half) bl [0, 0, 0] h.wb rfl la0 (fun u hu => (order_in u hu).1)
 have hA2 := itemsM_len (orderM W Ht half) bl [0, 0, 0]
 have hcnt := order_cnt W Ht half h.W1000 h.H1000
 have h1 := its_le hA _ hsym
 have h2 := h.bits.len
 have h3 := stuffB_len B
 generalize itemsM (orderM W Ht half) bl [0, 0, 0] = A at *
 have hfl : (fillM (itsBits (eA A) A) 1).length ≤ 27 * A.length + 8 := by unfold fillM; rw [List.length_append, List.length_replicate]; omega
 have t0 := tabB_len hA 0
 have t1 := tabB_len hA 1
 have t2 := tabB_len hA 2
 have t3 := tabB_len hA 3
 unfold encB headB
 simp only [List.length_append, segB_len, List.length_cons, zzB_len, List.length_nil]
 have e1 : (frameB W Ht half).length = 15 := rfl
 have e2 : scanB.length = 10 := rfl
 omega
theorem enc_rng (h : EncOk W Ht half bl st0 st1 B) : ∀ x ∈ encB W Ht half st0 st1 (itemsM (orderM W Ht half) bl [0, 0, 0]) B, 0 ≤ x ∧ x < 256 := by
 have hA := h.few
 have hsym := items_sym (orderM W Ht half) bl [0, 0, 0] h.wb rfl la0 (fun u hu => (order_in u hu).1)
 generalize itemsM (orderM W Ht half) bl [0, 0, 0] = A at *
 have seg : ∀ (mark : Int) (d : List Int), 0 ≤ mark ∧ mark < 256 → d.length ≤ 60000 → (∀ x ∈ d, 0 ≤ x ∧ x < 256) → ∀ x ∈ segB mark d, 0 ≤ x ∧ x < 256 := fun mark d hm hl hd x hx => by
  unfold segB at hx
  rcases List.mem_append.1 hx with hx | hx
  ·simp at hx; rcases hx with rfl | rfl | rfl | rfl <;> omega
  ·exact hd x hx
 have zz : ∀ (k : Int) (st : List Int), StOk st → 0 ≤ k ∧ k < 256 → ∀ x ∈ k :: zzB st, 0 ≤ x ∧ x < 256 := fun k st hs hk x hx => by
  rcases List.mem_cons.1 hx with rfl | hx
  ·exact hk
  ·obtain ⟨i, hi, rfl⟩ := List.mem_map.1 hx
   have := hs.rng _ (zig_lt (List.mem_range.1 hi)); omega
 have hll := fun t => lsC_len (cntS_ok hA t)
 have tab : ∀ t, t < 4 → ∀ x ∈ tabB A t, 0 ≤ x ∧ x < 256 := fun t ht x hx => by
  unfold tabB dataM at hx
  rcases List.mem_cons.1 hx with rfl | hx
  ·omega
  ·rcases List.mem_append.1 hx with hx | hx
   ·obtain ⟨n, hn, rfl⟩ := List.mem_map.1 hx
    have := few_sym hA hsym t (n + 1) (by omega)
    rw [hll t]; omega
   ·have := srtS_rng (lsC (cntS A t)) 16 x hx
    rw [hll t] at this; omega
 have hfr : ∀ x ∈ frameB W Ht half, 0 ≤ x ∧ x < 256 := fun x hx => by
  have := h.W1000
  have := h.H1000
  unfold frameB at hx
  simp at hx
  rcases hx with rfl | rfl | rfl | rfl | rfl | rfl | rfl | rfl | rfl | rfl | rfl | rfl | rfl | rfl | rfl <;> first | omega | (split <;> omega)
 have hst : ∀ x ∈ stuffB B, 0 ≤ x ∧ x < 256 := fun x hx => by
  obtain ⟨c, hc, hx⟩ := List.mem_flatMap.1 hx
  have := h.bits.rng c hc
  split at hx
  ·simp at hx; rcases hx with rfl | rfl <;> omega
  ·rw [List.mem_singleton.1 hx]; exact this
 intro x hx
 unfold encB headB at hx
 simp only [List.mem_append] at hx
 rcases hx with hx | (hx | hx | hx | hx | hx | hx | hx | hx) | hx | hx
 ·simp at hx; rcases hx with rfl | rfl <;> omega
 ·exact seg _ _ (by omega) (by rw [List.length_cons, zzB_len]; omega) (zz 0 st0 h.s0 (by omega)) x hx
 ·exact seg _ _ (by omega) (by rw [List.length_cons, zzB_len]; omega) (zz 1 st1 h.s1 (by omega)) x hx
 ·exact seg _ _ (by omega) (by show 15 ≤ 60000; omega) hfr x hx
 ·exact seg _ _ (by omega) (by have := tabB_len hA 0; omega) (tab 0 (by omega)) x hx
 ·exact seg _ _ (by omega) (by have := tabB_len hA 1; omega) (tab 1 (by omega)) x hx
 ·exact seg _ _ (by omega) (by have := tabB_len hA 2; omega) (tab 2 (by omega)) x hx
 ·exact seg _ _ (by omega) (by have := tabB_len hA 3; omega) (tab 3 (by omega)) x hx
 ·exact seg _ _ (by omega) (by decide) (by decide) x hx
 ·exact hst x hx
 ·simp at hx; rcases hx with rfl | rfl <;> omega
theorem decode_enc (h : EncOk W Ht half bl st0 st1 B) (hn : W * Ht ≤ 1000) {p : Option Addr} {l c : Nat} (hb : SlB H p l c (encB W Ht half st0 st1 (itemsM (orderM W Ht half) bl [0, 0, 0]) B))
    (hR : PaintOk W Ht half bl [st0, st1, st1] → ∀ H' q k bq bk, St H H' [.sl q (paintM W Ht half bl [st0, st1, st1]).length k 5 1 (kints .u8 (paintM W Ht half bl [st0, st1, st1])), .sl bq bl.length bk 40 64 (ints bl.flatten)] →
      R (.tuple #[.agg #[.int .i64 (W : Nat), .int .i64 (Ht : Nat), .slice q (paintM W Ht half bl [st0, st1, st1]).length k, .bool half, .slice bq bl.length bk], .int .i64 0]) H') :
    CallsH Try.prog 9 #[.slice p l c] H R := by
  have hdec := dec_enc h
  have hl := enc_len h
  have hbl := hb.len
  refine c9 hb (by omega) (fun s t r hh => ?_) (fun hno => ?_) (fun m hm W' Ht' hW hHt hok => ?_)
  · have hd : List.drop 2 (encB W Ht half st0 st1 (itemsM (orderM W Ht half) bl [0, 0, 0]) B) = headB W Ht half st0 st1 (itemsM (orderM W Ht half) bl [0, 0, 0]) ++ (stuffB B ++ [255, 217]) := rfl
    rw [hd, head_read h.sz h.s0 h.s1 h.few rfl rfl rfl] at hh
    cases hh
    show ((W : Nat) : Int) * ((Ht : Nat) : Int) ≤ 1000
    rw [← Int.natCast_mul]; omega
  · rw [hdec] at hno; cases hno
  · rw [hdec] at hm
    cases hm
    have e1 : W' = W := by have : ((W : Nat) : Int) = W' := hW; omega
    have e2 : Ht' = Ht := by have : ((Ht : Nat) : Int) = Ht' := hHt; omega
    subst e1 e2
    exact hR hok
end
theorem lawBack {H : Heap} {w h q : Int} {l c : Nat} {p : Option Addr} {rgb : List Int} {half : Bool} (hi : IS H p l (kints .u8 rgb)) (hr : ∀ x ∈ rgb, 0 ≤ x ∧ x < 256) :
    CallsH Try.prog 3 #[.int .i64 w, .int .i64 h, .slice p l c, .int .i64 q, .bool half] H (fun u H' => u = .bool true ∧ Ext H H') := by
  refine Try.s3 ?_
  generalize hRd : (fun (u : Value) (H' : Heap) => u = Value.bool true ∧ Ext H H') = R
  have R1 : ∀ H', Ext H H' → R (.bool true) H' := fun H' e => by subst hRd; exact ⟨rfl, e⟩
  clear hRd
  unfold Try.S3
  refine c6 fun H1 e1 => ⟨_, rfl, br_f rfl (br_dec (fun _ => R1 H1 e1) (fun hl => ?_))⟩
  have hl : l ≤ 3000 := by omega
  have i1 := hi.ext e1
  have szd : ∀ W Ht : Nat, w = W → h = Ht → 1 ≤ W → 1 ≤ Ht → l = 3 * (W * Ht) → W * Ht ≤ 1000 → SizedM w h ∧ (l : Int) = 3 * w * h := fun W Ht hw' hh hW hH hlN hn => by
    subst hw' hh
    obtain ⟨b1, b2⟩ := le_of_area hW hH hn
    have := Int.natCast_mul W Ht
    refine ⟨by unfold SizedM; omega, ?_⟩
    rw [Int.mul_assoc, ← Int.natCast_mul]; omega
  refine c7 i1 hr hl (fun W Ht _ _ _ => blocks_ok) (fun hn H2 e2 => ⟨_, _, _, _, rfl, ?_⟩) (fun hz hn H2 e2 => ⟨_, _, _, _, rfl, ?_⟩) (fun hz he hn H2 e2 => ⟨_, _, _, _, rfl, ?_⟩) (fun W Ht B hw' hh hlN hn hq hok H2 eb em hs2 => ⟨_, _, _, _, rfl, ?_⟩)
  · refine c8 (i1.ext e2) hr hl (fun _ H3 e3 => ⟨_, _, _, _, rfl, br_f rfl (br_t rfl (R1 H3 (e1.trans (e2.trans e3))))⟩) (fun hz => absurd hz hn) (fun hz => absurd hz hn) (fun W Ht a1 a2 a3 a4 a5 a6 => absurd (szd W Ht a1 a2 a3 a4 a5 a6).1 hn)
  · refine c8 (i1.ext e2) hr hl (fun hz' => absurd hz hz') (fun _ _ H3 e3 => ⟨_, _, _, _, rfl, br_f rfl (br_t rfl (R1 H3 (e1.trans (e2.trans e3))))⟩) (fun _ he => absurd he hn) (fun W Ht a1 a2 a3 a4 a5 a6 => absurd (szd W Ht a1 a2 a3 a4 a5 a6).2 hn)
  · exact c8 (i1.ext e2) hr hl (fun hz' => absurd hz hz') (fun _ he' => absurd he he') (fun _ _ _ H3 e3 => ⟨_, _, _, _, rfl, br_f rfl (br_t rfl (R1 H3 (e1.trans (e2.trans e3))))⟩) (fun W Ht a1 a2 a3 a4 a5 a6 a7 => absurd a7 hn)
  · obtain ⟨hW1, hH1, _⟩ := hok.sz
    obtain ⟨z1, z2⟩ := szd W Ht hw' hh (by omega) (by omega) hlN hn
    have hs2 := (St.of_ext e1).call hs2
    refine c8 (hi.ext hs2.ext) hr hl (fun hz' => absurd z1 hz') (fun _ he' => absurd z2 he') (fun _ _ hq' => absurd hq hq') (fun W' Ht' hw2 hh2 _ _ _ _ _ H3 b m hs3 => ⟨_, _, _, _, rfl, br_f rfl (br_f rfl ?_)⟩)
    have e1' : W' = W := by omega
    have e2' : Ht' = Ht := by omega
    subst e1' e2'
    subst hw' hh
    have hs3 := hs2.call hs3
    have hle := (hs3.fs 1 rfl).le
    refine decode_enc hok hn ⟨hs3.is 1 rfl, hle, enc_rng hok⟩ fun hpo H4 q4 k4 bq bk hs4 => ⟨_, _, rfl, ?_⟩
    have hs4 := hs3.call hs4
    have hpl := paintM_len W' Ht' half (blocksL W' Ht' rgb q half) [stepsM q false, stepsM q true, stepsM q true]
    refine hs4.alc fun b21 H5 hs5 => ⟨rfl, hs5.putAll 0 rfl rfl (by simp [Value.oneCell']) fun H6 hs6 => br_t rfl ⟨_, hs6.get 0 (j := 0) rfl rfl, ?_⟩⟩
    refine br_eq (fun _ => ⟨_, hs6.get 0 (j := 1) rfl rfl, br_eq (fun _ => ⟨half, hs6.get 0 (j := 3) rfl rfl, ?_⟩) (fun hne => absurd rfl hne)⟩) (fun hne => absurd rfl hne)
    rw [beq_self_eq_true]
    obtain ⟨b1, b2⟩ := le_of_area (W := W') (Ht := Ht') (by omega) (by omega) hn
    have hc := order_cnt W' Ht' half b1 b2
    have hbl := blocksL_len W' Ht' rgb q half
    refine br_t rfl ⟨bq, (blocksL W' Ht' rgb q half).length, bk, hs6.get 0 (j := 4) rfl rfl, c10 hs6 (i := 2) (j := 3) rfl rfl (blocksL_64 _ _ _ _ _) rfl (blocksL_len _ _ _ _ _) (by omega) rfl fun H7 e7 => ⟨_, rfl, br_t rfl ⟨_, _, _, (hs6.step e7).get 0 (j := 2) rfl rfl, ?_⟩⟩⟩
    rw [show (((paintM W' Ht' half (blocksL W' Ht' rgb q half) [stepsM q false, stepsM q true, stepsM q true]).length : Int) == (l : Int)) = true from by rw [beq_iff_eq, hpl]; omega]
    exact R1 H7 (hs6.step e7).ext
end Go.Proofs
namespace Go.Proofs
open Go.Sh Go.RowKit Go.ChangeShapes Go.WideShapes Go.ChangeAt
theorem wf_range8 {a : Int} (h : (Lit.int .u8 a).wf = true) : 0 ≤ a ∧ a < 256 := by
 have : 0 ≤ a ∧ a ≤ 255 := by simpa [Lit.wf, IntKind.min, IntKind.max, IntKind.signed, IntKind.bits] using h
 omega
theorem bytesAt {H : Type} {enc : TypeId × Value → H} {W : World} {fuel : Nat} {a0 : Option Addr} {len cap : Nat} {x : DataW H × List MemPlace} (hf : DataW.trod enc Try.prog W 0 (fun _ => true) true fuel 22 [.slice a0 len cap] = some x) :
    ∃ ls, len ≤ cap ∧ IS W.heap a0 len (kints .u8 ls) ∧ ∀ n ∈ ls, 0 ≤ n ∧ n < 256 := by
  rcases open_ints Try.underlying22 Try.underlying5 (by kernel_rfl) hf with ⟨hcs, _⟩ | ⟨a, len2, cap2, zs, hcs, _, hl, _, hz, _, hc, hw⟩
  · simp at hcs
    obtain ⟨rfl, rfl, rfl⟩ := hcs
    exact ⟨[], Nat.le_refl _, ⟨rfl, fun i v hv => by simp [kints] at hv⟩, fun n hn => by simp at hn⟩
  · simp at hcs
    obtain ⟨rfl, rfl, rfl⟩ := hcs
    have hzl : len ≤ zs.length := by rw [hz]; simp; omega
    refine ⟨zs.take len, hl, ⟨by rw [kints_len]; simp; omega, fun i v hv => ⟨a, rfl, ?_⟩⟩, fun n hn => wf_range8 (hw n (List.mem_of_mem_take hn))⟩
    have hi : i < len := by have := (List.getElem?_eq_some_iff.1 hv).1; rw [kints_len] at this; simp at this; omega
    have := hc i (by omega)
    rw [cell_eq] at this
    rw [this]
    have hg : (zs.take len)[i]? = some (zs.getD i 0) := by
      rw [List.getElem?_take_of_lt hi, List.getD_eq_getElem?_getD, List.getElem?_eq_getElem (by omega)]; rfl
    rw [kints_get hg] at hv
    exact hv
set_option maxRecDepth 100000 in
theorem bytesIn_of {H : Type} {enc : TypeId × Value → H} {W : World} {v : Value} {d : DataW H} {ps : List MemPlace} {base : Nat} (hv : Value.okWide Try.prog W .any base 22 v) (h : DataW.Trod enc Try.prog W 0 (fun _ => true) true 22 v d ps) :
    ∃ a l c ls, v = .slice a l c ∧ l ≤ c ∧ IS W.heap a l (kints .u8 ls) ∧ ∀ n ∈ ls, 0 ≤ n ∧ n < 256 := by
  obtain ⟨a0, len, cap, rfl⟩ := okWide_slice Try.underlying22 hv
  obtain ⟨fuel, hf⟩ := h
  obtain ⟨ls, h1, h2, h3⟩ := bytesAt hf
  exact ⟨a0, len, cap, ls, rfl, h1, h2, h3⟩
end Go.Proofs
