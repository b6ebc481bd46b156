/-
  OWN WORK. JpegBlocks and JpegGrey over heaps.
-/
import Derived.Test.YtmappfblfoklfaaJpI
set_option linter.unusedVariables false
set_option linter.unusedSimpArgs false
namespace Go.Proofs
open Go.Sh
variable {H0 H : Heap} {σ : List Rs} {R : Value → Heap → Prop}

theorem c8 {i j n1 n2 m1 m2 : Nat} {p1 p2 : Option Addr} {e1 e2 : TypeId} {l1 l2 : List (List Int)} (hs : St H0 H σ) (hi : σ[i]? = some (.sl p1 n1 m1 e1 64 (ints l1.flatten))) (hj : σ[j]? = some (.sl p2 n2 m2 e2 64 (ints l2.flatten)))
    (h1 : ∀ b ∈ l1, b.length = 64) (hn1 : l1.length = n1) (hn2 : l2.length = n2) (hn : n1 ≤ 1000000) (he : l1 = l2) (hR : ∀ H', Ext H H' → R (.bool true) H') :
    CallsH Try.prog 8 #[.slice p1 n1 m1, .slice p2 n2 m2] H R := by
  subst he
  subst hn1 hn2
  refine Try.s8 (br_ne (fun hne => absurd rfl hne) (fun _ => ?_))
  intro X hX
  have go : ∀ t, t ≤ l1.length → ∀ H1, Ext H H1 → X [.int .i64 (t : Nat)] H1 := upto fun t ht ih H1 e1 => by
    refine hX _ H1 (br_dec (fun hlt => ?_) (fun hge => hR H1 e1))
    have hlt : t < l1.length := by omega
    obtain ⟨b, hb⟩ : ∃ b, l1[t]? = some b := ⟨_, List.getElem?_eq_getElem hlt⟩
    have hbl := h1 b (List.mem_of_getElem? hb)
    obtain ⟨k1, hp1, r1⟩ := St.row64 (hs.step e1) i hi h1 hb hlt
    refine ⟨_, hp1, by omega, by omega, _, by rw [intsA_size]; exact hbl, by rw [add_none, Nat.zero_add, Int.toNat_natCast]; exact r1, ?_⟩
    refine (St.of_ext e1).alc fun b8 H2 hs2 => ⟨by rw [intsA_size]; exact hbl, hs2.putAllA 0 rfl (by rw [hbl]; simp) fun H3 hs3 => ?_⟩
    have e3 := hs3.ext
    obtain ⟨k2, hp2, r2⟩ := St.row64 (hs.step e3) j hj h1 hb hlt
    refine ⟨_, by rw [intsA_size]; exact hbl, rowIn_whole (hs3.block 0 rfl), _, hp2, by omega, by omega, _, by simpa using hbl, by rw [add_none, Nat.zero_add, Int.toNat_natCast]; exact r2, rfl, b, b, hbl, hbl, rfl, rfl, ?_⟩
    rw [decide_eq_true rfl, w1 (by omega)]
    exact br_f rfl (ih hlt H3 e3)
  exact go 0 (by omega) H (Ext.refl _)

theorem decodeNil (hR : ∀ H', Ext H H' → R (.tuple #[.agg #[.int .i64 0, .int .i64 0, .slice none 0 0, .bool false, .slice none 0 0], .int .i64 51]) H') : CallsH Try.prog 11 #[.slice none 0 0] H R := by
  refine Try.s11 ?_
  unfold Try.S11
  refine (St.nil H).alc fun b2 H1 hs1 => ?_
  intro J hJ
  refine br_y (by decide) ⟨rfl, hs1.putAll 0 rfl rfl (by simp [Value.oneCell']) fun H2 hs2 => ?_⟩
  exact ⟨_, rfl, rowIn_whole (hs2.block 0 rfl), hR H2 hs2.ext⟩

theorem anc_order : orderM 1 1 false = [(0, 0, 0), (1, 0, 0), (2, 0, 0)] := by decide +kernel
theorem anc_vals : (blockV 1 1 [255, 255, 255] 100 false (0, 0, 0)).getD 0 0 = 1016 ∧ (blockV 1 1 [255, 255, 255] 100 false (0, 0, 0)).getD 1 0 = 0 ∧ (blockV 1 1 [255, 255, 255] 100 false (1, 0, 0)).getD 0 0 = 0 := by decide +kernel

theorem c5 (hR : ∀ H', Ext H H' → R (.bool true) H') : CallsH Try.prog 5 #[] H R := by
  refine Try.s5 (_u := ()) ?_
  unfold Try.S5
  refine (St.nil H).alc fun b1 H1 hs1 => ?_
  have i1 : IS H1 (some ⟨b1, 0, none⟩) 3 (kints .u8 [255, 255, 255]) := ⟨rfl, fun i v hv => ⟨_, rfl, by
    rw [add_none, Nat.zero_add]
    exact cell_get (hs1.block 0 rfl) (by
      have : (#[Value.int .u8 255, Value.int .u8 255, Value.int .u8 255] : Array Value) = (kints .u8 [255, 255, 255]).toArray := rfl
      rw [this, List.getElem?_toArray]; exact hv)⟩⟩
  have s1 : SizedM 1 1 := by decide
  refine c6 i1 (by decide) (by decide) (fun hn => absurd s1 hn) (fun _ hn => absurd (by decide) hn) (fun _ _ hn => absurd (by decide) hn) (fun W Ht hw' hh hW hH hl hn hq H2 b m hs2 => ⟨_, _, _, _, rfl, ?_⟩)
  have e1 : W = 1 := by omega
  have e2 : Ht = 1 := by omega
  subst e1 e2
  have hol : (orderM 1 1 false).length = 3 := by rw [anc_order]; rfl
  have hbs : blocksL 1 1 [255, 255, 255] 100 false = [blockV 1 1 [255, 255, 255] 100 false (0, 0, 0), blockV 1 1 [255, 255, 255] 100 false (1, 0, 0), blockV 1 1 [255, 255, 255] 100 false (2, 0, 0)] := by unfold blocksL; rw [anc_order]; rfl
  obtain ⟨v0, v1, v2⟩ := anc_vals
  have h64 := blocksL_64 1 1 [255, 255, 255] 100 false
  have bl0 := blockV_len 1 1 [255, 255, 255] 100 false (0, 0, 0)
  have bl1 := blockV_len 1 1 [255, 255, 255] 100 false (1, 0, 0)
  rw [hbs] at hs2 h64
  generalize blockV 1 1 [255, 255, 255] 100 false (0, 0, 0) = B0 at *
  generalize blockV 1 1 [255, 255, 255] 100 false (1, 0, 0) = B1 at *
  generalize blockV 1 1 [255, 255, 255] 100 false (2, 0, 0) = B2 at *
  rw [hol] at hs2 ⊢
  have hs2 := hs1.call hs2
  refine decodeNil fun H3 e3 => ⟨_, _, rfl, ?_⟩
  have hs3 := hs2.step e3
  refine hs3.alc fun b11 H4 hs4 => ⟨rfl, hs4.putAll 0 rfl rfl (by simp [Value.oneCell']) fun H5 hs5 => ?_⟩
  obtain ⟨k0, hp0, r0⟩ := St.row64 hs5 1 rfl h64 (t := 0) (b := B0) rfl (by decide)
  obtain ⟨k1, hp1, r1⟩ := St.row64 hs5 1 rfl h64 (t := 1) (b := B1) rfl (by decide)
  have c0 := r0 0 (.int .i64 1016) (by rw [List.getElem?_toArray, ← v0]; exact ints_get (getD_some B0 0 (by omega)))
  have c1 := r0 1 (.int .i64 0) (by rw [List.getElem?_toArray, ← v1]; exact ints_get (getD_some B0 0 (by omega)))
  have c2 := r1 0 (.int .i64 0) (by rw [List.getElem?_toArray, ← v2]; exact ints_get (getD_some B1 0 (by omega)))
  refine br_t rfl (br_t rfl ⟨_, hp0, by decide, by decide, by decide, by decide, _, c0, br_t rfl ⟨_, hp0, by decide, by decide, by decide, by decide, _, c1, br_t rfl ⟨_, hp1, by decide, by decide, by decide, by decide, _, c2, br_t rfl ?_⟩⟩⟩)
  exact hR H5 hs5.ext

theorem lawBlocks {H : Heap} {w h q : Int} {l c : Nat} {p : Option Addr} {rgb : List Int} {half : Bool} (hi : IS H p l (kints .u8 rgb)) (hr : ∀ x ∈ rgb, 0 ≤ x ∧ x < 256) :
    CallsH Try.prog 3 #[.int .i64 w, .int .i64 h, .slice p l c, .int .i64 q, .bool half] H (fun u H' => u = .bool true ∧ Ext H H') := by
  refine Try.s3 ?_
  generalize hRd : (fun (u : Value) (H' : Heap) => u = Value.bool true ∧ Ext H H') = R
  have R1 : ∀ H', Ext H H' → R (.bool true) H' := fun H' e => by subst hRd; exact ⟨rfl, e⟩
  clear hRd
  unfold Try.S3
  refine c5 fun H1 e1 => ⟨_, rfl, br_f rfl (br_dec (fun _ => R1 H1 e1) (fun hl => ?_))⟩
  have hl : l ≤ 3000 := by omega
  have i1 := hi.ext e1
  -- nothing of both
  have none_ : ∀ (k : Int) H2, Ext H1 H2 → ∃ r15p : Option Addr, True → True := fun _ _ _ => ⟨none, id⟩
  have fin0 : ∀ (H3 : Heap), Ext H H3 → CallsH Try.prog 8 #[.slice none 0 0, .slice none 0 0] H3 fun r17 H_18 => ∃ r19 : Bool, r17 = Value.bool r19 ∧ R (Value.bool r19) H_18 := fun H3 e3 => by
    have hs := ((St.nil H3).nilSl 3 64).nilSl 3 64
    exact c8 (l1 := []) (l2 := []) hs (i := 0) (j := 1) rfl rfl (by simp) rfl rfl (by decide) rfl fun H4 e4 => ⟨_, rfl, R1 H4 (e3.trans e4)⟩
  refine c6 i1 hr hl (fun hn H2 e2 => ⟨_, _, _, _, rfl, ?_⟩) (fun hz hn H2 e2 => ⟨_, _, _, _, rfl, ?_⟩) (fun hz he hn H2 e2 => ⟨_, _, _, _, rfl, ?_⟩) (fun W Ht hw' hh hW hH hlN hn hq H2 b m hs2 => ⟨_, _, _, _, rfl, ?_⟩)
  · refine c7 (i1.ext e2) hr hl (fun _ H3 e3 => ⟨_, _, _, _, rfl, br_t rfl (fin0 H3 (e1.trans (e2.trans e3)))⟩) (fun hz => absurd hz hn) (fun hz => absurd hz hn) (fun W Ht hw' hh hW hH hlN hN hq => absurd ?_ hn)
    subst hw' hh
    obtain ⟨b1, b2⟩ := le_of_area hW hH hN
    have := Int.natCast_mul W Ht
    unfold SizedM; omega
  · refine c7 (i1.ext e2) hr hl (fun hz' => absurd hz hz') (fun _ _ H3 e3 => ⟨_, _, _, _, rfl, br_t rfl (fin0 H3 (e1.trans (e2.trans e3)))⟩) (fun _ he => absurd he hn) (fun W Ht hw' hh hW hH hlN hN hq => absurd ?_ hn)
    subst hw' hh
    rw [Int.mul_assoc, ← Int.natCast_mul]; omega
  · exact c7 (i1.ext e2) hr hl (fun hz' => absurd hz hz') (fun _ he' => absurd he he') (fun _ _ _ H3 e3 => ⟨_, _, _, _, rfl, br_t rfl (fin0 H3 (e1.trans (e2.trans e3)))⟩) (fun W Ht hw' hh hW hH hlN hN hq => absurd hq hn)
  · have hs2 := (St.of_ext e1).call hs2
    have hz : SizedM w h := by
      subst hw' hh
      obtain ⟨b1, b2⟩ := le_of_area hW hH hn
      have := Int.natCast_mul W Ht
      unfold SizedM; omega
    have he : (l : Int) = 3 * w * h := by
      subst hw' hh
      rw [Int.mul_assoc, ← Int.natCast_mul]; omega
    refine c7 (hi.ext hs2.ext) hr hl (fun hz' => absurd hz hz') (fun _ he' => absurd he he') (fun _ _ hq' => absurd hq hq') (fun W' Ht' hw2 hh2 _ _ _ _ _ H3 b' m' hs3 => ⟨_, _, _, _, rfl, br_t rfl ?_⟩)
    have e1' : W' = W := by omega
    have e2' : Ht' = Ht := by omega
    subst e1' e2'
    obtain ⟨b1, b2⟩ := le_of_area hW hH hn
    have hc := order_cnt W' Ht' half b1 b2
    have hs3 := hs2.call hs3
    exact c8 hs3 (i := 1) (j := 0) rfl rfl (blocksL_64 _ _ _ _ _) (blocksL_len _ _ _ _ _) (blocksL_len _ _ _ _ _) (by omega) rfl fun H4 e4 => ⟨_, rfl, R1 H4 (hs3.ext.trans e4)⟩

/-! ### greys -/

def greyL (g : List Int) : List Int := g.flatMap fun v => [v, v, v]
theorem greyL_len : ∀ g : List Int, (greyL g).length = 3 * g.length
  | [] => rfl
  | v :: g => by have := greyL_len g; simp only [greyL, List.flatMap_cons, List.length_append, List.length_cons, List.length_nil] at *; omega
theorem greyL_get : ∀ (g : List Int) (i : Nat), (greyL g).getD (3 * i) 0 = g.getD i 0 ∧ (greyL g).getD (3 * i + 1) 0 = g.getD i 0 ∧ (greyL g).getD (3 * i + 2) 0 = g.getD i 0
  | [], i => by simp [greyL]
  | v :: g, 0 => ⟨rfl, rfl, rfl⟩
  | v :: g, i + 1 => by
    have := greyL_get g i
    rw [show 3 * (i + 1) = 3 * i + 1 + 1 + 1 from by omega]
    exact this
theorem bright_grey (v : Int) {k : Nat} (hk : k ≠ 0) : brightM v v v k = 128 := by
  unfold brightM cutM
  split
  · exact absurd rfl hk
  · omega
  · omega
theorem at_grey {W Ht : Nat} (hW : 1 ≤ W) (hH : 1 ≤ Ht) (g : List Int) {k : Nat} (hk : k ≠ 0) (x y : Nat) : atM W Ht (planeL (W * Ht) (greyL g) k) x y = 128 := by
  rw [atM_plane hW hH]
  obtain ⟨h1, h2, h3⟩ := greyL_get g (min y (Ht - 1) * W + min x (W - 1))
  rw [h1, h2, h3]; exact bright_grey _ hk
theorem samp_grey {W Ht : Nat} (hW : 1 ≤ W) (hH : 1 ≤ Ht) (g : List Int) (half : Bool) {k : Nat} (hk : k ≠ 0) (x y : Nat) : sampM W Ht (greyL g) half k x y = 128 := by
  unfold sampM
  split
  · unfold halfV2; rw [at_grey hW hH g hk, at_grey hW hH g hk, at_grey hW hH g hk, at_grey hW hH g hk]; decide
  · exact at_grey hW hH g hk _ _
theorem smp_grey {W Ht : Nat} (hW : 1 ≤ W) (hH : 1 ≤ Ht) (g : List Int) (half : Bool) {u : Nat × Nat × Nat} (hk : u.1 ≠ 0) : smpL W Ht (greyL g) half u = List.replicate 64 0 := by
  have : smpL W Ht (greyL g) half u = (List.range 64).map fun _ => (0 : Int) := by
    unfold smpL
    refine List.map_congr_left fun i _ => ?_
    rw [samp_grey hW hH g half hk]; decide
  rw [this]; decide
theorem rep_getD (n j : Nat) : (List.replicate n (0 : Int)).getD j 0 = 0 := by
  rw [List.getD_eq_getElem?_getD, List.getElem?_replicate]; split <;> rfl
theorem fwd_zero : fwdM (List.replicate 64 0) = List.replicate 64 0 := by
  have hz : ∀ j, (List.replicate 64 (0 : Int)).getD j 0 = 0 := fun j => rep_getD 64 j
  have sz : ∀ (n : Nat) (f : Nat → Int), (∀ i, f i = 0) → sumN n f = 0 := fun n f h => by
    induction n with
    | zero => rfl
    | succ n ih => rw [sumN, ih, h]; rfl
  have hh : ∀ y u, halfV (List.replicate 64 0) y u = 0 := fun y u => sz _ _ fun x => by rw [hz, Int.zero_mul]
  have hf : ∀ v u, fwdV (List.replicate 64 0) v u = 0 := fun v u => sz _ _ fun y => by rw [hh, Int.zero_mul]
  have : fwdM (List.replicate 64 0) = (List.range 64).map fun _ => (0 : Int) := by
    unfold fwdM
    refine List.map_congr_left fun i _ => ?_
    rw [hf]; decide
  rw [this]; decide
theorem block_grey {W Ht : Nat} (hW : 1 ≤ W) (hH : 1 ≤ Ht) (g : List Int) (q : Int) (half : Bool) {u : Nat × Nat × Nat} (hk : u.1 ≠ 0) : blockV W Ht (greyL g) q half u = List.replicate 64 0 := by
  have : blockV W Ht (greyL g) q half u = (List.range 64).map fun _ => (0 : Int) := by
    unfold blockV
    rw [smp_grey hW hH g half hk, fwd_zero]
    refine List.map_congr_left fun i hi => ?_
    have hi := List.mem_range.1 hi
    have hz := rep_getD 64 i
    rw [hz]
    have hs := stepV_rng q (decide (0 < u.1)) i
    unfold inStepsM
    rw [if_neg (by omega)]
    exact Int.ediv_eq_zero_of_lt (by omega) (by omega)
  rw [this]; decide

set_option maxHeartbeats 1000000 in
theorem lawGrey {H : Heap} {w h q : Int} {l c : Nat} {p : Option Addr} {g : List Int} {half : Bool} (hi : IS H p l (kints .u8 g)) (hr : ∀ x ∈ g, 0 ≤ x ∧ x < 256) :
    CallsH Try.prog 4 #[.int .i64 w, .int .i64 h, .slice p l c, .int .i64 q, .bool half] H (fun u H' => u = .bool true ∧ Ext H H') := by
  have hgl := hi.length
  refine Try.s4 ?_
  generalize hRd : (fun (u : Value) (H' : Heap) => u = Value.bool true ∧ Ext H H') = R
  have R1 : ∀ H', Ext H H' → R (.bool true) H' := fun H' e => by subst hRd; exact ⟨rfl, e⟩
  clear hRd
  unfold Try.S4
  refine c5 fun H1 e1 => ⟨_, rfl, br_f rfl ?_⟩
  intro J hJ
  refine br_dec (fun _ => R1 H1 e1) (fun w1' => br_dec (fun _ => R1 H1 e1) (fun h1' => br_dec (fun _ => R1 H1 e1) (fun w2' => br_dec (fun _ => R1 H1 e1) (fun h2' => br_ne (fun _ => R1 H1 e1) (fun hlen => hJ H1 ?_)))))
  obtain ⟨W, rfl⟩ := Int.eq_ofNat_of_zero_le (show 0 ≤ w by omega)
  obtain ⟨Ht, rfl⟩ := Int.eq_ofNat_of_zero_le (show 0 ≤ h by omega)
  have hA : W * Ht ≤ 24 * 24 := Nat.mul_le_mul (by omega) (by omega)
  rw [← Int.natCast_mul, wN (by omega)] at hlen
  have hlN : l = W * Ht := by omega
  have hW : 1 ≤ W := by omega
  have hH : 1 ≤ Ht := by omega
  have hgr := greyL_len g
  have hgrr : ∀ x ∈ greyL g, 0 ≤ x ∧ x < 256 := fun x hx => by
    obtain ⟨v, hv, hx⟩ := List.mem_flatMap.1 hx
    simp at hx; subst hx; exact hr _ hv
  intro X hX
  have rest : ∀ H2 b m, St H H2 [.sl b (3 * l) m 5 1 (kints .u8 (greyL g))] → X [.slice b (3 * l) m, .int .i64 (l : Nat)] H2 := fun H2 b m hs2 => by
    refine hX _ _ _ _ H2 (br_n (by omega) ?_)
    have hz : SizedM (W : Nat) (Ht : Nat) := by
      have := Int.natCast_mul W Ht
      unfold SizedM; omega
    have he : ((3 * l : Nat) : Int) = 3 * (W : Nat) * (Ht : Nat) := by rw [Int.mul_assoc, ← Int.natCast_mul]; omega
    refine c6 (hs2.is 0 rfl) hgrr (by omega) (fun hn => absurd hz hn) (fun _ hn => absurd he hn) (fun _ _ hn H3 e3 => ⟨_, _, _, _, rfl, ?_⟩) (fun W' Ht' hw' hh' _ _ _ hN hq H3 b3 m3 hs3 => ⟨_, _, _, _, rfl, ?_⟩)
    · refine stepsC2 fun H4 e4 => ⟨_, _, rfl, ?_⟩
      refine ((hs2.step e3).step e4).alc fun b29 H5 hs5 => ⟨by rw [intsA_size]; exact stL_len q false, hs5.putAllA 0 rfl (by rw [stL_len]; simp) fun H6 hs6 => ?_⟩
      rw [decide_eq_false hn]
      exact br_t rfl (br_t rfl (R1 H6 hs6.ext))
    · have e1' : W' = W := by omega
      have e2' : Ht' = Ht := by omega
      subst e1' e2'
      have hs3 := hs2.call hs3
      obtain ⟨bW, bH⟩ := le_of_area hW hH hN
      refine stepsC2 fun H4 e4 => ⟨_, _, rfl, ?_⟩
      refine (hs3.step e4).alc fun b29 H5 hs5 => ⟨by rw [intsA_size]; exact stL_len q false, hs5.putAllA 0 rfl (by rw [stL_len]; simp) fun H6 hs6 => ?_⟩
      rw [decide_eq_true hq]
      refine br_f rfl (c10 bW bH fun H7 qo mo hs7 => ⟨_, _, _, rfl, ?_⟩)
      have hs7 := hs6.call hs7
      have h64 := blocksL_64 W' Ht' (greyL g) q half
      have hbl := blocksL_len W' Ht' (greyL g) q half
      have hcnt := order_cnt W' Ht' half bW bH
      have hget : ∀ (t : Nat) (u : Nat × Nat × Nat), (orderM W' Ht' half)[t]? = some u → (blocksL W' Ht' (greyL g) q half)[t]? = some (blockV W' Ht' (greyL g) q half u) := fun t u h => by simp [blocksL, h]
      generalize hO : orderM W' Ht' half = O at *
      generalize hB : blocksL W' Ht' (greyL g) q half = B at *
      intro K hK
      refine br_f rfl (br_ne (fun hne => absurd rfl hne) (fun _ => hK H7 ?_))
      intro Y hY
      have go : ∀ t, t ≤ O.length → ∀ H8, Ext H7 H8 → Y [.int .i64 (t : Nat)] H8 := upto fun t ht ih H8 e8 => by
        refine hY _ H8 (br_dec (fun hlt => ?_) (fun hge => R1 H8 (hs7.ext.trans e8)))
        have hlt : t < O.length := by omega
        obtain ⟨u, hu⟩ : ∃ u, O[t]? = some u := ⟨_, List.getElem?_eq_getElem hlt⟩
        have hbt := hget t u hu
        have hbvl := h64 _ (List.mem_of_getElem? hbt)
        obtain ⟨k1, hp1, r1⟩ := St.row64 (hs7.step e8) 2 rfl h64 hbt hlt
        refine ⟨_, hp1, by omega, by omega, _, by rw [intsA_size]; exact hbvl, by rw [add_none, Nat.zero_add, Int.toNat_natCast]; exact r1, ?_⟩
        refine (St.of_ext e8).alc fun b42 H9 hs9 => ⟨by rw [intsA_size]; exact hbvl, hs9.putAllA 0 rfl (by rw [hbvl]; simp) fun H10 hs10 => ?_⟩
        have e10 := hs10.ext
        obtain ⟨k2, hp2, r2⟩ := rowPlaces ((hs7.step e10).rs 0 rfl) hu hlt
        have c0 := r2 0 _ rfl
        refine ⟨_, hp2, by omega, by omega, _, by rw [add_none, Nat.zero_add, Int.toNat_natCast]; exact c0, ?_⟩
        rw [w1 (i := t) (by omega)]
        refine br_dec (fun hpos => ?_) (fun _ => ih hlt H10 e10)
        have hzb := block_grey hW hH g q half (u := u) (by omega)
        rw [hzb] at hs10
        refine ⟨_, by rw [intsA_size]; simp, rowIn_whole (hs10.block 0 rfl), rfl, List.replicate 64 0, List.replicate 64 0, by simp, by simp, rfl, by simp, ?_⟩
        rw [decide_eq_true rfl]
        exact br_f rfl (ih hlt H10 e10)
      exact go 0 (by omega) H7 (Ext.refl _)
  have go : ∀ t, t ≤ l → ∀ H2 b m, St H H2 [.sl b (3 * t) m 5 1 (kints .u8 (greyL (g.take t)))] → X [.slice b (3 * t) m, .int .i64 (t : Nat)] H2 := upto fun t ht ih H2 b m hs2 => by
    by_cases hlt : t < l
    · obtain ⟨v, hv⟩ := hi.get' hlt
      obtain ⟨a0, p0, q0a, q0b, x0, c0, rfl⟩ := (hi.ext hs2.ext).rd (i := (t : Int)) (by omega) (by omega) (by rw [Int.toNat_natCast]; exact hv) (K := fun y => y = v) rfl
      refine hX _ _ _ _ H2 (br_y (by omega) ⟨a0, p0, q0a, q0b, x0, c0, ?_⟩)
      rw [w1 (i := t) (by omega)]
      refine hs2.alc fun b17 H3 hs3 => ?_
      refine hs3.appC 1 0 (el := 5) (k := 1) (n := 3) rfl rfl rfl (by simp [Value.oneCell']) (by decide) rfl (by omega) (by omega) fun b4 m4 H4 hs4 => ?_
      rw [show 3 * t + 3 = 3 * (t + 1) from by omega] at hs4 ⊢
      refine ih hlt H4 b4 m4 ?_
      have e : greyL (g.take (t + 1)) = greyL (g.take t) ++ [x0, x0, x0] := by rw [List.take_add_one, hv]; simp [greyL]
      rw [e, kints_append]
      exact hs4.tail
    · have : t = l := by omega
      subst this
      rw [List.take_of_length_le (by omega)] at hs2
      exact rest H2 b m hs2
  exact go 0 (by omega) H1 none 0 ((St.of_ext e1).nilSl 5 1)

end Go.Proofs
