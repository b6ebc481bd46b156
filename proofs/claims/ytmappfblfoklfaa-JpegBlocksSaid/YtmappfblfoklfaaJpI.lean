/-
  OWN WORK. Blocks over heaps, the document's.
-/
import Derived.Test.YtmappfblfoklfaaJpH
set_option linter.unusedVariables false
set_option linter.unusedSimpArgs false
namespace Go.Proofs
open Go.Sh
variable {H0 H : Heap} {σ : List Rs} {R : Value → Heap → Prop}

set_option maxHeartbeats 4000000 in
theorem c7 {w h q : Int} {l c : Nat} {p : Option Addr} {rgb : List Int} {half : Bool} (hi : IS H p l (kints .u8 rgb)) (hr : ∀ x ∈ rgb, 0 ≤ x ∧ x < 256) (hl : l ≤ 3000)
    (h31 : ¬ SizedM w h → ∀ H', Ext H H' → R (.tuple #[.slice none 0 0, .int .i64 31]) H')
    (h25 : SizedM w h → (l : Int) ≠ 3 * w * h → ∀ H', Ext H H' → R (.tuple #[.slice none 0 0, .int .i64 25]) H')
    (h32 : SizedM w h → (l : Int) = 3 * w * h → ¬ (1 ≤ q ∧ q ≤ 100) → ∀ H', Ext H H' → R (.tuple #[.slice none 0 0, .int .i64 32]) H')
    (hR : ∀ W Ht : Nat, w = W → h = Ht → 1 ≤ W → 1 ≤ Ht → l = 3 * (W * Ht) → W * Ht ≤ 1000 → 1 ≤ q ∧ q ≤ 100 → ∀ H' b m, St H H' [.sl b (orderM W Ht half).length m 34 64 (ints (blocksL W Ht rgb q half).flatten)] → R (.tuple #[.slice b (orderM W Ht half).length m, .int .i64 0]) H') :
    CallsH Try.prog 7 #[.agg #[.int .i64 w, .int .i64 h, .slice p l c], .int .i64 q, .bool half] H R := by
  have hi0 := hi
  refine Try.s7 ?_
  unfold Try.S7
  refine (St.nil H).alc fun b4 H0' hs0 => ⟨_, hs0.get 0 (j := 0) rfl rfl, _, hs0.get 0 (j := 1) rfl rfl, ?_⟩
  refine c19 ⟨_, rfl, br_not (fun hns => h31 (of_decide_eq_false hns) _ hs0.ext) (fun hsz => ?_)⟩
  have hsz := of_decide_eq_true hsz
  have hm := mul_bd2 (w := w) (h := h) (by unfold SizedM at hsz; omega) (by unfold SizedM at hsz; omega)
  have e3 : IntKind.wrap .i64 (IntKind.wrap .i64 (3 * w) * h) = 3 * w * h := by
    unfold SizedM at hsz
    have e := Int.mul_assoc 3 w h
    rw [wrap_id (n := 3 * w) (by omega) (by omega), wrap_id (by omega) (by omega)]
  refine ⟨_, _, _, hs0.get 0 (j := 2) rfl rfl, _, hs0.get 0 (j := 0) rfl rfl, _, hs0.get 0 (j := 1) rfl rfl, ?_⟩
  rw [e3]
  refine br_ne (fun hne => h25 hsz hne _ hs0.ext) (fun heq => ?_)
  refine stepsC2 fun H1 e1 => ⟨_, _, rfl, ?_⟩
  refine (hs0.step e1).alc fun b10 H2 hs2 => ⟨by rw [intsA_size]; exact stL_len q false, hs2.putAllA 0 rfl (by rw [stL_len]; simp) fun H3 hs3 => ?_⟩
  refine stepsC2 fun H4 e4 => ⟨_, _, rfl, ?_⟩
  refine (hs3.step e4).alc fun b17 H5 hs5 => ⟨by rw [intsA_size]; exact stL_len q true, hs5.putAllA 0 rfl (by rw [stL_len]; simp) fun H6 hs6 => ?_⟩
  have e6 := hs6.ext
  refine br_not (fun hnq => h32 hsz heq (of_decide_eq_false hnq) H6 e6) (fun hq => ?_)
  have hq := of_decide_eq_true hq
  unfold SizedM at hsz
  obtain ⟨W, rfl⟩ := Int.eq_ofNat_of_zero_le (show 0 ≤ w by omega)
  obtain ⟨Ht, rfl⟩ := Int.eq_ofNat_of_zero_le (show 0 ≤ h by omega)
  rw [Int.mul_assoc, ← Int.natCast_mul] at heq
  have hlN : l = 3 * (W * Ht) := by omega
  have hn : W * Ht ≤ 1000 := by omega
  have hW : 1 ≤ W := by omega
  have hH : 1 ≤ Ht := by omega
  obtain ⟨bW, bH⟩ := le_of_area hW hH hn
  have hR := hR W Ht rfl rfl hW hH hlN hn hq
  clear h31 h25 h32 heq e3 hm
  have hst : ∀ d, stL q d = stepsM q d := fun d => by unfold stL; rw [if_pos hq]
  rw [hst, hst] at hs6
  have hs6 : St H H6 [.cell b17 (ints (stepsM q true)).toArray 34, .cell b10 (ints (stepsM q false)).toArray 34, .cell b4 #[.int .i64 (W : Nat), .int .i64 (Ht : Nat), .slice p l c] 31] := hs6
  have k10 : H6[b10]? = some (.cells (ints (stepsM q false)).toArray 34) := hs6.block 1 rfl
  have k17 : H6[b17]? = some (.cells (ints (stepsM q true)).toArray 34) := hs6.block 0 rfl
  have k4 : H6[b4]? = some (.cells #[.int .i64 (W : Nat), .int .i64 (Ht : Nat), .slice p l c] 31) := hs6.block 2 rfl
  have hsl : ∀ d, (stepsM q d).length = 64 := stepsM_len q
  refine ⟨_, hs6.get 2 (j := 0) rfl rfl, _, hs6.get 2 (j := 1) rfl rfl, ?_⟩
  refine c10 bW bH fun H10 qo mo hs10 => ⟨_, _, _, rfl, ?_⟩
  have hor := order_rng W Ht half bW bH
  have hcnt := order_cnt W Ht half bW bH
  have hbl := blocksL_len W Ht rgb q half
  have h64 := blocksL_64 W Ht rgb q half
  have hget : ∀ (t : Nat) (u : Nat × Nat × Nat), (orderM W Ht half)[t]? = some u → (blocksL W Ht rgb q half)[t]? = some (blockV W Ht rgb q half u) := fun t u h => by simp [blocksL, h]
  generalize hO : orderM W Ht half = O at *
  generalize hB : blocksL W Ht rgb q half = B at *
  intro X hX
  have go : ∀ t, t ≤ O.length → ∀ H11 qb mb, St H6 H11 [.sl qb t mb 34 64 (ints (B.take t).flatten), .sl qo O.length mo 40 3 (ints (flat3 O))] → X [.slice qb t mb, .int .i64 (t : Nat)] H11 := upto fun t ht ih H11 qb mb hs11 => by
    refine hX _ _ _ _ H11 (br_dec (fun hlt => ?_) (fun hge => ?_))
    · have hlt : t < O.length := by omega
      obtain ⟨u, hu⟩ : ∃ u, O[t]? = some u := ⟨_, List.getElem?_eq_getElem hlt⟩
      have hur := hor u (List.mem_of_getElem? hu)
      have hbt := hget t u hu
      -- the place's cells
      have pc : ∀ {H12 : Heap} {τ : List Rs} (i : Nat), St H6 H12 τ → τ[i]? = some (.sl qo O.length mo 40 3 (ints (flat3 O))) → ∃ blk, qo = some ⟨blk, 0, none⟩ ∧
          cell H12 (Addr.add (Addr.add ⟨blk, 0, none⟩ (Int.toNat (t : Int) * 3)) 0) = some (.int .i64 (u.1 : Nat)) ∧ cell H12 (Addr.add (Addr.add ⟨blk, 0, none⟩ (Int.toNat (t : Int) * 3)) 1) = some (.int .i64 (u.2.1 : Nat)) ∧ cell H12 (Addr.add (Addr.add ⟨blk, 0, none⟩ (Int.toNat (t : Int) * 3)) 2) = some (.int .i64 (u.2.2 : Nat)) := fun {H12 τ} i hs hi => by
        obtain ⟨blk, h1, h2⟩ := rowPlaces (hs.rs i hi) hu hlt
        refine ⟨blk, h1, ?_⟩
        rw [add_none, Nat.zero_add, Int.toNat_natCast]
        exact ⟨h2 0 _ rfl, h2 1 _ rfl, h2 2 _ rfl⟩
      rw [w1 (i := t) (by omega)]
      refine hs11.alc fun b41 H14 hs14 => ?_
      simp only [zeroA] at hs14
      clear hs11
      intro Y hY
      have hsm := smpL_len W Ht rgb half u
      have rest : ∀ H15, St H6 H15 [.cell b41 (ints (smpL W Ht rgb half u)).toArray 34, .sl qb t mb 34 64 (ints (B.take t).flatten), .sl qo O.length mo 40 3 (ints (flat3 O))] → Y [.int .i64 ((64 : Nat) : Int)] H15 := fun H15 hs15 => by
        have hfl := fwdM_len (smpL W Ht rgb half u)
        refine hY _ H15 (br_n (by decide) ⟨_, by rw [intsA_size]; exact hsm, rowIn_whole (hs15.block 0 rfl), c21 (smpL_small W Ht rgb half u) fun H16 e16 => ⟨_, rfl, ?_⟩⟩)
        refine (hs15.step e16).alc fun b58 H17 hs17 => ⟨by rw [intsA_size]; exact hfl, hs17.putAllA 0 rfl (by rw [hfl]; simp) fun H18 hs18 => ?_⟩
        simp only [List.set_cons_zero] at hs18
        clear hs17
        intro Z hZ
        have hvl := blockV_len W Ht rgb q half u
        have hvg : ∀ i, i < 64 → (blockV W Ht rgb q half u).getD i 0 = inStepsM ((fwdM (smpL W Ht rgb half u)).getD i 0) (stepV q (decide (0 < u.1)) i) := fun i hi => tab_getD hi
        have hfr : ∀ i, i < 64 → -5000 ≤ (fwdM (smpL W Ht rgb half u)).getD i 0 ∧ (fwdM (smpL W Ht rgb half u)).getD i 0 ≤ 5000 := fun i hi => fwd_rng (smpL_small W Ht rgb half u) hi
        generalize hF : fwdM (smpL W Ht rgb half u) = F at *
        generalize hV : blockV W Ht rgb q half u = V at *
        have mixl : ∀ i, i ≤ 64 → (V.take i ++ F.drop i).length = 64 := fun i hi => by rw [List.length_append, List.length_take, List.length_drop]; omega
        have go2 : ∀ i, i ≤ 64 → ∀ H19, St H6 H19 [.cell b58 (ints (V.take i ++ F.drop i)).toArray 34, .cell b41 (ints (smpL W Ht rgb half u)).toArray 34, .sl qb t mb 34 64 (ints (B.take t).flatten), .sl qo O.length mo 40 3 (ints (flat3 O))] → Z [.int .i64 (i : Nat)] H19 := upto fun i hi ihi H19 hs19 => by
          refine hZ _ H19 (br_dec (fun hlti => ?_) (fun hgei => ?_))
          · have hlti : i < 64 := by omega
            have s0 : (stepsM q false)[i]? = some (stepV q false i) := tab_get hlti
            have s1 : (stepsM q true)[i]? = some (stepV q true i) := tab_get hlti
            have c10 : cell H19 (Addr.add ⟨b10, 0, none⟩ (Int.toNat (i : Int) * 1)) = some (.int .i64 (stepV q false i)) := by
              rw [add_none, Nat.zero_add, Int.toNat_natCast, Nat.mul_one]
              exact cell_get (hs19.ext _ _ k10) (by rw [List.getElem?_toArray]; exact ints_get s0)
            have c17 : cell H19 (Addr.add ⟨b17, 0, none⟩ (Int.toNat (i : Int) * 1)) = some (.int .i64 (stepV q true i)) := by
              rw [add_none, Nat.zero_add, Int.toNat_natCast, Nat.mul_one]
              exact cell_get (hs19.ext _ _ k17) (by rw [List.getElem?_toArray]; exact ints_get s1)
            refine ⟨by omega, by omega, _, c10, ?_⟩
            intro J hJ
            have nx : ∀ s, s = stepV q (decide (0 < u.1)) i → J [.int .i64 s] H19 := fun s hs => by
              subst hs
              have hfi : (V.take i ++ F.drop i)[i]? = some (F.getD i 0) := by
                rw [List.getElem?_append_right (by rw [List.length_take]; omega), List.length_take, Nat.min_eq_left (by omega), Nat.sub_self, List.getElem?_drop, Nat.add_zero, getD_some F 0 (by omega)]
              refine hJ _ H19 ⟨by omega, by omega, F.getD i 0, ?_, ?_⟩
              · rw [add_none, Nat.zero_add, Int.toNat_natCast, Nat.mul_one]; exact hs19.rdA 0 rfl hfi
              · refine c22 (hfr i hlti) (stepV_rng _ _ _) ⟨_, rfl, by omega, by omega, ?_⟩
                rw [add_none, Nat.zero_add, Int.toNat_natCast, Nat.mul_one, w1 (i := i) (by omega), ← hvg i hlti]
                refine hs19.putA 0 rfl (by rw [mixl i hi]; exact hlti) fun H20 hs20 => ihi hlti H20 ?_
                have e : (V.take i ++ F.drop i).set i (V.getD i 0) = V.take (i + 1) ++ F.drop (i + 1) := by
                  rw [List.set_append_right _ _ (by rw [List.length_take]; omega), List.length_take, Nat.min_eq_left (by omega), Nat.sub_self, List.drop_eq_getElem_cons (by omega), List.set_cons_zero, List.take_add_one, getD_some V 0 (by omega), List.append_assoc]; rfl
                rw [e] at hs20
                exact hs20
            obtain ⟨blk, hqo, p0, _, _⟩ := pc 3 hs19 rfl
            refine ⟨_, hqo, by omega, by omega, _, p0, br_dec (fun hpos => ⟨by omega, by omega, _, c17, nx _ ?_⟩) (fun hz => nx _ ?_)⟩
            · rw [decide_eq_true (by omega)]
            · rw [decide_eq_false (by omega)]
          · have : i = 64 := by omega
            subst this
            rw [List.take_of_length_le (by omega), List.drop_of_length_le (by omega), List.append_nil] at hs19
            refine ⟨_, by rw [intsA_size]; exact hvl, rowIn_whole (hs19.block 0 rfl), by rw [intsA_size]; exact hvl, by decide, hs19.alc fun b76 H20 hs20 => ?_⟩
            rw [setL_all (by simp [ints, hvl])] at hs20
            refine hs20.appC 3 0 (el := 34) (k := 64) (n := 1) rfl rfl (by simp [ints, hvl]) (fun v hv => ints_one V v (by simpa using hv)) (by decide) (by simp) (by omega) (by omega) fun qb2 mb2 H21 hs21 => ?_
            refine ih hlt H21 qb2 mb2 ?_
            have hs22 := hs21.drop 3
            rw [flat_take hbt, ints_append]
            simpa using hs22
        exact go2 0 (by omega) H18 (by rw [List.take_zero, List.nil_append, List.drop_zero]; exact hs18)
      have hsg : ∀ i, i < 64 → (smpL W Ht rgb half u).getD i 0 = sampM W Ht rgb half u.1 (u.2.1 + i % 8) (u.2.2 + i / 8) - 128 := fun i hi => tab_getD hi
      have go1 : ∀ i, i ≤ 64 → ∀ H15, St H6 H15 [.cell b41 (ints (fillA (smpL W Ht rgb half u) i)).toArray 34, .sl qb t mb 34 64 (ints (B.take t).flatten), .sl qo O.length mo 40 3 (ints (flat3 O))] → Y [.int .i64 (i : Nat)] H15 := upto fun i hi ihi H15 hs15 => by
        by_cases hlti : i < 64
        · obtain ⟨blk, hqo, p0, p1, p2⟩ := pc 2 hs15 rfl
          refine hY _ H15 (br_y (by omega) ⟨_, rfl, rowIn_whole (hs15.ext _ _ k4), _, hqo, by omega, by omega, _, p0, _, hqo, by omega, by omega, _, p1, by decide, _, hqo, by omega, by omega, _, p2, by decide, ?_⟩)
          rw [ix3, ix4 (by omega), ← Int.natCast_add, wN (k := u.2.1 + i % 8) (by omega), ← Int.natCast_add, wN (k := u.2.2 + i / 8) (by omega)]
          refine c20 ((hi0.ext e6).ext hs15.ext) hr hlN hW hH hn hur.1 (by omega) (by omega) fun H16 e16 => ?_
          have hsr := sampM_rng W Ht rgb half u.1 (u.2.1 + i % 8) (u.2.2 + i / 8)
          refine ⟨_, rfl, by omega, by omega, ?_⟩
          rw [add_none, Nat.zero_add, Int.toNat_natCast, Nat.mul_one, w1 (i := i) (by omega), wrap_id (by omega) (by omega), ← hsg i hlti]
          refine (hs15.step e16).putA 0 rfl (by rw [fillA_len (by omega)]; omega) fun H17 hs17 => ihi hlti H17 ?_
          rw [fillA_set (by omega)] at hs17
          exact hs17
        · have : i = 64 := by omega
          subst this
          have e := fillA_all (smpL W Ht rgb half u)
          rw [hsm] at e
          rw [e] at hs15
          exact rest H15 hs15
      exact go1 0 (by omega) H14 (by rw [fillA_zero, hsm]; exact hs14)
    · have : t = O.length := by omega
      subst this
      rw [List.take_of_length_le (by omega)] at hs11
      exact hR H11 qb mb (St.rebase e6 (hs11.take 1))
  exact go 0 (by omega) H10 none 0 (hs10.nilSl _ 64)

end Go.Proofs
