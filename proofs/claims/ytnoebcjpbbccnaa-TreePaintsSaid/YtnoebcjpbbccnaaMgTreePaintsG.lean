/-
  OWN WORK. Several texts in one: TsPaints, OpBytes, OpTree.
-/
import Derived.Test.YtnoebcjpbbccnaaMgTreePaintsF
import Derived.Test.YtnoebcjpbbccnaaRows
import Derived.Test.YtnoebcjpbbccnaaMgTreePaintsB
import Derived.ChangeSlices
import Derived.Deep.Slices

/-
  OWN WORK. The law TreePaints, over heaps.
-/
set_option linter.unusedVariables false
set_option linter.unusedSimpArgs false
set_option maxRecDepth 10000
namespace Go.Proofs
open Go.Sh
variable {H0 H : Heap} {σ : List Rs} {R : Value → Heap → Prop}

/-! ### plain -/

def oneD (f : LayF) : DocL := ⟨6, 6, 2, [.mk f []]⟩
def ras0 : LayF := ⟨1, 0, false, 255, 0, 6, 6, List.replicate 36 0, [], ⟨65536, 0, 0, 65536, 0, 0⟩, false, 2, []⟩
theorem one_start : doD ⟨6, 6, 1, []⟩ (ed0 1 0 0 (-1) 0 0 0 0 6 6) = (0, oneD ras0) := by rfl
def paE (p : List Int) (x y w h : Int) : Ed := ⟨4, 1, 0, 0, 0, 0, x, y, w, h, p, [], zeroM, []⟩
theorem one_paint {f : LayF} (hid : f.id = 1) (p : List Int) (x y w h : Int) : doD (oneD f) (paE p x y w h) = (if (paintF (paE p x y w h) f).1 ≠ 0 then ((paintF (paE p x y w h) f).1, zeroD) else (0, oneD (paintF (paE p x y w h) f).2)) := by
  have hfl : flK [] [] 1 [Lay.mk f []] = some ([⟨[], f, []⟩], []) := by
    rw [flK, flT, if_pos hid]
  obtain ⟨h1, h2⟩ := doL_step (w := 6) (h := 6) (next := 2) (D := [Lay.mk f []]) (e := paE p x y w h) ⟨by show (1 : Int) ≤ 4; decide, by show (4 : Int) ≤ 9; decide⟩
  have hst : stepL 6 6 2 [Lay.mk f []] (paE p x y w h) = (if (paintF (paE p x y w h) f).1 ≠ 0 then ((paintF (paE p x y w h) f).1, []) else (0, [Lay.mk (paintF (paE p x y w h) f).2 []])) := by
    show chgL (paintF (paE p x y w h)) [Lay.mk f []] 1 = _
    unfold chgL
    rw [hfl]; rfl
  by_cases h0 : (paintF (paE p x y w h) f).1 = 0
  · rw [if_neg (fun hh => hh h0)] at hst ⊢
    rw [hst] at h1 h2
    have h3 : doL (oneD f).w (oneD f).h (oneD f).next (oneD f).ks (paE p x y w h) = (0, 2, [Lay.mk (paintF (paE p x y w h) f).2 []]) := Prod.ext h1 (h2 rfl)
    unfold doD
    rw [h3]; rfl
  · rw [if_pos h0] at hst ⊢
    rw [hst] at h1
    have h3 : (doL (oneD f).w (oneD f).h (oneD f).next (oneD f).ks (paE p x y w h)).1 = (paintF (paE p x y w h) f).1 := h1
    unfold doD
    rw [h3, if_pos h0]
theorem paint_fst {e : Ed} {f g : LayF} (h : f.kind = g.kind) : (paintF e f).1 = (paintF e g).1 := by
  unfold paintF; rw [h]
  split
  · rfl
  · split
    · rfl
    · split
      · rfl
      · split <;> rfl
theorem paint_ok {e : Ed} {f : LayF} (h : (paintF e f).1 = 0) : (paintF e f).2 = { f with p := paintP e f.w f.p } := by
  unfold paintF at h ⊢
  split at h
  · simp at h
  rename_i c1
  split at h
  · simp at h
  rename_i c2
  split at h
  · simp at h
  rename_i c3
  split at h
  · simp at h
  rename_i c4
  rw [if_neg c1, if_neg c2, if_neg c3, if_neg c4]
theorem paint_twice (p q r : List Int) (x y w h W : Int) : paintP (paE q x y w h) W (paintP (paE p x y w h) W r) = paintP (paE q x y w h) W r := by
  unfold paintP
  rw [List.length_map, List.length_range]
  refine List.map_congr_left fun i hi => ?_
  have hil := List.mem_range.1 hi
  by_cases hin : insideB (paE q x y w h) W i = true
  · rw [if_pos hin, if_pos hin]
  · rw [if_neg hin, if_neg hin]
    have hin2 : ¬ insideB (paE p x y w h) W i = true := hin
    rw [List.getD_eq_getElem?_getD, List.getElem?_map, List.getElem?_range hil, Option.map_some, if_neg hin2]; rfl
theorem paint_self (p : List Int) (hl : p.length = 36) : paintP (paE p 0 0 6 6) 6 p = p := by
  unfold paintP
  conv => rhs; rw [← range_id (p := p)]
  refine List.map_congr_left fun i hi => ?_
  have hil := List.mem_range.1 hi
  split
  · rename_i hin
    show p.getD _ 0 = _
    congr 1
    unfold idxP
    show ((((i : Int) / 6 - 0) * 6 + ((i : Int) % 6 - 0))).toNat = i
    omega
  · rfl
where
  range_id {p : List Int} : (List.range p.length).map (fun q => p.getD q 0) = p := by
    refine List.ext_getElem? fun i => ?_
    rw [List.getElem?_map]
    by_cases hi : i < p.length
    · rw [List.getElem?_range hi, Option.map_some, List.getD_eq_getElem?_getD, List.getElem?_eq_getElem hi]; rfl
    · rw [List.getElem?_eq_none (by simpa using hi), List.getElem?_eq_none (by omega)]; rfl

theorem zero_do {A : Array Value} {e : Ed} {s : EdS} {H : Heap} {σ : List Rs} (hs : St H0 H σ) (hd : DocR H A zeroD) (hk : e.kind ≠ 7) (hed : EdOk H e s)
    (hR : ∀ A' H', DocR H' A' (doD zeroD e).2 → St H0 H' (docRs A' (doD zeroD e).2 :: σ) → R (.tuple #[.agg A', .int .i64 (doD zeroD e).1]) H') : CallsH Try.prog 19 #[.agg A, .agg (edL e s).toArray] H R :=
  do_gen hs hd trivial (by decide) ⟨by decide, by decide⟩ (fun h => absurd h hk) (fun fr u ks' hf => by simp [zeroD, flK] at hf) hed hR

theorem paE_ok {p : Option Addr} {l : Nat} {xs : List Int} (h : IS H p l (ints xs)) (c : Nat) (x y w z : Int) : EdOk H (paE xs x y w z) ⟨⟨p, l, c⟩, .nil, .nil⟩ :=
  ⟨⟨h, ⟨rfl, fun i x y hi => by simp [paE] at hi⟩, ⟨rfl, fun i v hv => by simp [paE, ints] at hv⟩⟩, by simp [paE], by simp [paE]⟩

theorem one_inv {f : LayF} (h : Inv (oneD f)) : goodF 6 6 2 f := h.good.1.1

theorem paints_law {p q : Option Addr} {l m c d : Nat} {xs ys : List Int} {x y w h : Int} (hx : IS H p l (ints xs)) (hy : IS H q m (ints ys)) (hR : ∀ H', Ext H H' → R (.bool true) H') : CallsH Try.prog 11 #[.slice p l c, .slice q m d, .int .i64 x, .int .i64 y, .int .i64 w, .int .i64 h] H R := by
  refine Try.s11 ?_
  unfold Try.S11
  refine c12 fun H8 he8 => ⟨_, rfl, br_f rfl ?_⟩
  refine c15 fun H11 he11 => ⟨_, _, _, rfl, ?_⟩
  rw [show begunA 6 6 = docA 6 6 1 .nil from rfl]
  refine (St.of_ext (he8.trans he11)).alc fun b15 H16 hs16 => hs16.alc fun b17 H18 hs18 => ⟨rfl, hs18.putAll 1 rfl rfl (docA_one _ _ _ _) fun H19 hs19 => ⟨rfl, hs19.putAll 0 rfl rfl (docA_one _ _ _ _) fun H20 hs20 => ?_⟩⟩
  intro J21 hJ21
  refine br_dec (fun _ => hR _ hs20.ext) fun hl4 => br_ne (fun _ => hR _ hs20.ext) fun hlm => hJ21 _ ?_
  have hd0 : ∀ H', DocR H' (docA 6 6 1 .nil) ⟨6, 6, 1, []⟩ := fun H' => DocR.new H' 6 6
  have hi0 : Inv ⟨6, 6, 1, []⟩ := new_inv (by decide)
  have hxl := hx.length
  have hyl := hy.length
  have e1 : (doD ⟨6, 6, 1, []⟩ (ed0 1 0 0 (-1) 0 0 0 0 6 6)).1 = 0 := by rw [one_start]
  have e2 : (doD ⟨6, 6, 1, []⟩ (ed0 1 0 0 (-1) 0 0 0 0 6 6)).2 = oneD ras0 := by rw [one_start]
  have hi1 : Inv (oneD ras0) := e2 ▸ do_inv hi0 e1
  refine ⟨_, rfl, rowIn_whole (hs20.block 1 rfl), do_st (D := ⟨6, 6, 1, []⟩) (e := ed0 1 0 0 (-1) 0 0 0 0 6 6) (s := es0) hs20 (hd0 H20) hi0 (by decide) (ed0_ok H20 ..) fun A1 H25 hd1 hs25 => ⟨_, _, rfl, hd1.size, hs25.putAll 2 rfl hd1.size hd1.one fun H28 hs28 => ?_⟩⟩
  rw [e2] at hs28
  have hd1' := hs28.doc 0 rfl
  have f1 : ∀ H', Ext H H' → EdOk H' (paE xs x y w h) ⟨⟨p, l, c⟩, .nil, .nil⟩ := fun H' he => paE_ok (hx.ext he) c x y w h
  have f2 : ∀ H', Ext H H' → EdOk H' (paE ys x y w h) ⟨⟨q, m, d⟩, .nil, .nil⟩ := fun H' he => paE_ok (hy.ext he) d x y w h
  refine hs28.alc fun b29 H30 hs30 => ⟨rfl, hs30.putAll 0 rfl rfl (by intro v hv; exact edL_one (paE xs x y w h) ⟨⟨p, l, c⟩, .nil, .nil⟩ v hv) fun H31 hs31 => ?_⟩
  refine ⟨_, rfl, rowIn_whole (hs31.block 0 rfl), hs31.alc fun b33 H34 hs34 => ⟨rfl, hs34.putAll 0 rfl rfl (by intro v hv; exact edL_one (paE xs x y w h) ⟨⟨p, l, c⟩, .nil, .nil⟩ v hv) fun H35 hs35 => hs35.put 0 rfl (by show 10 < 19; decide) rfl fun H36 hs36 => ?_⟩⟩
  have hs36 : St H H36 [.cell b33 (edL (paE ys x y w h) ⟨⟨q, m, d⟩, .nil, .nil⟩).toArray 43, .cell b29 (edL (paE xs x y w h) ⟨⟨p, l, c⟩, .nil, .nil⟩).toArray 43, docRs A1 (oneD ras0), .cell b17 (docA 6 6 1 .nil) 32, .cell b15 A1 26] := hs36
  have hnx : (oneD ras0).next ≤ 1000000000000000 := by decide
  refine ⟨_, hd1.size, rowIn_whole (hs36.block 4 rfl), _, rfl, rowIn_whole (hs36.block 1 rfl), do_st hs36 (hs36.doc 2 rfl) hi1 hnx (f1 _ hs36.ext) fun A2 H40 hd2 hs40 => ⟨_, _, rfl, ?_⟩⟩
  refine hs40.alc fun b43 H44 hs44 => ⟨hd2.size, hs44.putAll 0 rfl hd2.size hd2.one fun H45 hs45 => ⟨_, hd2.size, rowIn_whole (hs45.block 0 rfl), _, rfl, rowIn_whole (hs45.block 2 rfl), ?_⟩⟩
  have hp1 := one_paint (f := ras0) rfl xs x y w h
  have hp2 := one_paint (f := ras0) rfl ys x y w h
  have hfst : (paintF (paE xs x y w h) ras0).1 = 0 → (doD (oneD ras0) (paE xs x y w h)).2 = oneD { ras0 with p := paintP (paE xs x y w h) 6 ras0.p } := fun h0 => by rw [hp1, if_neg (fun hh => hh h0), paint_ok h0]; rfl
  -- the second edit, whatever the first one left
  have second : ∀ {A3 : Array Value} {D3 : DocL} {H49 : Heap}, DocR H49 A3 D3 → St H H49 (docRs A3 D3 :: .cell b43 A2 26 :: docRs A2 (doD (oneD ras0) (paE xs x y w h)).2 :: .cell b33 (edL (paE ys x y w h) ⟨⟨q, m, d⟩, .nil, .nil⟩).toArray 43 :: .cell b29 (edL (paE xs x y w h) ⟨⟨p, l, c⟩, .nil, .nil⟩).toArray 43 :: docRs A1 (oneD ras0) :: .cell b17 (docA 6 6 1 .nil) 32 :: [.cell b15 A1 26]) →
      ∀ r51 : Int, ((paintF (paE xs x y w h) ras0).1 = 0 → D3 = (doD (doD (oneD ras0) (paE xs x y w h)).2 (paE ys x y w h)).2 ∧ r51 = (doD (doD (oneD ras0) (paE xs x y w h)).2 (paE ys x y w h)).1) → 
      alc H49 (.cells #[Value.int .i64 0, Value.int .i64 0, Value.int .i64 0, Value.slice none 0 0] 26) fun b52 H_53 => A3.size = 4 ∧ stAt H_53 ⟨b52, 0, none⟩ (Array.toList A3) fun H_54 => ∃ v55 : Array Value, v55.size = 4 ∧ rowIn H_54 ⟨b15, 0, none⟩ v55 ∧ ∃ v56 : Array Value, v56.size = 19 ∧ rowIn H_54 ⟨b33, 0, none⟩ v56 ∧ CallsH Try.prog 19 #[Value.agg v55, Value.agg v56] H_54 fun r57 H_58 => ∃ r59 : Array Value, ∃ r60 : Int, r57 = Value.tuple #[Value.agg r59, Value.int .i64 r60] ∧ alc H_58 (.cells #[Value.int .i64 0, Value.int .i64 0, Value.int .i64 0, Value.slice none 0 0] 26) fun b61 H_62 => r59.size = 4 ∧ stAt H_62 ⟨b61, 0, none⟩ (Array.toList r59) fun H_63 => ∀ J_64 : List Value → Heap → Prop, (∀ H_65 : Heap, (∃ v66 : Array Value, v66.size = 4 ∧ rowIn H_65 ⟨b61, 0, none⟩ v66 ∧ CallsH Try.prog 22 #[Value.agg v66, Value.int .i64 (1 : Int)] H_65 fun r67 H_68 => ∃ r69 : Array Value, ∃ r70 : Bool, r67 = Value.tuple #[Value.agg r69, Value.bool r70] ∧ alc H_68 (.cells #[Value.int .i64 0, Value.int .i64 0, Value.bool false, Value.int .i64 0, Value.int .i64 0, Value.int .i64 0, Value.int .i64 0, Value.slice none 0 0, Value.slice none 0 0, Value.int .i64 0, Value.int .i64 0, Value.int .i64 0, Value.int .i64 0, Value.int .i64 0, Value.int .i64 0, Value.bool false, Value.int .i64 0, Value.slice none 0 0, Value.slice none 0 0] 58) fun b71 H_72 => r69.size = 19 ∧ stAt H_72 ⟨b71, 0, none⟩ (Array.toList r69) fun H_73 => ∃ v74 : Array Value, v74.size = 4 ∧ rowIn H_73 ⟨b61, 0, none⟩ v74 ∧ ∃ P_75p : Option Addr, ∃ P_75l : Nat, ∃ P_75c : Nat, Sh.cell H_73 (Addr.add ⟨b71, 0, none⟩ 7) = some (Value.slice P_75p P_75l P_75c) ∧ CallsH Try.prog 19 #[Value.agg v74, Value.agg #[Value.int .i64 (4 : Int), Value.int .i64 (1 : Int), Value.int .i64 0, Value.int .i64 0, Value.int .i64 0, Value.int .i64 0, Value.int .i64 0, Value.int .i64 0, Value.int .i64 (6 : Int), Value.int .i64 (6 : Int), Value.slice P_75p P_75l P_75c, Value.slice none 0 0, Value.int .i64 0, Value.int .i64 0, Value.int .i64 0, Value.int .i64 0, Value.int .i64 0, Value.int .i64 0, Value.slice none 0 0]] H_73 fun r76 H_77 => ∃ r78 : Array Value, ∃ r79 : Int, r76 = Value.tuple #[Value.agg r78, Value.int .i64 r79] ∧ alc H_77 (.cells #[Value.int .i64 0, Value.int .i64 0, Value.int .i64 0, Value.slice none 0 0] 26) fun b80 H_81 => r78.size = 4 ∧ stAt H_81 ⟨b80, 0, none⟩ (Array.toList r78) fun H_82 => br r70 (br ((r60 : Int) == (0 : Int)) (∃ v83 : Array Value, v83.size = 4 ∧ rowIn H_82 ⟨b52, 0, none⟩ v83 ∧ ∃ v84 : Array Value, v84.size = 4 ∧ rowIn H_82 ⟨b61, 0, none⟩ v84 ∧ CallsH Try.prog 30 #[Value.agg v83, Value.agg v84] H_82 fun r85 H_86 => ∃ r87 : Bool, r85 = Value.bool r87 ∧ br r87 (br ((r79 : Int) == (0 : Int)) (∃ v88 : Array Value, v88.size = 4 ∧ rowIn H_86 ⟨b80, 0, none⟩ v88 ∧ ∃ v89 : Array Value, v89.size = 4 ∧ rowIn H_86 ⟨b61, 0, none⟩ v89 ∧ CallsH Try.prog 30 #[Value.agg v88, Value.agg v89] H_86 fun r90 H_91 => ∃ r92 : Bool, r90 = Value.bool r92 ∧ R (Value.bool r92) H_91) (R (Value.bool false) H_86)) (R (Value.bool false) H_86)) (R (Value.bool false) H_82)) (R (Value.bool false) H_82)) → J_64 [] H_65) →
       br (((doD (oneD ras0) (paE xs x y w h)).1 : Int) != (0 : Int)) (R (Value.bool true) H_63) (br ((r51 : Int) != (0 : Int))
       (R (Value.bool true) H_63)
       (J_64 [] H_63)) := fun {A3 D3 H49} hd3 hs49 r51 h51 => by
    refine hs49.alc fun b52 H53 hs53 => ⟨hd3.size, hs53.putAll 0 rfl hd3.size hd3.one fun H54 hs54 => ⟨_, hd1.size, rowIn_whole (hs54.block 8 rfl), _, rfl, rowIn_whole (hs54.block 4 rfl), do_st hs54 (hs54.doc 6 rfl) hi1 hnx (f2 _ hs54.ext) fun A4 H58 hd4 hs58 => ⟨_, _, rfl, ?_⟩⟩⟩
    refine hs58.alc fun b61 H62 hs62 => ⟨hd4.size, hs62.putAll 0 rfl hd4.size hd4.one fun H63 hs63 => ?_⟩
    intro J64 hJ64
    refine br_ne (fun _ => hR _ hs63.ext) fun g1 => br_ne (fun _ => hR _ hs63.ext) fun g2 => hJ64 _ ?_
    have h0 : (paintF (paE xs x y w h) ras0).1 = 0 := by
      rw [hp1] at g1
      by_cases hh : (paintF (paE xs x y w h) ras0).1 = 0
      · exact hh
      · rw [if_pos hh] at g1; exact g1
    obtain ⟨hD3, h51'⟩ := h51 h0
    rw [hfst h0] at hD3 h51'
    have hp3 := one_paint (f := { ras0 with p := paintP (paE xs x y w h) 6 ras0.p }) rfl ys x y w h
    have hk2 : (paintF (paE ys x y w h) { ras0 with p := paintP (paE xs x y w h) 6 ras0.p }).1 = (paintF (paE ys x y w h) ras0).1 := paint_fst rfl
    have h00 : (paintF (paE ys x y w h) ras0).1 = 0 := by
      rw [h51', hp3] at g2
      rw [← hk2]
      by_cases hh : (paintF (paE ys x y w h) { ras0 with p := paintP (paE xs x y w h) 6 ras0.p }).1 = 0
      · exact hh
      · rw [if_pos hh] at g2; exact g2
    have hC : doD (oneD ras0) (paE ys x y w h) = (0, oneD { ras0 with p := paintP (paE ys x y w h) 6 ras0.p }) := by rw [hp2, if_neg (fun hh => hh h00), paint_ok h00]; rfl
    have hB : D3 = oneD { ras0 with p := paintP (paE ys x y w h) 6 ras0.p } := by
      rw [hD3, hp3, if_neg (by rw [hk2]; exact fun hh => hh h00), paint_ok (by rw [hk2]; exact h00)]
      show oneD { ras0 with p := paintP (paE ys x y w h) 6 (paintP (paE xs x y w h) 6 ras0.p) } = _
      rw [paint_twice]
    have hiC : Inv (oneD { ras0 with p := paintP (paE ys x y w h) 6 ras0.p }) := by
      have := do_inv hi1 (e := paE ys x y w h) (by rw [hC])
      rw [hC] at this; exact this
    subst hB
    rw [hC] at hs63
    generalize hcp : paintP (paE ys x y w h) 6 ras0.p = cp at hiC hs63 hC
    have hcl : cp.length = 36 := by rw [← hcp]; unfold paintP; rw [List.length_map, List.length_range]; rfl
    have hras := (one_inv hiC).ras rfl
    have hfind : findL (oneD { ras0 with p := cp }).ks 1 = some (.mk { ras0 with p := cp } []) := rfl
    have hdc := hs63.doc 1 rfl
    refine ⟨_, hd4.size, rowIn_whole (hs63.block 0 rfl), find_st hs63 hdc hiC (fun hno => by rw [hfind] at hno; cases hno) fun lf hlf B H68 hlr hs68 => ⟨_, _, rfl, ?_⟩⟩
    rw [hfind] at hlf
    cases hlf
    refine hs68.alc fun b71 H72 hs72 => ⟨hlr.size, hs72.putAll 0 rfl (by rw [Array.length_toList, hlr.size]; rfl) hlr.one fun H73 hs73 => ?_⟩
    obtain ⟨t, htB, htr, htl⟩ := hs73.lay 1 rfl
    rw [htB] at hs73
    cases t with | mk tf tP tM tA tK tks =>
    have htf : tf = { ras0 with p := cp } := by have := congrArg Lay.f htl; exact this
    have htp : IS H73 tP.p tP.l (ints cp) := by have := htr.1; rw [htf] at this; exact this
    refine ⟨_, hd4.size, rowIn_whole (hs73.block 2 rfl), tP.p, tP.l, tP.c, hs73.get 0 rfl (j := 7) rfl, ?_⟩
    have hself : doD (oneD { ras0 with p := cp }) (paE cp 0 0 6 6) = (0, oneD { ras0 with p := cp }) := by
      have h1 := one_paint (f := { ras0 with p := cp }) rfl cp 0 0 6 6
      have h2 : paintF (paE cp 0 0 6 6) { ras0 with p := cp } = (0, { ras0 with p := cp }) := by
        unfold paintF
        rw [if_neg (fun hh => hh rfl), if_neg (by show ¬ ((6 : Int) < 1 ∨ (6 : Int) < 1 ∨ (6 : Int) > 32768 ∨ (6 : Int) > 32768 ∨ (cp.length : Int) ≠ 6 * 6); rw [hcl]; decide), if_neg, if_neg (by show ¬ ((0 : Int) < -32768 ∨ (0 : Int) > 32768 ∨ (0 : Int) < -32768 ∨ (0 : Int) > 32768); decide)]
        · show (0, ({ ras0 with p := paintP (paE cp 0 0 6 6) 6 cp } : LayF)) = _
          rw [paint_self cp hcl]
        · intro hh
          obtain ⟨v, hv, hb⟩ := List.any_eq_true.1 hh
          have := List.all_eq_true.1 hras.2.2.1 v hv
          rw [this] at hb; cases hb
      rw [h1, h2]; rfl
    refine do_st (e := paE cp 0 0 6 6) (s := ⟨tP, .nil, .nil⟩) hs73 (hs73.doc 3 rfl) hiC (by show (2 : Int) ≤ 1000000000000000; decide) (paE_ok htp tP.c 0 0 6 6) fun A5 H77 hd5 hs77 => ⟨_, _, rfl, ?_⟩
    refine hs77.alc fun b80 H81 hs81 => ⟨hd5.size, hs81.putAll 0 rfl hd5.size hd5.one fun H82 hs82 => ?_⟩
    rw [hself] at hs82 ⊢
    rw [show (doD (oneD ras0) (paE ys x y w h)).1 = 0 from by rw [hC]]
    have hok := hiC.ok
    refine br_true (br_eq (fun _ => ?_) fun hh => absurd rfl hh)
    have hcn := hiC.cnt
    have hcn2 : cntKs (oneD { ras0 with p := cp }).ks ≤ 1000000000 := by omega
    refine ⟨_, hd3.size, rowIn_whole (hs82.block 6 rfl), _, hd4.size, rowIn_whole (hs82.block 4 rfl), c30 (hs82.doc 7 rfl) (hs82.doc 5 rfl) hok hcn2 fun H86 he86 => ⟨_, rfl, ?_⟩⟩
    rw [sameD_iff.2 rfl]
    have hs86 := hs82.step he86
    refine br_true (br_eq (fun _ => ?_) fun hh => absurd rfl hh)
    refine ⟨_, hd5.size, rowIn_whole (hs86.block 0 rfl), _, hd4.size, rowIn_whole (hs86.block 4 rfl), c30 (hs86.doc 1 rfl) (hs86.doc 5 rfl) hok hcn2 fun H91 he91 => ⟨_, rfl, ?_⟩⟩
    rw [sameD_iff.2 rfl]
    exact hR _ (hs86.step he91).ext
  by_cases h0 : (paintF (paE xs x y w h) ras0).1 = 0
  · have hD2 := hfst h0
    have hi2 : Inv (doD (oneD ras0) (paE xs x y w h)).2 := do_inv hi1 (by rw [hp1, if_neg (fun hh => hh h0)])
    refine do_st hs45 (hs45.doc 1 rfl) hi2 (by rw [hD2]; show (2 : Int) ≤ 1000000000000000; decide) (f2 _ hs45.ext) fun A3 H49 hd3 hs49 => ⟨_, _, rfl, second hd3 hs49 _ fun _ => ⟨rfl, rfl⟩⟩
  · have hz : (doD (oneD ras0) (paE xs x y w h)).2 = zeroD := by rw [hp1, if_pos h0]
    have hdz : DocR H45 A2 zeroD := by rw [← hz]; exact hs45.doc 1 rfl
    refine zero_do hs45 hdz (by show (4 : Int) ≠ 7; decide) (f2 _ hs45.ext) fun A3 H49 hd3 hs49 => ⟨_, _, rfl, second hd3 hs49 _ fun hh => absurd hh h0⟩

end Go.Proofs

/-
  OWN WORK. A slice of bytes that comes in, opened.
-/
set_option linter.unusedVariables false
set_option linter.unusedSimpArgs false
namespace Go.Proofs
open Go.Sh Go.RowKit Go.ChangeShapes Go.WideShapes Go.ChangeAt

theorem wf_range8 {a : Int} (h : (Lit.int .u8 a).wf = true) : 0 ≤ a ∧ a < 256 := by
  have : 0 ≤ a ∧ a ≤ 255 := by simpa [Lit.wf, IntKind.min, IntKind.max, IntKind.signed, IntKind.bits] using h
  omega

theorem bytesAt {H : Type} {enc : TypeId × Value → H} {W : World} {fuel : Nat} {a0 : Option Addr} {len cap : Nat} {x : DataW H × List MemPlace} (hf : DataW.trod enc Try.prog W 0 (fun _ => true) true fuel 56 [.slice a0 len cap] = some x) :
    ∃ ls, len ≤ cap ∧ IS W.heap a0 len (kints .u8 ls) ∧ ∀ n ∈ ls, 0 ≤ n ∧ n < 256 := by
  rcases open_ints Try.underlying56 Try.underlying5 (by kernel_rfl) hf with ⟨hcs, _⟩ | ⟨a, len2, cap2, zs, hcs, _, hl, _, hz, _, hc, hw⟩
  · simp at hcs
    obtain ⟨rfl, rfl, rfl⟩ := hcs
    exact ⟨[], Nat.le_refl _, ⟨rfl, fun i v hv => by simp [kints] at hv⟩, fun n hn => by simp at hn⟩
  · simp at hcs
    obtain ⟨rfl, rfl, rfl⟩ := hcs
    have hzl : len ≤ zs.length := by rw [hz]; simp; omega
    refine ⟨zs.take len, hl, ⟨by rw [kints_len]; simp; omega, fun i v hv => ⟨a, rfl, ?_⟩⟩, fun n hn => wf_range8 (hw n (List.mem_of_mem_take hn))⟩
    have hi : i < len := by have := (List.getElem?_eq_some_iff.1 hv).1; rw [kints_len] at this; simp at this; omega
    have := hc i (by omega)
    rw [cell_eq] at this
    rw [this]
    have hg : (zs.take len)[i]? = some (zs.getD i 0) := by
      rw [List.getElem?_take_of_lt hi, List.getD_eq_getElem?_getD, List.getElem?_eq_getElem (by omega)]; rfl
    rw [kints_get hg] at hv
    exact hv

set_option maxRecDepth 100000 in
theorem bytesIn_of {H : Type} {enc : TypeId × Value → H} {W : World} {v : Value} {d : DataW H} {ps : List MemPlace} {base : Nat} (hv : Value.okWide Try.prog W .any base 56 v) (h : DataW.Trod enc Try.prog W 0 (fun _ => true) true 56 v d ps) :
    ∃ a l c ls, v = .slice a l c ∧ l ≤ c ∧ IS W.heap a l (kints .u8 ls) ∧ ∀ n ∈ ls, 0 ≤ n ∧ n < 256 := by
  obtain ⟨a0, len, cap, rfl⟩ := okWide_slice Try.underlying56 hv
  obtain ⟨fuel, hf⟩ := h
  obtain ⟨ls, h1, h2, h3⟩ := bytesAt hf
  exact ⟨a0, len, cap, ls, rfl, h1, h2, h3⟩

end Go.Proofs

/-
  OWN WORK. Edits and shapes that come in, opened.
-/
set_option linter.unusedVariables false
set_option linter.unusedSimpArgs false
set_option maxRecDepth 10000
namespace Go.Proofs
open Go.Sh Go.RowKit Go.ChangeShapes Go.WideShapes Go.ChangeAt Go.Deep

section
variable {H : Type} {enc : TypeId × Value → H} {W : World}

abbrev TrP (enc : TypeId × Value → H) (W : World) (fuel : Nat) (t : TypeId) (cs : List Value) (x : DataW H × List MemPlace) : Prop := DataW.trod enc Try.prog W 0 (fun _ => true) true fuel t cs = some x

theorem intsAt {fuel : Nat} {a0 : Option Addr} {len cap : Nat} {x : DataW H × List MemPlace} (hf : TrP enc W fuel 38 [.slice a0 len cap] x) : ∃ ls, len ≤ cap ∧ IS W.heap a0 len (ints ls) := by
  rcases open_ints Try.underlying38 Try.underlying3 (by kernel_rfl) hf with ⟨hcs, _⟩ | ⟨a, len2, cap2, zs, hcs, _, hl, _, hz, _, hc, hw⟩
  · simp at hcs
    obtain ⟨rfl, rfl, rfl⟩ := hcs
    exact ⟨[], Nat.le_refl _, ⟨rfl, fun i v hv => by simp [ints] at hv⟩⟩
  · simp at hcs
    obtain ⟨rfl, rfl, rfl⟩ := hcs
    have hzl : len ≤ zs.length := by rw [hz]; simp; omega
    refine ⟨zs.take len, hl, ⟨by rw [ints_len]; simp; omega, fun i v hv => ⟨a, rfl, ?_⟩⟩⟩
    have hi : i < len := by have := (List.getElem?_eq_some_iff.1 hv).1; rw [ints_len] at this; simp at this; omega
    have := hc i (by omega)
    rw [cell_eq] at this
    rw [this]
    have hg : (zs.take len)[i]? = some (zs.getD i 0) := by
      rw [List.getElem?_take_of_lt hi, List.getD_eq_getElem?_getD, List.getElem?_eq_getElem (by omega)]; rfl
    rw [ints_get hg] at hv
    exact hv

/-- A field, opened. -/
theorem fieldAt {t : TypeId} {fs : Array Field} {fuel : Nat} {cs : List Value} {x : DataW H × List MemPlace} (hs : Try.prog.underlying t = some (.struct fs)) (h : TrP enc W fuel t cs x) (i : Nat) {f : Field} {o ty c : Nat} (hf : fs[i]? = some f) (ho : f.offset = o) (ht : f.type = ty) (hc : Try.prog.cellsOf ty = c) :
    ∃ n y, n < fuel ∧ TrP enc W n ty ((cs.drop o).take c) y := by
  obtain ⟨xs, n, hfu, _, hl, hlen, hg⟩ := DataW.trod_struct hs h
  have := hg i f hf
  have hi := (Array.getElem?_eq_some_iff.1 hf).1
  rw [List.getElem?_eq_getElem (by omega), ho, ht, hc] at this
  exact ⟨n, _, by omega, this⟩
theorem one_get {cs : List Value} {o : Nat} {v : Value} (h : (cs.drop o).take 1 = [v]) : cs[o]? = some v := by
  have h4 : ((cs.drop o).take 1)[0]? = some v := by rw [h]; rfl
  rw [List.getElem?_take_of_lt (by omega), List.getElem?_drop] at h4
  simpa using h4
theorem intF {n : Nat} {cs : List Value} {o : Nat} {y : DataW H × List MemPlace} (h : TrP enc W n 3 ((cs.drop o).take 1) y) : ∃ m : Int, cs[o]? = some (.int .i64 m) := by
  obtain ⟨m, hm, _, _⟩ := DataW.trod_int Try.underlying3 h
  exact ⟨m, one_get hm⟩
theorem boolF {n : Nat} {cs : List Value} {o : Nat} {y : DataW H × List MemPlace} (h : TrP enc W n 4 ((cs.drop o).take 1) y) : ∃ m : Bool, cs[o]? = some (.bool m) := by
  obtain ⟨m, hm, _⟩ := DataW.trod_bool Try.underlying4 h
  exact ⟨m, one_get hm⟩
theorem slF {t e n : Nat} {cs : List Value} {o : Nat} {y : DataW H × List MemPlace} (ht : Try.prog.underlying t = some (.slice e)) (h : TrP enc W n t ((cs.drop o).take 1) y) : ∃ s : Sl3, cs[o]? = some s.v ∧ TrP enc W n t [s.v] y := by
  rcases DataW.trod_slice ht h with ⟨h0, _⟩ | ⟨a, len, cap, elems, rest, m, _, h0, _⟩
  · rw [h0] at h; exact ⟨.nil, one_get h0, h⟩
  · rw [h0] at h; exact ⟨⟨some a, len, cap⟩, one_get h0, h⟩
theorem list19 {α : Type} {l : List α} (h : l.length = 19) : ∃ a b c d e f g i j k m n o p q r s t u, l = [a, b, c, d, e, f, g, i, j, k, m, n, o, p, q, r, s, t, u] := by
  match l, h with
  | [a, b, c, d, e, f, g, i, j, k, m, n, o, p, q, r, s, t, u], _ => exact ⟨a, b, c, d, e, f, g, i, j, k, m, n, o, p, q, r, s, t, u, rfl⟩
/-- Six numbers. -/
theorem sixF {t n : Nat} {cs : List Value} {o : Nat} {y : DataW H × List MemPlace} (ht : Try.prog.underlying t = some (.array 6 3)) (h : TrP enc W n t ((cs.drop o).take 6) y) :
    ∃ m : M6, cs[o]? = some (.int .i64 m.a) ∧ cs[o + 1]? = some (.int .i64 m.b) ∧ cs[o + 2]? = some (.int .i64 m.c) ∧ cs[o + 3]? = some (.int .i64 m.d) ∧ cs[o + 4]? = some (.int .i64 m.e) ∧ cs[o + 5]? = some (.int .i64 m.f) := by
  obtain ⟨xs, m, _, _, hl, hlen, hg⟩ := DataW.trod_array ht h
  have hc : Try.prog.cellsOf 3 = 1 := by kernel_rfl
  have each : ∀ i, i < 6 → ∃ z : Int, cs[o + i]? = some (.int .i64 z) := fun i hi => by
    have := hg i hi
    rw [hc, Nat.mul_one, List.getElem?_eq_getElem (by omega)] at this
    obtain ⟨z, hz⟩ := intF this
    rw [List.getElem?_take_of_lt hi, List.getElem?_drop] at hz
    exact ⟨z, hz⟩
  obtain ⟨a, ha⟩ := each 0 (by omega)
  obtain ⟨b, hb⟩ := each 1 (by omega)
  obtain ⟨c, hc⟩ := each 2 (by omega)
  obtain ⟨d, hd⟩ := each 3 (by omega)
  obtain ⟨e, he⟩ := each 4 (by omega)
  obtain ⟨f, hf⟩ := each 5 (by omega)
  exact ⟨⟨a, b, c, d, e, f⟩, ha, hb, hc, hd, he, hf⟩

theorem ptAt {n : Nat} {cs : List Value} {y : DataW H × List MemPlace} (h : TrP enc W n 79 cs y) : ∃ p : Pt, cs = [.int .i64 p.1, .int .i64 p.2] := by
  obtain ⟨_, _, _, h0⟩ := fieldAt (o := 0) (ty := 3) (c := 1) Try.underlying79 h 0 rfl rfl rfl (by kernel_rfl)
  obtain ⟨_, _, _, h1⟩ := fieldAt (o := 1) (ty := 3) (c := 1) Try.underlying79 h 1 rfl rfl rfl (by kernel_rfl)
  obtain ⟨x, hx⟩ := intF h0
  obtain ⟨y, hy⟩ := intF h1
  obtain ⟨xs, m, _, _, hl, _⟩ := DataW.trod_struct Try.underlying79 h
  have hl2 : cs.length = 2 := by rw [hl]; kernel_rfl
  match cs, hl2 with
  | [a, b], _ =>
    simp only [List.getElem?_cons_zero, List.getElem?_cons_succ, Option.some.injEq] at hx hy
    subst hx; subst hy
    exact ⟨(x, y), rfl⟩
theorem choose_list {α : Type} {P : Nat → α → Prop} {n : Nat} [Inhabited α] (h : ∀ i, i < n → ∃ x, P i x) : ∃ l : List α, l.length = n ∧ ∀ i x, l[i]? = some x → P i x := by
  obtain ⟨f, hf⟩ : ∃ f : Nat → α, ∀ i, i < n → P i (f i) := by
    have : ∀ i, ∃ x, i < n → P i x := fun i => by
      by_cases hi : i < n
      · obtain ⟨x, hx⟩ := h i hi; exact ⟨x, fun _ => hx⟩
      · exact ⟨default, fun h => absurd h hi⟩
    exact Classical.axiomOfChoice this
  refine ⟨(List.range n).map f, by simp, fun i x hx => ?_⟩
  have hi : i < n := by have := (List.getElem?_eq_some_iff.1 hx).1; simpa using this
  simp [hi] at hx
  subst hx
  exact hf i hi
theorem ptsAt {fuel : Nat} {s : Sl3} {x : DataW H × List MemPlace} (hf : TrP enc W fuel 39 [s.v] x) : ∃ pts : List Pt, s.l ≤ s.c ∧ IS2 W.heap s.p s.l pts := by
  rcases open_slice Try.underlying39 hf with ⟨hcs, _⟩ | ⟨a, len', cap', m, n, D, Pl, hcs, _, hl, hm, hmm, _, hx⟩
  · obtain ⟨p, l, c⟩ := s
    simp only [Sl3.v, List.cons.injEq, Value.slice.injEq, and_true] at hcs
    obtain ⟨rfl, rfl, rfl⟩ := hcs
    exact ⟨[], Nat.le_refl _, IS2.nil _⟩
  · obtain ⟨p, l, c⟩ := s
    simp only [Sl3.v, List.cons.injEq, Value.slice.injEq, and_true] at hcs
    obtain ⟨rfl, rfl, rfl⟩ := hcs
    have hml : l ≤ m := by rw [hmm]; simp; omega
    obtain ⟨pts, hlen, hpts⟩ := choose_list (P := fun i (p : Pt) => rowIn W.heap (a.add (i * 2)) #[.int .i64 p.1, .int .i64 p.2]) (n := l) fun i hi => by
      obtain ⟨cs, h1, h2⟩ := hx i (by omega)
      rw [show Try.prog.cellsOf 79 = 2 from by kernel_rfl] at h1
      obtain ⟨p, rfl⟩ := ptAt h2
      obtain ⟨_, _, hc⟩ := World.cells?_some h1
      refine ⟨p, fun j v hv => ?_⟩
      have hj : j < 2 := (Array.getElem?_eq_some_iff.1 hv).1
      have := hc j hj
      rw [cell_eq] at this
      rw [this]
      simpa using hv
    exact ⟨pts, hl, hlen, fun i x y hi => ⟨a, rfl, hpts i (x, y) hi⟩⟩

/-- An edit. -/
theorem edAt {fuel : Nat} {cs : List Value} {x : DataW H × List MemPlace} (h : TrP enc W fuel 43 cs x) : ∃ e s, cs = edL e s ∧ rdEd W.heap e s := by
  have hu := Try.underlying43
  obtain ⟨_, _, _, h0⟩ := fieldAt (o := 0) (ty := 3) (c := 1) hu h 0 rfl rfl rfl (by kernel_rfl)
  obtain ⟨_, _, _, h1⟩ := fieldAt (o := 1) (ty := 3) (c := 1) hu h 1 rfl rfl rfl (by kernel_rfl)
  obtain ⟨_, _, _, h2⟩ := fieldAt (o := 2) (ty := 3) (c := 1) hu h 2 rfl rfl rfl (by kernel_rfl)
  obtain ⟨_, _, _, h3⟩ := fieldAt (o := 3) (ty := 3) (c := 1) hu h 3 rfl rfl rfl (by kernel_rfl)
  obtain ⟨_, _, _, h4⟩ := fieldAt (o := 4) (ty := 3) (c := 1) hu h 4 rfl rfl rfl (by kernel_rfl)
  obtain ⟨_, _, _, h5⟩ := fieldAt (o := 5) (ty := 3) (c := 1) hu h 5 rfl rfl rfl (by kernel_rfl)
  obtain ⟨_, _, _, h6⟩ := fieldAt (o := 6) (ty := 3) (c := 1) hu h 6 rfl rfl rfl (by kernel_rfl)
  obtain ⟨_, _, _, h7⟩ := fieldAt (o := 7) (ty := 3) (c := 1) hu h 7 rfl rfl rfl (by kernel_rfl)
  obtain ⟨_, _, _, h8⟩ := fieldAt (o := 8) (ty := 3) (c := 1) hu h 8 rfl rfl rfl (by kernel_rfl)
  obtain ⟨_, _, _, h9⟩ := fieldAt (o := 9) (ty := 3) (c := 1) hu h 9 rfl rfl rfl (by kernel_rfl)
  obtain ⟨_, _, _, h10⟩ := fieldAt (o := 10) (ty := 38) (c := 1) hu h 10 rfl rfl rfl (by kernel_rfl)
  obtain ⟨_, _, _, h11⟩ := fieldAt (o := 11) (ty := 39) (c := 1) hu h 11 rfl rfl rfl (by kernel_rfl)
  obtain ⟨_, _, _, h12⟩ := fieldAt (o := 12) (ty := 41) (c := 6) hu h 12 rfl rfl rfl (by kernel_rfl)
  obtain ⟨_, _, _, h13⟩ := fieldAt (o := 18) (ty := 38) (c := 1) hu h 13 rfl rfl rfl (by kernel_rfl)
  obtain ⟨v0, g0⟩ := intF h0
  obtain ⟨v1, g1⟩ := intF h1
  obtain ⟨v2, g2⟩ := intF h2
  obtain ⟨v3, g3⟩ := intF h3
  obtain ⟨v4, g4⟩ := intF h4
  obtain ⟨v5, g5⟩ := intF h5
  obtain ⟨v6, g6⟩ := intF h6
  obtain ⟨v7, g7⟩ := intF h7
  obtain ⟨v8, g8⟩ := intF h8
  obtain ⟨v9, g9⟩ := intF h9
  obtain ⟨P, g10, t10⟩ := slF Try.underlying38 h10
  obtain ⟨S, g11, t11⟩ := slF Try.underlying39 h11
  obtain ⟨m, ga, gb, gc, gd, ge, gf⟩ := sixF Try.underlying41 h12
  obtain ⟨A, g18, t18⟩ := slF Try.underlying38 h13
  obtain ⟨ps, _, hps⟩ := intsAt t10
  obtain ⟨pts, _, hpts⟩ := ptsAt t11
  obtain ⟨qs, _, hqs⟩ := intsAt t18
  obtain ⟨xs, k, _, _, hl, _⟩ := DataW.trod_struct hu h
  have hl2 : cs.length = 19 := by rw [hl]; kernel_rfl
  refine ⟨⟨v0, v1, v2, v3, v4, v5, v6, v7, v8, v9, ps, pts, m, qs⟩, ⟨P, S, A⟩, ?_, ⟨hps, hpts, hqs⟩⟩
  obtain ⟨a, b, c, d, e, f, g, i, j, k, m', n, o, p, q, r, s, t, u, rfl⟩ := list19 hl2
  simp only [List.getElem?_cons_zero, List.getElem?_cons_succ, Option.some.injEq] at g0 g1 g2 g3 g4 g5 g6 g7 g8 g9 g10 g11 ga gb gc gd ge gf g18
  subst g0 g1 g2 g3 g4 g5 g6 g7 g8 g9 g10 g11 ga gb gc gd ge gf g18
  rfl
instance : Inhabited (Ed × EdS) := ⟨⟨0, 0, 0, 0, 0, 0, 0, 0, 0, 0, [], [], ⟨0, 0, 0, 0, 0, 0⟩, []⟩, ⟨.nil, .nil, .nil⟩⟩

theorem editsIn_of {v : Value} {d : DataW H} {ps : List MemPlace} {base : Nat} (hv : Value.okWide Try.prog W .any base 22 v) (h : DataW.Trod enc Try.prog W 0 (fun _ => true) true 22 v d ps) :
    ∃ a l c es, v = .slice a l c ∧ l ≤ c ∧ EdsR W.heap a l es := by
  obtain ⟨a0, len, cap, rfl⟩ := okWide_slice Try.underlying22 hv
  obtain ⟨fuel, hf⟩ := h
  rcases open_slice Try.underlying22 hf with ⟨hcs, _⟩ | ⟨a, len', cap', m, n, D, Pl, hcs, _, hl, hm, hmm, _, hx⟩
  · simp only [Value.cells] at hcs
    simp at hcs
    obtain ⟨rfl, rfl, rfl⟩ := hcs
    exact ⟨none, 0, 0, [], rfl, Nat.le_refl _, rfl, fun i e s hx => by simp at hx⟩
  · simp only [Value.cells] at hcs
    simp at hcs
    obtain ⟨rfl, rfl, rfl⟩ := hcs
    have hml : len ≤ m := by rw [hmm]; simp; omega
    obtain ⟨es, hlen, hes⟩ := choose_list (P := fun i (x : Ed × EdS) => rowIn W.heap (a.add (i * 19)) (edL x.1 x.2).toArray ∧ rdEd W.heap x.1 x.2) (n := len) fun i hi => by
      obtain ⟨cs, h1, h2⟩ := hx i (by omega)
      rw [show Try.prog.cellsOf 43 = 19 from by kernel_rfl] at h1
      obtain ⟨e, s, rfl, hrd⟩ := edAt h2
      obtain ⟨_, _, hc⟩ := World.cells?_some h1
      refine ⟨(e, s), fun j v hv => ?_, hrd⟩
      have hj : j < 19 := (Array.getElem?_eq_some_iff.1 hv).1
      have := hc j hj
      rw [cell_eq] at this
      rw [this]
      simpa using hv
    exact ⟨some a, len, cap, es, rfl, hl, hlen, fun i e s hi => let ⟨h1, h2⟩ := hes i (e, s) hi; ⟨a, rfl, h1, h2⟩⟩
theorem editIn_of {v : Value} {d : DataW H} {ps : List MemPlace} {base : Nat} (hv : Value.okWide Try.prog W .any base 43 v) (h : DataW.Trod enc Try.prog W 0 (fun _ => true) true 43 v d ps) :
    ∃ e s, v = .agg (edL e s).toArray ∧ rdEd W.heap e s := by
  obtain ⟨cs, rfl, _⟩ := okWide_struct Try.underlying43 hv
  obtain ⟨fuel, hf⟩ := h
  obtain ⟨e, s, h1, h2⟩ := edAt hf
  have h1 : cs.toList = edL e s := h1
  exact ⟨e, s, by rw [← h1], h2⟩
theorem shapeIn_of {v : Value} {d : DataW H} {ps : List MemPlace} {base : Nat} (hv : Value.okWide Try.prog W .any base 39 v) (h : DataW.Trod enc Try.prog W 0 (fun _ => true) true 39 v d ps) :
    ∃ a l c pts, v = .slice a l c ∧ l ≤ c ∧ IS2 W.heap a l pts := by
  obtain ⟨a0, len, cap, rfl⟩ := okWide_slice Try.underlying39 hv
  obtain ⟨fuel, hf⟩ := h
  obtain ⟨pts, h1, h2⟩ := ptsAt (s := ⟨a0, len, cap⟩) hf
  exact ⟨a0, len, cap, pts, rfl, h1, h2⟩
theorem intsIn_of {v : Value} {d : DataW H} {ps : List MemPlace} {base : Nat} (hv : Value.okWide Try.prog W .any base 38 v) (h : DataW.Trod enc Try.prog W 0 (fun _ => true) true 38 v d ps) :
    ∃ a l c ls, v = .slice a l c ∧ l ≤ c ∧ IS W.heap a l (ints ls) := by
  obtain ⟨a0, len, cap, rfl⟩ := okWide_slice Try.underlying38 hv
  obtain ⟨fuel, hf⟩ := h
  obtain ⟨ls, h1, h2⟩ := intsAt hf
  exact ⟨a0, len, cap, ls, rfl, h1, h2⟩
end

end Go.Proofs
