/-
  OWN WORK. Several texts in one: GFunF, GFunG, GFunH, GFunI, GFunJ, GFun, TrB, TrC.
-/
import Derived.Test.YtgkfijgdkegdkaaGreatMgRenderOverB

set_option linter.unusedVariables false
set_option maxRecDepth 100000
set_option linter.unusedSimpArgs false
namespace Go.Proofs
open Go.Sh Go.Sh.Plan
open Go.IntKind (wrap)
open Int (toNat)
def Tryz.S47 (d1 e2 : AV) (H : Heap) (R : Kv) : Prop :=
 alc H (.cells d1 29) fun b3 H4 => alc H4 (.cells e2 73) fun b5 H6 => alc H6 (.cells #[.int .i64 0, .int .i64 0, .int .i64 0, .slice none 0 0] 29) fun b7 H8 => ∀ J9 : Kl, (∀ H10, (∃ Ne11, cell H10 (.add ⟨b3, 0, none⟩ 2) = some (.int .i64 Ne11) ∧ ∃ N12, cell H10 (.add ⟨b5, 0, none⟩ 4) = some (.int .i64 N12) ∧ ∃ To13, cell H10 (.add ⟨b5, 0, none⟩ 2) = some (.int .i64 To13) ∧ #[Value.int .i64 65536, Value.int .i64 0, Value.int .i64 0, Value.int .i64 65536, Value.int .i64 0, Value.int .i64 0].size = 6 ∧ 10 + 6 ≤ 19 ∧ alc H10 (.cells #[.int .i64 0, .int .i64 0, .int .i64 0, .bool false, .int .i64 0, .int .i64 0, .int .i64 0, .int .i64 0, .slice none 0 0, .slice none 0 0, .int .i64 0, .int .i64 0, .int .i64 0, .int .i64 0, .int .i64 0, .int .i64 0, .bool false, .int .i64 0, .slice none 0 0] 101) fun b14 H15 => (List.toArray (List.set (setL [.int .i64 Ne11, .int .i64 N12, .int .i64 To13, .bool false, .int .i64 255, .int .i64 0, .int .i64 0, .int .i64 0, .slice none 0 0, .slice none 0 0, .int .i64 0, .int .i64 0, .int .i64 0, .int .i64 0, .int .i64 0, .int .i64 0, .bool false, .int .i64 0, .slice none 0 0] 10 (Array.toList #[.int .i64 65536, .int .i64 0, .int .i64 0, .int .i64 65536, .int .i64 0, .int .i64 0])) 17 (.int .i64 2))).size = 19 ∧ stAt H15 ⟨b14, 0, none⟩ (Array.toList (List.toArray (List.set (setL [.int .i64 Ne11, .int .i64 N12, .int .i64 To13, .bool false, .int .i64 255, .int .i64 0, .int .i64 0, .int .i64 0, .slice none 0 0, .slice none 0 0, .int .i64 0, .int .i64 0, .int .i64 0, .int .i64 0, .int .i64 0, .int .i64 0, .bool false, .int .i64 0, .slice none 0 0] 10 (Array.toList #[.int .i64 65536, .int .i64 0, .int .i64 0, .int .i64 65536, .int .i64 0, .int .i64 0])) 17 (.int .i64 2)))) fun H16 => ∀ J17 : Kl, (∀ H18, (∃ v19, v19.size = 4 ∧ rowIn H18 ⟨b3, 0, none⟩ v19 ∧ ∃ To20, cell H18 (.add ⟨b5, 0, none⟩ 2) = some (.int .i64 To20) ∧ Tryz.C 83 #[.agg v19, .int .i64 To20] H18 fun r21 H22 => ∃ f23, r21 = .int .i64 f23 ∧ br (f23 != 0)
 (∃ v24, v24.size = 4 ∧ rowIn H22 ⟨b3, 0, none⟩ v24 ∧ v24.size = 4 ∧ stAt H22 ⟨b7, 0, none⟩ v24.toList fun H25 => ∃ re26, re26.size = 4 ∧ rowIn H25 ⟨b7, 0, none⟩ re26 ∧ R (.tuple #[.agg re26, .int .i64 f23]) H25)
 (∃ L27p L27l L27c, cell H22 (.add ⟨b3, 0, none⟩ 3) = some (.slice L27p L27l L27c) ∧ ∃ v28, v28.size = 4 ∧ rowIn H22 ⟨b3, 0, none⟩ v28 ∧ ∃ v29, v29.size = 19 ∧ rowIn H22 ⟨b14, 0, none⟩ v29 ∧ ∃ At30, cell H22 (.add ⟨b5, 0, none⟩ 3) = some (.int .i64 At30) ∧ Tryz.C 84 #[.agg v28, .agg v29, .int .i64 At30] H22 fun r31 H32 => ∃ r33 r34, r31 = .tuple #[.agg r33, .int .i64 r34] ∧ alc H32 (.cells #[.int .i64 0, .int .i64 0, .int .i64 0, .slice none 0 0] 29) fun b35 H36 => r33.size = 4 ∧ stAt H36 ⟨b35, 0, none⟩ r33.toList fun H37 => br (r34 != 0)
 (∃ v38, v38.size = 4 ∧ rowIn H37 ⟨b3, 0, none⟩ v38 ∧ v38.size = 4 ∧ stAt H37 ⟨b7, 0, none⟩ v38.toList fun H39 => ∃ re40, re40.size = 4 ∧ rowIn H39 ⟨b7, 0, none⟩ re40 ∧ R (.tuple #[.agg re40, .int .i64 r34]) H39)
 (∀ J41 : Kl, (∀ H42, (∃ Ne43, cell H42 (.add ⟨b35, 0, none⟩ 2) = some (.int .i64 Ne43) ∧ stAt H42 (.add ⟨b35, 0, none⟩ 2) [.int .i64 (wrap .i64 (Ne43 + 1))] fun H44 => ∃ v45, v45.size = 4 ∧ rowIn H44 ⟨b35, 0, none⟩ v45 ∧ v45.size = 4 ∧ stAt H44 ⟨b7, 0, none⟩ v45.toList fun H46 => ∃ re47, re47.size = 4 ∧ rowIn H46 ⟨b7, 0, none⟩ re47 ∧ R (.tuple #[.agg re47, .int .i64 0]) H46) → J41 [] H42) →
 br (decide (((L27l : Int) : Int) ≥ 4096)) (∃ v48, v48.size = 4 ∧ rowIn H37 ⟨b3, 0, none⟩ v48 ∧ v48.size = 4 ∧ stAt H37 ⟨b7, 0, none⟩ v48.toList fun H49 => ∃ re50, re50.size = 4 ∧ rowIn H49 ⟨b7, 0, none⟩ re50 ∧ R (.tuple #[.agg re50, .int .i64 31]) H49) (∃ v51, v51.size = 4 ∧ rowIn H37 ⟨b3, 0, none⟩ v51 ∧ ∃ To52, cell H37 (.add ⟨b5, 0, none⟩ 2) = some (.int .i64 To52) ∧ Tryz.C 85 #[.agg v51, .int .i64 To52] H37 fun r53 H54 => ∃ r55, r53 = .int .i64 r55 ∧ br (decide (((wrap .i64 (r55 + 1)) : Int) > 64))
 (∃ v56, v56.size = 4 ∧ rowIn H54 ⟨b3, 0, none⟩ v56 ∧ v56.size = 4 ∧ stAt H54 ⟨b7, 0, none⟩ v56.toList fun H57 => ∃ re58, re58.size = 4 ∧ rowIn H57 ⟨b7, 0, none⟩ re58 ∧ R (.tuple #[.agg re58, .int .i64 31]) H57)
 (J41 [] H54))))) → J17 [] H18) →
 ∃ N59, cell H16 (.add ⟨b5, 0, none⟩ 4) = some (.int .i64 N59) ∧ br (N59 == 0)
 (∃ W60, cell H16 (.add ⟨b5, 0, none⟩ 8) = some (.int .i64 W60) ∧ ∃ H61, cell H16 (.add ⟨b5, 0, none⟩ 9) = some (.int .i64 H61) ∧ Tryz.C 46 #[.int .i64 W60, .int .i64 H61] H16 fun r62 H63 => ∃ r64, r62 = .bool r64 ∧ br (!r64)
 (∃ v65, v65.size = 4 ∧ rowIn H63 ⟨b3, 0, none⟩ v65 ∧ v65.size = 4 ∧ stAt H63 ⟨b7, 0, none⟩ v65.toList fun H66 => ∃ re67, re67.size = 4 ∧ rowIn H66 ⟨b7, 0, none⟩ re67 ∧ R (.tuple #[.agg re67, .int .i64 31]) H66)
 (∃ W68, cell H63 (.add ⟨b5, 0, none⟩ 8) = some (.int .i64 W68) ∧ stAt H63 (.add ⟨b14, 0, none⟩ 6) [.int .i64 W68] fun H69 => ∃ H70, cell H69 (.add ⟨b5, 0, none⟩ 9) = some (.int .i64 H70) ∧ stAt H69 (.add ⟨b14, 0, none⟩ 7) [.int .i64 H70] fun H71 => ∃ W72, cell H71 (.add ⟨b5, 0, none⟩ 8) = some (.int .i64 W72) ∧ ∃ H73, cell H71 (.add ⟨b5, 0, none⟩ 9) = some (.int .i64 H73) ∧ 0 ≤ (wrap .i64 (W72 * H73)) ∧ (wrap .i64 (W72 * H73)) ≤ (wrap .i64 (W72 * H73)) ∧ ((8 : Nat) : Int) * (wrap .i64 (W72 * H73)) ≤ 281474976710656 ∧ (wrap .i64 (W72 * H73)) ≤ 281474976710656 ∧ alc H71 (.cells (List.toArray (reps (toNat (wrap .i64 (W72 * H73))) (Array.toList #[.int .i64 0]))) 3) fun b74 H75 => stAt H75 (.add ⟨b14, 0, none⟩ 8) [.slice (some ⟨b74, 0, none⟩) (toNat (wrap .i64 (W72 * H73))) (toNat (wrap .i64 (W72 * H73)))] fun H76 => J17 [] H76))
 (J17 [] H16)) → J9 [] H10) →
 ∃ N77, cell H8 (.add ⟨b5, 0, none⟩ 4) = some (.int .i64 N77) ∧ br (decide (N77 < 0)) (∃ v78, v78.size = 4 ∧ rowIn H8 ⟨b3, 0, none⟩ v78 ∧ v78.size = 4 ∧ stAt H8 ⟨b7, 0, none⟩ v78.toList fun H79 => ∃ re80, re80.size = 4 ∧ rowIn H79 ⟨b7, 0, none⟩ re80 ∧ R (.tuple #[.agg re80, .int .i64 41]) H79) (∃ N81, cell H8 (.add ⟨b5, 0, none⟩ 4) = some (.int .i64 N81) ∧ br (decide (N81 > 2))
 (∃ v82, v82.size = 4 ∧ rowIn H8 ⟨b3, 0, none⟩ v82 ∧ v82.size = 4 ∧ stAt H8 ⟨b7, 0, none⟩ v82.toList fun H83 => ∃ re84, re84.size = 4 ∧ rowIn H83 ⟨b7, 0, none⟩ re84 ∧ R (.tuple #[.agg re84, .int .i64 41]) H83)
 (J9 [] H8))
def Tryz.p47 : Plan := (tl (two (join [] [2, 3, 4] g0) (tl (two (join [] [2, 3, 4, 6] (tl (two (tg (tl (tl leaf))) leaf))) (tl (tg (tl (tl (tg (two (join [] [4, 9] g0) (tl (tl leaf))))))))))))
theorem Tryz.s47 {d1 e2 : AV} {H R} (h : Tryz.S47 d1 e2 H R) : Tryz.C 47 #[.agg d1, .agg e2] H R := vcs Tryz.tab_ok Tryz.mixed Tryz.func47 Tryz.cal47 Tryz.p47 h (by kernel_rfl)
def Tryz.S48 (d1 : AV) (id2 : Int) (H : Heap) (R : Kv) : Prop :=
 alc H (.cells d1 29) fun b3 H4 => ∀ X5 : Kl, (∀ (i6 : Int) H7, (∃ L8p L8l L8c, cell H7 (.add ⟨b3, 0, none⟩ 3) = some (.slice L8p L8l L8c) ∧ br (decide (i6 < (L8l : Int)))
 (∃ L9p L9l L9c, cell H7 (.add ⟨b3, 0, none⟩ 3) = some (.slice L9p L9l L9c) ∧ ∃ a10, L9p = some a10 ∧ 0 ≤ i6 ∧ i6 < (L9l : Int) ∧ ∃ ID11, cell H7 (.add (.add a10 (toNat i6 * 19)) 0) = some (.int .i64 ID11) ∧ br (ID11 == id2)
 (R (.int .i64 i6) H7)
 (X5 [.int .i64 (wrap .i64 (i6 + 1))] H7))
 (R (.int .i64 (-1 : Int)) H7)) → X5 [.int .i64 i6] H7) → X5 [.int .i64 0] H4
def Tryz.p48 : Plan := (tl (two (tl (one (loop [(5, 3)] [1, 2] (two (tl (tl leaf)) (two (one g0) leaf))))) (tl leaf)))
theorem Tryz.s48 {d1 : AV} {id2 : Int} {H R} (h : Tryz.S48 d1 id2 H R) : Tryz.C 48 #[.agg d1, .int .i64 id2] H R := vcs Tryz.tab_ok Tryz.mixed Tryz.func48 Tryz.cal48 Tryz.p48 h (by kernel_rfl)
def Tryz.S49 (d1 : AV) (id2 : Int) (H : Heap) (R : Kv) : Prop :=
 alc H (.cells d1 29) fun b3 H4 => ∀ X5 : Kl, (∀ (ou6p : OA) (ou6l ou6c : Nat) (go7p : OA) (go7l go7c : Nat) (i8 : Int) H9, (∃ L10p L10l L10c, cell H9 (.add ⟨b3, 0, none⟩ 3) = some (.slice L10p L10l L10c) ∧ br (decide (i8 < (L10l : Int)))
 (∃ v11, v11.size = 4 ∧ rowIn H9 ⟨b3, 0, none⟩ v11 ∧ ∃ L12p L12l L12c, cell H9 (.add ⟨b3, 0, none⟩ 3) = some (.slice L12p L12l L12c) ∧ ∃ a13, L12p = some a13 ∧ 0 ≤ i8 ∧ i8 < (L12l : Int) ∧ ∃ ID14, cell H9 (.add (.add a13 (toNat i8 * 19)) 0) = some (.int .i64 ID14) ∧ Tryz.C 86 #[.agg v11, .int .i64 ID14, .int .i64 id2] H9 fun r15 H16 => ∃ r17, r15 = .bool r17 ∧ br r17
 (∃ L18p L18l L18c, cell H16 (.add ⟨b3, 0, none⟩ 3) = some (.slice L18p L18l L18c) ∧ ∃ a19, L18p = some a19 ∧ 0 ≤ i8 ∧ i8 < (L18l : Int) ∧ ∃ v20, v20.size = 19 ∧ rowIn H16 (.add a19 (toNat i8 * 19)) v20 ∧ v20.size = 19 ∧ 0 + 19 ≤ 19 ∧ alc H16 (.cells (List.toArray (setL [.int .i64 0, .int .i64 0, .int .i64 0, .bool false, .int .i64 0, .int .i64 0, .int .i64 0, .int .i64 0, .slice none 0 0, .slice none 0 0, .int .i64 0, .int .i64 0, .int .i64 0, .int .i64 0, .int .i64 0, .int .i64 0, .bool false, .int .i64 0, .slice none 0 0] 0 v20.toList)) 101) fun b21 H22 => appQ 19 200 #[.int .i64 0, .int .i64 0, .int .i64 0, .bool false, .int .i64 0, .int .i64 0, .int .i64 0, .int .i64 0, .slice none 0 0, .slice none 0 0, .int .i64 0, .int .i64 0, .int .i64 0, .int .i64 0, .int .i64 0, .int .i64 0, .bool false, .int .i64 0, .slice none 0 0] H22 go7p go7l go7c (some ⟨b21, 0, none⟩) 1 101 fun go23p go23l go23c H24 => X5 [.slice ou6p ou6l ou6c, .slice go23p go23l go23c, .int .i64 (wrap .i64 (i8 + 1))] H24)
 (∃ L25p L25l L25c, cell H16 (.add ⟨b3, 0, none⟩ 3) = some (.slice L25p L25l L25c) ∧ ∃ a26, L25p = some a26 ∧ 0 ≤ i8 ∧ i8 < (L25l : Int) ∧ ∃ v27, v27.size = 19 ∧ rowIn H16 (.add a26 (toNat i8 * 19)) v27 ∧ v27.size = 19 ∧ 0 + 19 ≤ 19 ∧ alc H16 (.cells (List.toArray (setL [.int .i64 0, .int .i64 0, .int .i64 0, .bool false, .int .i64 0, .int .i64 0, .int .i64 0, .int .i64 0, .slice none 0 0, .slice none 0 0, .int .i64 0, .int .i64 0, .int .i64 0, .int .i64 0, .int .i64 0, .int .i64 0, .bool false, .int .i64 0, .slice none 0 0] 0 v27.toList)) 101) fun b28 H29 => appQ 19 200 #[.int .i64 0, .int .i64 0, .int .i64 0, .bool false, .int .i64 0, .int .i64 0, .int .i64 0, .int .i64 0, .slice none 0 0, .slice none 0 0, .int .i64 0, .int .i64 0, .int .i64 0, .int .i64 0, .int .i64 0, .int .i64 0, .bool false, .int .i64 0, .slice none 0 0] H29 ou6p ou6l ou6c (some ⟨b28, 0, none⟩) 1 101 fun ou30p ou30l ou30c H31 => X5 [.slice ou30p ou30l ou30c, .slice go7p go7l go7c, .int .i64 (wrap .i64 (i8 + 1))] H31))
 (R (.tuple #[.slice ou6p ou6l ou6c, .slice go7p go7l go7c]) H9)) → X5 [.slice ou6p ou6l ou6c, .slice go7p go7l go7c, .int .i64 i8] H9) → X5 [.slice none 0 0, .slice none 0 0, .int .i64 0] H4
def Tryz.p49 : Plan := (tl (tl (tl (two (tl (one (loop [(6, 27), (7, 27), (8, 3)] [1, 2] (two (tl (tl leaf)) (two (one (tl (tl leaf))) leaf))))) (tl leaf)))))
theorem Tryz.s49 {d1 : AV} {id2 : Int} {H R} (h : Tryz.S49 d1 id2 H R) : Tryz.C 49 #[.agg d1, .int .i64 id2] H R := vcs Tryz.tab_ok Tryz.mixed Tryz.func49 Tryz.cal49 Tryz.p49 h (by kernel_rfl)
def Tryz.S50 (d1 e2 : AV) (H : Heap) (R : Kv) : Prop :=
 alc H (.cells d1 29) fun b3 H4 => alc H4 (.cells e2 73) fun b5 H6 => alc H6 (.cells #[.int .i64 0, .int .i64 0, .int .i64 0, .slice none 0 0] 29) fun b7 H8 => ∃ v9, v9.size = 4 ∧ rowIn H8 ⟨b3, 0, none⟩ v9 ∧ ∃ ID10, cell H8 (.add ⟨b5, 0, none⟩ 1) = some (.int .i64 ID10) ∧ Tryz.C 48 #[.agg v9, .int .i64 ID10] H8 fun r11 H12 => ∃ i13, r11 = .int .i64 i13 ∧ br (decide (i13 < 0))
 (∃ v14, v14.size = 4 ∧ rowIn H12 ⟨b3, 0, none⟩ v14 ∧ v14.size = 4 ∧ stAt H12 ⟨b7, 0, none⟩ v14.toList fun H15 => ∃ re16, re16.size = 4 ∧ rowIn H15 ⟨b7, 0, none⟩ re16 ∧ R (.tuple #[.agg re16, .int .i64 40]) H15)
 (∃ v17, v17.size = 4 ∧ rowIn H12 ⟨b3, 0, none⟩ v17 ∧ ∃ To18, cell H12 (.add ⟨b5, 0, none⟩ 2) = some (.int .i64 To18) ∧ Tryz.C 83 #[.agg v17, .int .i64 To18] H12 fun r19 H20 => ∃ f21, r19 = .int .i64 f21 ∧ br (f21 != 0)
 (∃ v22, v22.size = 4 ∧ rowIn H20 ⟨b3, 0, none⟩ v22 ∧ v22.size = 4 ∧ stAt H20 ⟨b7, 0, none⟩ v22.toList fun H23 => ∃ re24, re24.size = 4 ∧ rowIn H23 ⟨b7, 0, none⟩ re24 ∧ R (.tuple #[.agg re24, .int .i64 f21]) H23)
 (∃ v25, v25.size = 4 ∧ rowIn H20 ⟨b3, 0, none⟩ v25 ∧ ∃ To26, cell H20 (.add ⟨b5, 0, none⟩ 2) = some (.int .i64 To26) ∧ ∃ ID27, cell H20 (.add ⟨b5, 0, none⟩ 1) = some (.int .i64 ID27) ∧ Tryz.C 86 #[.agg v25, .int .i64 To26, .int .i64 ID27] H20 fun r28 H29 => ∃ r30, r28 = .bool r30 ∧ br r30
 (∃ v31, v31.size = 4 ∧ rowIn H29 ⟨b3, 0, none⟩ v31 ∧ v31.size = 4 ∧ stAt H29 ⟨b7, 0, none⟩ v31.toList fun H32 => ∃ re33, re33.size = 4 ∧ rowIn H32 ⟨b7, 0, none⟩ re33 ∧ R (.tuple #[.agg re33, .int .i64 42]) H32)
 (∃ L34p L34l L34c, cell H29 (.add ⟨b3, 0, none⟩ 3) = some (.slice L34p L34l L34c) ∧ ∃ a35, L34p = some a35 ∧ 0 ≤ i13 ∧ i13 < (L34l : Int) ∧ ∃ v36, v36.size = 19 ∧ rowIn H29 (.add a35 (toNat i13 * 19)) v36 ∧ alc H29 (.cells #[.int .i64 0, .int .i64 0, .int .i64 0, .bool false, .int .i64 0, .int .i64 0, .int .i64 0, .int .i64 0, .slice none 0 0, .slice none 0 0, .int .i64 0, .int .i64 0, .int .i64 0, .int .i64 0, .int .i64 0, .int .i64 0, .bool false, .int .i64 0, .slice none 0 0] 101) fun b37 H38 => v36.size = 19 ∧ stAt H38 ⟨b37, 0, none⟩ v36.toList fun H39 => ∃ v40, v40.size = 4 ∧ rowIn H39 ⟨b3, 0, none⟩ v40 ∧ ∃ ID41, cell H39 (.add ⟨b5, 0, none⟩ 1) = some (.int .i64 ID41) ∧ Tryz.C 49 #[.agg v40, .int .i64 ID41] H39 fun r42 H43 => ∃ r44p r44l r44c r45p r45l r45c, r42 = .tuple #[.slice r44p r44l r44c, .slice r45p r45l r45c] ∧ ∃ v46, v46.size = 4 ∧ rowIn H43 ⟨b3, 0, none⟩ v46 ∧ alc H43 (.cells #[.int .i64 0, .int .i64 0, .int .i64 0, .slice none 0 0] 29) fun b47 H48 => v46.size = 4 ∧ stAt H48 ⟨b47, 0, none⟩ v46.toList fun H49 => stAt H49 (.add ⟨b47, 0, none⟩ 3) [.slice r44p r44l r44c] fun H50 => ∃ To51, cell H50 (.add ⟨b5, 0, none⟩ 2) = some (.int .i64 To51) ∧ stAt H50 (.add ⟨b37, 0, none⟩ 2) [.int .i64 To51] fun H52 => ∃ v53, v53.size = 4 ∧ rowIn H52 ⟨b47, 0, none⟩ v53 ∧ ∃ v54, v54.size = 19 ∧ rowIn H52 ⟨b37, 0, none⟩ v54 ∧ ∃ At55, cell H52 (.add ⟨b5, 0, none⟩ 3) = some (.int .i64 At55) ∧ Tryz.C 84 #[.agg v53, .agg v54, .int .i64 At55] H52 fun r56 H57 => ∃ r58 r59, r56 = .tuple #[.agg r58, .int .i64 r59] ∧ alc H57 (.cells #[.int .i64 0, .int .i64 0, .int .i64 0, .slice none 0 0] 29) fun b60 H61 => r58.size = 4 ∧ stAt H61 ⟨b60, 0, none⟩ r58.toList fun H62 => br (r59 != 0)
 (∃ v63, v63.size = 4 ∧ rowIn H62 ⟨b3, 0, none⟩ v63 ∧ v63.size = 4 ∧ stAt H62 ⟨b7, 0, none⟩ v63.toList fun H64 => ∃ re65, re65.size = 4 ∧ rowIn H64 ⟨b7, 0, none⟩ re65 ∧ R (.tuple #[.agg re65, .int .i64 r59]) H64)
 (∀ X66 : Kl, (∀ (k67 : Int) H68, (br (decide (k67 < (r45l : Int)))
 (∃ a69, r45p = some a69 ∧ 0 ≤ k67 ∧ k67 < (r45l : Int) ∧ ∃ ID70, cell H68 (.add (.add a69 (toNat k67 * 19)) 0) = some (.int .i64 ID70) ∧ ∃ ID71, cell H68 (.add ⟨b5, 0, none⟩ 1) = some (.int .i64 ID71) ∧ br (ID70 != ID71)
 (∃ L72p L72l L72c, cell H68 (.add ⟨b60, 0, none⟩ 3) = some (.slice L72p L72l L72c) ∧ ∃ a73, r45p = some a73 ∧ 0 ≤ k67 ∧ k67 < (r45l : Int) ∧ ∃ v74, v74.size = 19 ∧ rowIn H68 (.add a73 (toNat k67 * 19)) v74 ∧ v74.size = 19 ∧ 0 + 19 ≤ 19 ∧ alc H68 (.cells (List.toArray (setL [.int .i64 0, .int .i64 0, .int .i64 0, .bool false, .int .i64 0, .int .i64 0, .int .i64 0, .int .i64 0, .slice none 0 0, .slice none 0 0, .int .i64 0, .int .i64 0, .int .i64 0, .int .i64 0, .int .i64 0, .int .i64 0, .bool false, .int .i64 0, .slice none 0 0] 0 v74.toList)) 101) fun b75 H76 => (Ext H68 H76 ∨ (∃ L80p L80l L80c, cell H76 (.add ⟨b60, 0, none⟩ 3) = some (.slice L80p L80l L80c) ∧ Value.slice L80p L80l L80c = .slice L72p L72l L72c)) ∧ appQ 19 200 #[.int .i64 0, .int .i64 0, .int .i64 0, .bool false, .int .i64 0, .int .i64 0, .int .i64 0, .int .i64 0, .slice none 0 0, .slice none 0 0, .int .i64 0, .int .i64 0, .int .i64 0, .int .i64 0, .int .i64 0, .int .i64 0, .bool false, .int .i64 0, .slice none 0 0] H76 L72p L72l L72c (some ⟨b75, 0, none⟩) 1 101 fun ap77p ap77l ap77c H78 => stAt H78 (.add ⟨b60, 0, none⟩ 3) [.slice ap77p ap77l ap77c] fun H79 => X66 [.int .i64 (wrap .i64 (k67 + 1))] H79)
 (X66 [.int .i64 (wrap .i64 (k67 + 1))] H68))
 (∃ v81, v81.size = 4 ∧ rowIn H68 ⟨b60, 0, none⟩ v81 ∧ Tryz.C 87 #[.agg v81] H68 fun r82 H83 => ∃ r84, r82 = .int .i64 r84 ∧ br (decide (r84 > 64))
 (∃ v85, v85.size = 4 ∧ rowIn H83 ⟨b3, 0, none⟩ v85 ∧ v85.size = 4 ∧ stAt H83 ⟨b7, 0, none⟩ v85.toList fun H86 => ∃ re87, re87.size = 4 ∧ rowIn H86 ⟨b7, 0, none⟩ re87 ∧ R (.tuple #[.agg re87, .int .i64 31]) H86)
 (∃ v88, v88.size = 4 ∧ rowIn H83 ⟨b60, 0, none⟩ v88 ∧ v88.size = 4 ∧ stAt H83 ⟨b7, 0, none⟩ v88.toList fun H89 => ∃ re90, re90.size = 4 ∧ rowIn H89 ⟨b7, 0, none⟩ re90 ∧ R (.tuple #[.agg re90, .int .i64 0]) H89))) → X66 [.int .i64 k67] H68) → X66 [.int .i64 0] H62))))
def Tryz.p50 : Plan := (tl (tl (tg (tl (tg (tg (tl (tl (tl (tl (tl (tl (tg (two (tl (one (loop [(14, 3)] [2, 3, 4, 10, 12] (two (tl (tl leaf)) (two (one (tl (tl leaf))) leaf))))) (tg (tl leaf))))))))))))))))
theorem Tryz.s50 {d1 e2 : AV} {H R} (h : Tryz.S50 d1 e2 H R) : Tryz.C 50 #[.agg d1, .agg e2] H R := vcs Tryz.tab_ok Tryz.mixed Tryz.func50 Tryz.cal50 Tryz.p50 h (by kernel_rfl)
def Tryz.S51 (d1 l2 e3 : AV) (H : Heap) (R : Kv) : Prop :=
 alc H (.cells d1 29) fun b4 H5 => alc H5 (.cells l2 101) fun b6 H7 => alc H7 (.cells e3 73) fun b8 H9 => alc H9 (.cells #[.int .i64 0, .int .i64 0, .int .i64 0, .bool false, .int .i64 0, .int .i64 0, .int .i64 0, .int .i64 0, .slice none 0 0, .slice none 0 0, .int .i64 0, .int .i64 0, .int .i64 0, .int .i64 0, .int .i64 0, .int .i64 0, .bool false, .int .i64 0, .slice none 0 0] 101) fun b10 H11 => ∀ J12 : Kl, (∀ H13, (∃ v14, v14.size = 19 ∧ rowIn H13 ⟨b6, 0, none⟩ v14 ∧ v14.size = 19 ∧ stAt H13 ⟨b10, 0, none⟩ v14.toList fun H15 => ∃ re16, re16.size = 19 ∧ rowIn H15 ⟨b10, 0, none⟩ re16 ∧ R (.tuple #[.agg re16, .int .i64 0]) H15) → J12 [] H13) →
 ∃ Ki17, cell H11 (.add ⟨b8, 0, none⟩ 0) = some (.int .i64 Ki17) ∧ br (Ki17 == 4)
 (∃ v18, v18.size = 4 ∧ rowIn H11 ⟨b4, 0, none⟩ v18 ∧ ∃ v19, v19.size = 19 ∧ rowIn H11 ⟨b6, 0, none⟩ v19 ∧ ∃ v20, v20.size = 19 ∧ rowIn H11 ⟨b8, 0, none⟩ v20 ∧ Tryz.C 88 #[.agg v18, .agg v19, .agg v20] H11 fun r21 H22 => ∃ r23 r24, r21 = .tuple #[.agg r23, .int .i64 r24] ∧ r23.size = 19 ∧ stAt H22 ⟨b10, 0, none⟩ r23.toList fun H25 => ∃ re26, re26.size = 19 ∧ rowIn H25 ⟨b10, 0, none⟩ re26 ∧ R (.tuple #[.agg re26, .int .i64 r24]) H25)
 (br (Ki17 == 5)
 (∀ J27 : Kl, (∀ H28, (∀ J29 : Kl, (∀ H30, (∃ N31, cell H30 (.add ⟨b8, 0, none⟩ 4) = some (.int .i64 N31) ∧ stAt H30 (.add ⟨b6, 0, none⟩ 4) [.int .i64 N31] fun H32 => ∃ M33, cell H32 (.add ⟨b8, 0, none⟩ 5) = some (.int .i64 M33) ∧ stAt H32 (.add ⟨b6, 0, none⟩ 5) [.int .i64 M33] fun H34 => J12 [] H34) → J29 [] H30) →
 ∃ Ki35, cell H28 (.add ⟨b6, 0, none⟩ 1) = some (.int .i64 Ki35) ∧ br (Ki35 == 2) (∃ M36, cell H28 (.add ⟨b8, 0, none⟩ 5) = some (.int .i64 M36) ∧ br (M36 != 0)
 (∃ v37, v37.size = 19 ∧ rowIn H28 ⟨b6, 0, none⟩ v37 ∧ v37.size = 19 ∧ stAt H28 ⟨b10, 0, none⟩ v37.toList fun H38 => ∃ re39, re39.size = 19 ∧ rowIn H38 ⟨b10, 0, none⟩ re39 ∧ R (.tuple #[.agg re39, .int .i64 41]) H38)
 (J29 [] H28)) (J29 [] H28)) → J27 [] H28) →
 ∃ N40, cell H11 (.add ⟨b8, 0, none⟩ 4) = some (.int .i64 N40) ∧ br (decide (N40 < 0)) (∃ v41, v41.size = 19 ∧ rowIn H11 ⟨b6, 0, none⟩ v41 ∧ v41.size = 19 ∧ stAt H11 ⟨b10, 0, none⟩ v41.toList fun H42 => ∃ re43, re43.size = 19 ∧ rowIn H42 ⟨b10, 0, none⟩ re43 ∧ R (.tuple #[.agg re43, .int .i64 32]) H42) (∃ N44, cell H11 (.add ⟨b8, 0, none⟩ 4) = some (.int .i64 N44) ∧ br (decide (N44 > 255)) (∃ v45, v45.size = 19 ∧ rowIn H11 ⟨b6, 0, none⟩ v45 ∧ v45.size = 19 ∧ stAt H11 ⟨b10, 0, none⟩ v45.toList fun H46 => ∃ re47, re47.size = 19 ∧ rowIn H46 ⟨b10, 0, none⟩ re47 ∧ R (.tuple #[.agg re47, .int .i64 32]) H46) (∃ M48, cell H11 (.add ⟨b8, 0, none⟩ 5) = some (.int .i64 M48) ∧ br (decide (M48 < 0)) (∃ v49, v49.size = 19 ∧ rowIn H11 ⟨b6, 0, none⟩ v49 ∧ v49.size = 19 ∧ stAt H11 ⟨b10, 0, none⟩ v49.toList fun H50 => ∃ re51, re51.size = 19 ∧ rowIn H50 ⟨b10, 0, none⟩ re51 ∧ R (.tuple #[.agg re51, .int .i64 32]) H50) (∃ M52, cell H11 (.add ⟨b8, 0, none⟩ 5) = some (.int .i64 M52) ∧ br (decide (M52 > 11))
 (∃ v53, v53.size = 19 ∧ rowIn H11 ⟨b6, 0, none⟩ v53 ∧ v53.size = 19 ∧ stAt H11 ⟨b10, 0, none⟩ v53.toList fun H54 => ∃ re55, re55.size = 19 ∧ rowIn H54 ⟨b10, 0, none⟩ re55 ∧ R (.tuple #[.agg re55, .int .i64 32]) H54)
 (J27 [] H11)))))
 (br (Ki17 == 6)
 (∀ J56 : Kl, (∀ H57, (∃ N58, cell H57 (.add ⟨b8, 0, none⟩ 4) = some (.int .i64 N58) ∧ stAt H57 (.add ⟨b6, 0, none⟩ 3) [.bool (N58 == 1)] fun H59 => J12 [] H59) → J56 [] H57) →
 ∃ N60, cell H11 (.add ⟨b8, 0, none⟩ 4) = some (.int .i64 N60) ∧ br (N60 != 0) (∃ N61, cell H11 (.add ⟨b8, 0, none⟩ 4) = some (.int .i64 N61) ∧ br (N61 != 1)
 (∃ v62, v62.size = 19 ∧ rowIn H11 ⟨b6, 0, none⟩ v62 ∧ v62.size = 19 ∧ stAt H11 ⟨b10, 0, none⟩ v62.toList fun H63 => ∃ re64, re64.size = 19 ∧ rowIn H63 ⟨b10, 0, none⟩ re64 ∧ R (.tuple #[.agg re64, .int .i64 32]) H63)
 (J56 [] H11)) (J56 [] H11))
 (br (Ki17 == 7)
 (∃ v65, v65.size = 4 ∧ rowIn H11 ⟨b4, 0, none⟩ v65 ∧ ∃ v66, v66.size = 19 ∧ rowIn H11 ⟨b6, 0, none⟩ v66 ∧ ∃ v67, v67.size = 19 ∧ rowIn H11 ⟨b8, 0, none⟩ v67 ∧ Tryz.C 89 #[.agg v65, .agg v66, .agg v67] H11 fun r68 H69 => ∃ r70 r71, r68 = .tuple #[.agg r70, .int .i64 r71] ∧ r70.size = 19 ∧ stAt H69 ⟨b10, 0, none⟩ r70.toList fun H72 => ∃ re73, re73.size = 19 ∧ rowIn H72 ⟨b10, 0, none⟩ re73 ∧ R (.tuple #[.agg re73, .int .i64 r71]) H72)
 (br (Ki17 == 8)
 (∃ Ki74, cell H11 (.add ⟨b6, 0, none⟩ 1) = some (.int .i64 Ki74) ∧ br (Ki74 != 0)
 (∃ v75, v75.size = 19 ∧ rowIn H11 ⟨b6, 0, none⟩ v75 ∧ v75.size = 19 ∧ stAt H11 ⟨b10, 0, none⟩ v75.toList fun H76 => ∃ re77, re77.size = 19 ∧ rowIn H76 ⟨b10, 0, none⟩ re77 ∧ R (.tuple #[.agg re77, .int .i64 41]) H76)
 (∀ J78 : Kl, (∀ H79, (∃ Ma80, Ma80.size = 6 ∧ rowIn H79 (.add ⟨b8, 0, none⟩ 12) Ma80 ∧ Tryz.C 90 #[.agg Ma80] H79 fun r81 H82 => ∃ r83 r84, r81 = .tuple #[.agg r83, .int .i64 r84] ∧ alc H82 (.cells #[.int .i64 0, .int .i64 0, .int .i64 0, .int .i64 0, .int .i64 0, .int .i64 0] 71) fun b85 H86 => r83.size = 6 ∧ stAt H86 ⟨b85, 0, none⟩ r83.toList fun H87 => br (r84 != 0)
 (∃ v88, v88.size = 19 ∧ rowIn H87 ⟨b6, 0, none⟩ v88 ∧ v88.size = 19 ∧ stAt H87 ⟨b10, 0, none⟩ v88.toList fun H89 => ∃ re90, re90.size = 19 ∧ rowIn H89 ⟨b10, 0, none⟩ re90 ∧ R (.tuple #[.agg re90, .int .i64 r84]) H89)
 (∃ Ma91, Ma91.size = 6 ∧ rowIn H87 (.add ⟨b8, 0, none⟩ 12) Ma91 ∧ Ma91.size = 6 ∧ stAt H87 (.add ⟨b6, 0, none⟩ 10) Ma91.toList fun H92 => ∃ N93, cell H92 (.add ⟨b8, 0, none⟩ 4) = some (.int .i64 N93) ∧ stAt H92 (.add ⟨b6, 0, none⟩ 16) [.bool (N93 == 1)] fun H94 => J12 [] H94)) → J78 [] H79) →
 ∃ N95, cell H11 (.add ⟨b8, 0, none⟩ 4) = some (.int .i64 N95) ∧ br (N95 != 0) (∃ N96, cell H11 (.add ⟨b8, 0, none⟩ 4) = some (.int .i64 N96) ∧ br (N96 != 1)
 (∃ v97, v97.size = 19 ∧ rowIn H11 ⟨b6, 0, none⟩ v97 ∧ v97.size = 19 ∧ stAt H11 ⟨b10, 0, none⟩ v97.toList fun H98 => ∃ re99, re99.size = 19 ∧ rowIn H98 ⟨b10, 0, none⟩ re99 ∧ R (.tuple #[.agg re99, .int .i64 32]) H98)
 (J78 [] H11)) (J78 [] H11)))
 (br (Ki17 == 9)
 (∃ Ki100, cell H11 (.add ⟨b6, 0, none⟩ 1) = some (.int .i64 Ki100) ∧ br (Ki100 != 2)
 (∃ v101, v101.size = 19 ∧ rowIn H11 ⟨b6, 0, none⟩ v101 ∧ v101.size = 19 ∧ stAt H11 ⟨b10, 0, none⟩ v101.toList fun H102 => ∃ re103, re103.size = 19 ∧ rowIn H102 ⟨b10, 0, none⟩ re103 ∧ R (.tuple #[.agg re103, .int .i64 41]) H102)
 (∃ N104, cell H11 (.add ⟨b8, 0, none⟩ 4) = some (.int .i64 N104) ∧ ∃ Pa105p Pa105l Pa105c, cell H11 (.add ⟨b8, 0, none⟩ 18) = some (.slice Pa105p Pa105l Pa105c) ∧ Tryz.C 91 #[.int .i64 N104, .slice Pa105p Pa105l Pa105c] H11 fun r106 H107 => ∃ r108p r108l r108c r109, r106 = .tuple #[.slice r108p r108l r108c, .bool r109] ∧ br (!r109)
 (∃ v110, v110.size = 19 ∧ rowIn H107 ⟨b6, 0, none⟩ v110 ∧ v110.size = 19 ∧ stAt H107 ⟨b10, 0, none⟩ v110.toList fun H111 => ∃ re112, re112.size = 19 ∧ rowIn H111 ⟨b10, 0, none⟩ re112 ∧ R (.tuple #[.agg re112, .int .i64 32]) H111)
 (∃ N113, cell H107 (.add ⟨b8, 0, none⟩ 4) = some (.int .i64 N113) ∧ stAt H107 (.add ⟨b6, 0, none⟩ 17) [.int .i64 N113] fun H114 => alc H114 (.cells #[] 3) fun b115 H116 => ∃ Pa117p Pa117l Pa117c, cell H116 (.add ⟨b8, 0, none⟩ 18) = some (.slice Pa117p Pa117l Pa117c) ∧ appQ 1 8 #[.int .i64 0] H116 (some ⟨b115, 0, none⟩) 0 0 Pa117p Pa117l 3 fun ap118p ap118l ap118c H119 => stAt H119 (.add ⟨b6, 0, none⟩ 18) [.slice ap118p ap118l ap118c] fun H120 => J12 [] H120)))
 (J12 [] H11))))))
def Tryz.p51 : Plan := (tl (two (join [] [4, 6] (tl (one (tl (two (tl leaf) (tl (two (two (join [] [4, 5, 6] g0) (two (join [] [4, 5, 6] g0) (tl leaf))) (tl (two (two (join [] [4, 5, 6] g0) leaf) (tl (two (tl leaf) (tl (two (tg (two (join [] [4, 5, 6] g0) (tl (tg (tl leaf))))) (tl (two (tg (tl (tg (tl leaf)))) leaf))))))))))))))) (tl leaf)))
theorem Tryz.s51 {d1 l2 e3 : AV} {H R} (h : Tryz.S51 d1 l2 e3 H R) : Tryz.C 51 #[.agg d1, .agg l2, .agg e3] H R := vcs Tryz.tab_ok Tryz.mixed Tryz.func51 Tryz.cal51 Tryz.p51 h (by kernel_rfl)
def Tryz.S52 (d1 : AV) (to2 : Int) (H : Heap) (R : Kv) : Prop :=
 alc H (.cells d1 29) fun b3 H4 => ∀ X5 : Kl, (∀ (ou6p : OA) (ou6l ou6c : Nat) (i7 : Int) H8, (∃ L9p L9l L9c, cell H8 (.add ⟨b3, 0, none⟩ 3) = some (.slice L9p L9l L9c) ∧ br (decide (i7 < (L9l : Int)))
 (∃ L10p L10l L10c, cell H8 (.add ⟨b3, 0, none⟩ 3) = some (.slice L10p L10l L10c) ∧ ∃ a11, L10p = some a11 ∧ 0 ≤ i7 ∧ i7 < (L10l : Int) ∧ ∃ To12, cell H8 (.add (.add a11 (toNat i7 * 19)) 2) = some (.int .i64 To12) ∧ br (To12 == to2)
 (alc H8 (.cells #[.int .i64 i7] 3) fun b13 H14 => appQ 1 8 #[.int .i64 0] H14 ou6p ou6l ou6c (some ⟨b13, 0, none⟩) 1 3 fun ou15p ou15l ou15c H16 => X5 [.slice ou15p ou15l ou15c, .int .i64 (wrap .i64 (i7 + 1))] H16)
 (X5 [.slice ou6p ou6l ou6c, .int .i64 (wrap .i64 (i7 + 1))] H8))
 (R (.slice ou6p ou6l ou6c) H8)) → X5 [.slice ou6p ou6l ou6c, .int .i64 i7] H8) → X5 [.slice none 0 0, .int .i64 0] H4
def Tryz.p52 : Plan := (tl (tl (two (tl (one (loop [(5, 32), (6, 3)] [1, 2] (two (tl (tl leaf)) (two (one (tl (tl leaf))) leaf))))) (tl leaf))))
theorem Tryz.s52 {d1 : AV} {to2 : Int} {H R} (h : Tryz.S52 d1 to2 H R) : Tryz.C 52 #[.agg d1, .int .i64 to2] H R := vcs Tryz.tab_ok Tryz.mixed Tryz.func52 Tryz.cal52 Tryz.p52 h (by kernel_rfl)
def Tryz.S60 (a1 b2 : AV) (H : Heap) (R : Kv) : Prop :=
 alc H (.cells a1 58) fun b3 H4 => alc H4 (.cells b2 101) fun b5 H6 => ∀ J7 : Kl, (∀ H8, (∃ P9p P9l P9c, cell H8 (.add ⟨b3, 0, none⟩ 7) = some (.slice P9p P9l P9c) ∧ ∃ P10p P10l P10c, cell H8 (.add ⟨b5, 0, none⟩ 8) = some (.slice P10p P10l P10c) ∧ Tryz.C 99 #[.slice P9p P9l P9c, .slice P10p P10l P10c] H8 fun r11 H12 => ∃ r13, r11 = .bool r13 ∧ br r13 (∃ Ma14p Ma14l Ma14c, cell H12 (.add ⟨b3, 0, none⟩ 8) = some (.slice Ma14p Ma14l Ma14c) ∧ ∃ bs15 : List Int, bsOf H12 Ma14p Ma14l bs15 ∧ ∃ Ma16p Ma16l Ma16c, cell H12 (.add ⟨b5, 0, none⟩ 9) = some (.slice Ma16p Ma16l Ma16c) ∧ ∃ bs17 : List Int, bsOf H12 Ma16p Ma16l bs17 ∧ br (((textOf bs15) : ByteArray) == (textOf bs17)) (∃ Pa18p Pa18l Pa18c, cell H12 (.add ⟨b3, 0, none⟩ 17) = some (.slice Pa18p Pa18l Pa18c) ∧ ∃ Pa19p Pa19l Pa19c, cell H12 (.add ⟨b5, 0, none⟩ 18) = some (.slice Pa19p Pa19l Pa19c) ∧ Tryz.C 99 #[.slice Pa18p Pa18l Pa18c, .slice Pa19p Pa19l Pa19c] H12 fun r20 H21 => ∃ r22, r20 = .bool r22 ∧ R (.bool r22) H21) (R (.bool false) H12)) (R (.bool false) H12)) → J7 [] H8) →
 ∃ ID23, cell H6 (.add ⟨b3, 0, none⟩ 0) = some (.int .i64 ID23) ∧ ∃ ID24, cell H6 (.add ⟨b5, 0, none⟩ 0) = some (.int .i64 ID24) ∧ br (ID23 != ID24) (R (.bool false) H6) (∃ Ki25, cell H6 (.add ⟨b3, 0, none⟩ 1) = some (.int .i64 Ki25) ∧ ∃ Ki26, cell H6 (.add ⟨b5, 0, none⟩ 1) = some (.int .i64 Ki26) ∧ br (Ki25 != Ki26) (R (.bool false) H6) (∃ Hi27, cell H6 (.add ⟨b3, 0, none⟩ 2) = some (.bool Hi27) ∧ ∃ Hi28, cell H6 (.add ⟨b5, 0, none⟩ 3) = some (.bool Hi28) ∧ br (!(Hi27 == Hi28)) (R (.bool false) H6) (∃ Op29, cell H6 (.add ⟨b3, 0, none⟩ 3) = some (.int .i64 Op29) ∧ ∃ Op30, cell H6 (.add ⟨b5, 0, none⟩ 4) = some (.int .i64 Op30) ∧ br (Op29 != Op30) (R (.bool false) H6) (∃ Mo31, cell H6 (.add ⟨b3, 0, none⟩ 4) = some (.int .i64 Mo31) ∧ ∃ Mo32, cell H6 (.add ⟨b5, 0, none⟩ 5) = some (.int .i64 Mo32) ∧ br (Mo31 != Mo32) (R (.bool false) H6) (∃ W33, cell H6 (.add ⟨b3, 0, none⟩ 5) = some (.int .i64 W33) ∧ ∃ W34, cell H6 (.add ⟨b5, 0, none⟩ 6) = some (.int .i64 W34) ∧ br (W33 != W34) (R (.bool false) H6) (∃ H35, cell H6 (.add ⟨b3, 0, none⟩ 6) = some (.int .i64 H35) ∧ ∃ H36, cell H6 (.add ⟨b5, 0, none⟩ 7) = some (.int .i64 H36) ∧ br (H35 != H36) (R (.bool false) H6) (∃ Ma37, Ma37.size = 6 ∧ rowIn H6 (.add ⟨b3, 0, none⟩ 9) Ma37 ∧ ∃ Ma38, Ma38.size = 6 ∧ rowIn H6 (.add ⟨b5, 0, none⟩ 10) Ma38 ∧ (1 = 1 ∧ ∃ as_39 bs40 : List Int, as_39.length = 6 ∧ bs40.length = 6 ∧ Ma37 = (as_39.map (Value.int .i64)).toArray ∧ Ma38 = (bs40.map (Value.int .i64)).toArray ∧ br (!(decide (as_39 = bs40))) (R (.bool false) H6) (∃ Sm41, cell H6 (.add ⟨b3, 0, none⟩ 15) = some (.bool Sm41) ∧ ∃ Sm42, cell H6 (.add ⟨b5, 0, none⟩ 16) = some (.bool Sm42) ∧ br (!(Sm41 == Sm42)) (R (.bool false) H6) (∃ Ta43, cell H6 (.add ⟨b3, 0, none⟩ 16) = some (.int .i64 Ta43) ∧ ∃ Ta44, cell H6 (.add ⟨b5, 0, none⟩ 17) = some (.int .i64 Ta44) ∧ br (Ta43 != Ta44)
 (R (.bool false) H6)
 (J7 [] H6)))))))))))
def Tryz.p60 : Plan := (tl (two (join [] [2, 3] g0) (tl leaf)))
theorem Tryz.s60 {a1 b2 : AV} {H R} (h : Tryz.S60 a1 b2 H R) : Tryz.C 60 #[.agg a1, .agg b2] H R := vcs Tryz.tab_ok Tryz.mixed Tryz.func60 Tryz.cal60 Tryz.p60 h (by kernel_rfl)
def Tryz.S61 (p1 l2 : AV) (ou3p : OA) (ou3l ou3c : Nat) (H : Heap) (R : Kv) : Prop :=
 alc H (.cells p1 79) fun b4 H5 => alc H5 (.cells l2 58) fun b6 H7 => alc H7 (.cells #[.slice ou3p ou3l ou3c] 32) fun b8 H9 => ∃ Ta10, cell H9 (.add ⟨b6, 0, none⟩ 16) = some (.int .i64 Ta10) ∧ ∃ Pa11p Pa11l Pa11c, cell H9 (.add ⟨b6, 0, none⟩ 17) = some (.slice Pa11p Pa11l Pa11c) ∧ Tryz.C 80 #[.int .i64 Ta10, .slice Pa11p Pa11l Pa11c] H9 fun r12 H13 => ∃ r14p r14l r14c r15, r12 = .tuple #[.slice r14p r14l r14c, .bool r15] ∧ alc H13 (.cells #[.slice none 0 0] 32) fun b16 H17 => stAt H17 ⟨b16, 0, none⟩ [.slice r14p r14l r14c] fun H18 => ∃ v19, v19.size = 8 ∧ rowIn H18 ⟨b4, 0, none⟩ v19 ∧ Tryz.C 63 #[.agg v19, .func (.func 100) #[] #[.pointer (some ⟨b6, 0, none⟩), .pointer (some ⟨b8, 0, none⟩), .pointer (some ⟨b16, 0, none⟩)]] H18 fun r20 H21 => r20 = .tuple #[] ∧ R (.tuple #[]) H21
def Tryz.p61 : Plan := (tl (tl leaf))
theorem Tryz.s61 {p1 l2 : AV} {ou3p : OA} {ou3l ou3c : Nat} {H R} (h : Tryz.S61 p1 l2 ou3p ou3l ou3c H R) : Tryz.C 61 #[.agg p1, .agg l2, .slice ou3p ou3l ou3c] H R := vcs Tryz.tab_ok Tryz.mixed Tryz.func61 Tryz.cal61 Tryz.p61 h (by kernel_rfl)
def Tryz.S62 (p1 l2 : AV) (H : Heap) (R : Kv) : Prop :=
 alc H (.cells p1 79) fun b3 H4 => alc H4 (.cells l2 58) fun b5 H6 => ∃ Ki7, cell H6 (.add ⟨b5, 0, none⟩ 1) = some (.int .i64 Ki7) ∧ br (Ki7 == 0)
 (∃ W8, cell H6 (.add ⟨b5, 0, none⟩ 5) = some (.int .i64 W8) ∧ ∃ H9, cell H6 (.add ⟨b5, 0, none⟩ 6) = some (.int .i64 H9) ∧ ∃ P10p P10l P10c, cell H6 (.add ⟨b5, 0, none⟩ 7) = some (.slice P10p P10l P10c) ∧ alc H6 (.cells #[.int .i64 0, .int .i64 0, .slice none 0 0] 34) fun b11 H12 => #[Value.int .i64 W8, Value.int .i64 H9, Value.slice P10p P10l P10c].size = 3 ∧ stAt H12 ⟨b11, 0, none⟩ (Array.toList #[.int .i64 W8, .int .i64 H9, .slice P10p P10l P10c]) fun H13 => ∃ Ma14, Ma14.size = 6 ∧ rowIn H13 (.add ⟨b5, 0, none⟩ 9) Ma14 ∧ Tryz.C 79 #[.agg Ma14] H13 fun r15 H16 => ∃ r17 r18, r15 = .tuple #[.agg r17, .int .i64 r18] ∧ alc H16 (.cells #[.int .i64 0, .int .i64 0, .int .i64 0, .int .i64 0, .int .i64 0, .int .i64 0] 50) fun b19 H20 => r17.size = 6 ∧ stAt H20 ⟨b19, 0, none⟩ r17.toList fun H21 => ∃ w22, cell H21 (.add ⟨b3, 0, none⟩ 6) = some (.int .i64 w22) ∧ ∃ h23, cell H21 (.add ⟨b3, 0, none⟩ 7) = some (.int .i64 h23) ∧ 0 ≤ (wrap .i64 (w22 * h23)) ∧ (wrap .i64 (w22 * h23)) ≤ (wrap .i64 (w22 * h23)) ∧ ((8 : Nat) : Int) * (wrap .i64 (w22 * h23)) ≤ 281474976710656 ∧ (wrap .i64 (w22 * h23)) ≤ 281474976710656 ∧ alc H21 (.cells (List.toArray (reps (toNat (wrap .i64 (w22 * h23))) (Array.toList #[.int .i64 0]))) 3) fun b24 H25 => alc H25 (.cells #[.slice none 0 0] 32) fun b26 H27 => stAt H27 ⟨b26, 0, none⟩ [.slice (some ⟨b24, 0, none⟩) (toNat (wrap .i64 (w22 * h23))) (toNat (wrap .i64 (w22 * h23)))] fun H28 => ∃ v29, v29.size = 8 ∧ rowIn H28 ⟨b3, 0, none⟩ v29 ∧ Tryz.C 63 #[.agg v29, .func (.func 103) #[] #[.pointer (some ⟨b11, 0, none⟩), .pointer (some ⟨b19, 0, none⟩), .pointer (some ⟨b5, 0, none⟩), .pointer (some ⟨b26, 0, none⟩)]] H28 fun r30 H31 => r30 = .tuple #[] ∧ ∃ v32p v32l v32c, cell H31 ⟨b26, 0, none⟩ = some (.slice v32p v32l v32c) ∧ R (.slice v32p v32l v32c) H31)
 (br (Ki7 == 1)
 (∃ v33, v33.size = 8 ∧ rowIn H6 ⟨b3, 0, none⟩ v33 ∧ ∃ Ki34p Ki34l Ki34c, cell H6 (.add ⟨b5, 0, none⟩ 18) = some (.slice Ki34p Ki34l Ki34c) ∧ Tryz.C 30 #[.agg v33, .slice Ki34p Ki34l Ki34c] H6 fun r35 H36 => ∃ r37p r37l r37c, r35 = .slice r37p r37l r37c ∧ R (.slice r37p r37l r37c) H36)
 (R (.slice none 0 0) H6))
def Tryz.p62 : Plan := (tl (two (tl (one (tl (two (tl (tl (tl (tl (tl leaf))))) g0)))) (tl leaf)))
theorem Tryz.s62 {p1 l2 : AV} {H R} (h : Tryz.S62 p1 l2 H R) : Tryz.C 62 #[.agg p1, .agg l2] H R := vcs Tryz.tab_ok Tryz.mixed Tryz.func62 Tryz.cal62 Tryz.p62 h (by kernel_rfl)
def Tryz.S63 (p1 : AV) (do_2g : Nat) (do_2x do_2y : AV) (H : Heap) (R : Kv) : Prop :=
 alc H (.cells p1 79) fun b3 H4 => ∃ w5, cell H4 (.add ⟨b3, 0, none⟩ 6) = some (.int .i64 w5) ∧ ∃ h6, cell H4 (.add ⟨b3, 0, none⟩ 7) = some (.int .i64 h6) ∧ ∀ X7 : Kl, (∀ (i8 : Int) H9, (br (decide (i8 < (wrap .i64 (w5 * h6))))
 (∃ x10, cell H9 (.add ⟨b3, 0, none⟩ 4) = some (.int .i64 x10) ∧ ∃ w11, cell H9 (.add ⟨b3, 0, none⟩ 6) = some (.int .i64 w11) ∧ w11 ≠ 0 ∧ ∃ y12, cell H9 (.add ⟨b3, 0, none⟩ 5) = some (.int .i64 y12) ∧ ∃ w13, cell H9 (.add ⟨b3, 0, none⟩ 6) = some (.int .i64 w13) ∧ w13 ≠ 0 ∧ ∃ W14, cell H9 (.add (.add ⟨b3, 0, none⟩ 0) 0) = some (.int .i64 W14) ∧ Tryz.C do_2g (List.toArray (Array.toList do_2x ++ [Value.int .i64 i8, Value.int .i64 (wrap .i64 (x10 + (Int.tmod i8 w11))), Value.int .i64 (wrap .i64 (y12 + (wrap .i64 (Int.tdiv i8 w13)))), Value.int .i64 (wrap .i64 ((wrap .i64 ((wrap .i64 (y12 + (wrap .i64 (Int.tdiv i8 w13)))) * W14)) + (wrap .i64 (x10 + (Int.tmod i8 w11)))))] ++ Array.toList do_2y)) H9 fun r15 H16 => r15 = .tuple #[] ∧ X7 [.int .i64 (wrap .i64 (i8 + 1))] H16)
 (R (.tuple #[]) H9)) → X7 [.int .i64 i8] H9) → X7 [.int .i64 0] H4
def Tryz.p63 : Plan := (tl (tl (one (loop [(12, 3)] [1, 2, 11] (tl (two (tl leaf) (two (one (tl (tl leaf))) leaf)))))))
theorem Tryz.s63 {p1 : AV} {do_2g : Nat} {do_2x do_2y : AV} {H R} (h : Tryz.S63 p1 do_2g do_2x do_2y H R) : Tryz.C 63 #[.agg p1, .func (.func do_2g) do_2x do_2y] H R := vcs Tryz.tab_ok Tryz.mixed Tryz.func63 Tryz.cal63 Tryz.p63 h (by kernel_rfl)
end Go.Proofs
namespace Go.Proofs
open Go.Sh Go.Sh.Plan
open Go.IntKind (wrap)
open Int (toNat)
def Tryz.S64 (i1 v2 v3 at_4 : Int) (ad5 ad6 ad7 : Addr) (H : Heap) (R : Kv) : Prop :=
 ∃ v8, v8.size = 19 ∧ rowIn H ad5 v8 ∧ Tryz.C 65 #[.agg v8, .int .i64 at_4] H fun r9 H10 => ∃ f11, r9 = .int .i64 f11 ∧ ∃ v12p v12l v12c, cell H10 ad6 = some (.slice v12p v12l v12c) ∧ ∃ a13, v12p = some a13 ∧ 0 ≤ i1 ∧ i1 < (v12l : Int) ∧ ∃ v14, cell H10 (.add a13 (toNat i1 * 1)) = some (.int .i64 v14) ∧ br (v14 != 0) (br (decide (f11 > 0))
 (∃ v15p v15l v15c, cell H10 ad7 = some (.slice v15p v15l v15c) ∧ ∃ Mo16, cell H10 (.add ad5 4) = some (.int .i64 Mo16) ∧ ∃ v17p v17l v17c, cell H10 ad6 = some (.slice v17p v17l v17c) ∧ ∃ a18, v17p = some a18 ∧ 0 ≤ i1 ∧ i1 < (v17l : Int) ∧ ∃ v19, cell H10 (.add a18 (toNat i1 * 1)) = some (.int .i64 v19) ∧ ∃ v20p v20l v20c, cell H10 ad7 = some (.slice v20p v20l v20c) ∧ ∃ a21, v20p = some a21 ∧ 0 ≤ i1 ∧ i1 < (v20l : Int) ∧ ∃ v22, cell H10 (.add a21 (toNat i1 * 1)) = some (.int .i64 v22) ∧ Tryz.C 45 #[.int .i64 v19] H10 fun r23 H24 => ∃ r25, r23 = .agg r25 ∧ (Ext H10 H24 ∨ (∃ v48, cell H24 (.add a21 (toNat i1 * 1)) = some (.int .i64 v48) ∧ Value.int .i64 v48 = .int .i64 v22) ∧ (∃ v49p v49l v49c, cell H24 ad7 = some (.slice v49p v49l v49c) ∧ Value.slice v49p v49l v49c = .slice v20p v20l v20c) ∧ (∃ Mo50, cell H24 (.add ad5 4) = some (.int .i64 Mo50) ∧ Value.int .i64 Mo50 = .int .i64 Mo16) ∧ (∃ v51p v51l v51c, cell H24 ad7 = some (.slice v51p v51l v51c) ∧ Value.slice v51p v51l v51c = .slice v15p v15l v15c)) ∧ Tryz.C 68 #[.agg r25, .int .i64 f11] H24 fun r26 H27 => ∃ r28, r26 = .agg r28 ∧ (Ext H24 H27 ∨ (∃ v44, cell H27 (.add a21 (toNat i1 * 1)) = some (.int .i64 v44) ∧ Value.int .i64 v44 = .int .i64 v22) ∧ (∃ v45p v45l v45c, cell H27 ad7 = some (.slice v45p v45l v45c) ∧ Value.slice v45p v45l v45c = .slice v20p v20l v20c) ∧ (∃ Mo46, cell H27 (.add ad5 4) = some (.int .i64 Mo46) ∧ Value.int .i64 Mo46 = .int .i64 Mo16) ∧ (∃ v47p v47l v47c, cell H27 ad7 = some (.slice v47p v47l v47c) ∧ Value.slice v47p v47l v47c = .slice v15p v15l v15c)) ∧ Tryz.C 45 #[.int .i64 v22] H27 fun r29 H30 => ∃ r31, r29 = .agg r31 ∧ (Ext H27 H30 ∨ (∃ Mo42, cell H30 (.add ad5 4) = some (.int .i64 Mo42) ∧ Value.int .i64 Mo42 = .int .i64 Mo16) ∧ (∃ v43p v43l v43c, cell H30 ad7 = some (.slice v43p v43l v43c) ∧ Value.slice v43p v43l v43c = .slice v15p v15l v15c)) ∧ Tryz.C 67 #[.int .i64 Mo16, .agg r28, .agg r31] H30 fun r32 H33 => ∃ r34, r32 = .agg r34 ∧ (Ext H30 H33 ∨ (∃ v41p v41l v41c, cell H33 ad7 = some (.slice v41p v41l v41c) ∧ Value.slice v41p v41l v41c = .slice v15p v15l v15c)) ∧ Tryz.C 66 #[.agg r34] H33 fun r35 H36 => ∃ r37, r35 = .int .i64 r37 ∧ (Ext H33 H36 ∨ (∃ v40p v40l v40c, cell H36 ad7 = some (.slice v40p v40l v40c) ∧ Value.slice v40p v40l v40c = .slice v15p v15l v15c)) ∧ ∃ a38, v15p = some a38 ∧ 0 ≤ i1 ∧ i1 < (v15l : Int) ∧ stAt H36 (.add a38 (toNat i1 * 1)) [.int .i64 r37] fun H39 => R (.tuple #[]) H39)
 (R (.tuple #[]) H10)) (R (.tuple #[]) H10)
def Tryz.p64 : Plan := (tl (tl (tl leaf)))
theorem Tryz.s64 {i1 v2 v3 at_4 : Int} {ad5 ad6 ad7 : Addr} {H R} (h : Tryz.S64 i1 v2 v3 at_4 ad5 ad6 ad7 H R) : Tryz.C 64 #[.int .i64 i1, .int .i64 v2, .int .i64 v3, .int .i64 at_4, .pointer (some ad5), .pointer (some ad6), .pointer (some ad7)] H R := vcs Tryz.tab_ok Tryz.mixed Tryz.func64 Tryz.cal64 Tryz.p64 h (by kernel_rfl)
def Tryz.S65 (l1 : AV) (at_2 : Int) (H : Heap) (R : Kv) : Prop :=
 alc H (.cells l1 58) fun b3 H4 => ∃ Ma5p Ma5l Ma5c, cell H4 (.add ⟨b3, 0, none⟩ 8) = some (.slice Ma5p Ma5l Ma5c) ∧ br (((Ma5l : Int) : Int) == 0)
 (∃ Op6, cell H4 (.add ⟨b3, 0, none⟩ 3) = some (.int .i64 Op6) ∧ R (.int .i64 Op6) H4)
 (∃ Op7, cell H4 (.add ⟨b3, 0, none⟩ 3) = some (.int .i64 Op7) ∧ ∃ Ma8p Ma8l Ma8c, cell H4 (.add ⟨b3, 0, none⟩ 8) = some (.slice Ma8p Ma8l Ma8c) ∧ ∃ a9, Ma8p = some a9 ∧ 0 ≤ at_2 ∧ at_2 < (Ma8l : Int) ∧ ∃ v10, cell H4 (.add a9 (toNat at_2 * 1)) = some (.int .u8 v10) ∧ Tryz.C 102 #[.int .i64 Op7, .int .i64 (wrap .i64 v10)] H4 fun r11 H12 => ∃ r13, r11 = .int .i64 r13 ∧ R (.int .i64 r13) H12)
def Tryz.p65 : Plan := (tl (tg (tl leaf)))
theorem Tryz.s65 {l1 : AV} {at_2 : Int} {H R} (h : Tryz.S65 l1 at_2 H R) : Tryz.C 65 #[.agg l1, .int .i64 at_2] H R := vcs Tryz.tab_ok Tryz.mixed Tryz.func65 Tryz.cal65 Tryz.p65 h (by kernel_rfl)
def Tryz.S66 (c1 : AV) (H : Heap) (R : Kv) : Prop :=
 alc H (.cells c1 94) fun b2 H3 => 0 ≤ (0 : Int) ∧ (0 : Int) < ((4 : Nat) : Int) ∧ ∃ v4, cell H3 (.add ⟨b2, 0, none⟩ (toNat (0 : Int) * 1)) = some (.int .i64 v4) ∧ 0 ≤ (24 : Int) ∧ 0 ≤ (1 : Int) ∧ (1 : Int) < ((4 : Nat) : Int) ∧ ∃ v5, cell H3 (.add ⟨b2, 0, none⟩ (toNat (1 : Int) * 1)) = some (.int .i64 v5) ∧ 0 ≤ (16 : Int) ∧ 0 ≤ (2 : Int) ∧ (2 : Int) < ((4 : Nat) : Int) ∧ ∃ v6, cell H3 (.add ⟨b2, 0, none⟩ (toNat (2 : Int) * 1)) = some (.int .i64 v6) ∧ 0 ≤ (8 : Int) ∧ 0 ≤ (3 : Int) ∧ (3 : Int) < ((4 : Nat) : Int) ∧ ∃ v7, cell H3 (.add ⟨b2, 0, none⟩ (toNat (3 : Int) * 1)) = some (.int .i64 v7) ∧ R (.int .i64 (orI .i64 (orI .i64 (orI .i64 (shlI .i64 v4 24) (shlI .i64 v5 16)) (shlI .i64 v6 8)) v7)) H3
def Tryz.p66 : Plan := (tl (tl leaf))
theorem Tryz.s66 {c1 : AV} {H R} (h : Tryz.S66 c1 H R) : Tryz.C 66 #[.agg c1] H R := vcs Tryz.tab_ok Tryz.mixed Tryz.func66 Tryz.cal66 Tryz.p66 h (by kernel_rfl)
def Tryz.S67 (mo1 : Int) (s2 d3 : AV) (H : Heap) (R : Kv) : Prop :=
 alc H (.cells s2 94) fun b4 H5 => alc H5 (.cells d3 94) fun b6 H7 => alc H7 (.cells #[.int .i64 0, .int .i64 0, .int .i64 0, .int .i64 0] 94) fun b8 H9 => 0 ≤ (3 : Int) ∧ (3 : Int) < ((4 : Nat) : Int) ∧ ∃ v10, cell H9 (.add ⟨b4, 0, none⟩ (toNat (3 : Int) * 1)) = some (.int .i64 v10) ∧ 0 ≤ (3 : Int) ∧ (3 : Int) < ((4 : Nat) : Int) ∧ ∃ v11, cell H9 (.add ⟨b6, 0, none⟩ (toNat (3 : Int) * 1)) = some (.int .i64 v11) ∧ Tryz.C 102 #[.int .i64 v10, .int .i64 v11] H9 fun r12 H13 => ∃ bo14, r12 = .int .i64 bo14 ∧ 0 ≤ (3 : Int) ∧ (3 : Int) < ((4 : Nat) : Int) ∧ ∃ v15, cell H13 (.add ⟨b4, 0, none⟩ (toNat (3 : Int) * 1)) = some (.int .i64 v15) ∧ 0 ≤ (3 : Int) ∧ (3 : Int) < ((4 : Nat) : Int) ∧ ∃ v16, cell H13 (.add ⟨b6, 0, none⟩ (toNat (3 : Int) * 1)) = some (.int .i64 v16) ∧ alc H13 (.cells #[.int .i64 0, .int .i64 0, .int .i64 0, .int .i64 0] 94) fun b17 H18 => #[Value.int .i64 0, Value.int .i64 0, Value.int .i64 0, Value.int .i64 (wrap .i64 ((wrap .i64 (v15 + v16)) - bo14))].size = 4 ∧ stAt H18 ⟨b17, 0, none⟩ (Array.toList #[.int .i64 0, .int .i64 0, .int .i64 0, .int .i64 (wrap .i64 ((wrap .i64 (v15 + v16)) - bo14))]) fun H19 => ∀ X20 : Kl, (∀ (i21 : Int) H22, (br (decide (i21 < 3))
 (0 ≤ i21 ∧ i21 < ((4 : Nat) : Int) ∧ ∃ v23, cell H22 (.add ⟨b6, 0, none⟩ (toNat i21 * 1)) = some (.int .i64 v23) ∧ 0 ≤ (3 : Int) ∧ (3 : Int) < ((4 : Nat) : Int) ∧ ∃ v24, cell H22 (.add ⟨b6, 0, none⟩ (toNat (3 : Int) * 1)) = some (.int .i64 v24) ∧ 0 ≤ i21 ∧ i21 < ((4 : Nat) : Int) ∧ ∃ v25, cell H22 (.add ⟨b4, 0, none⟩ (toNat i21 * 1)) = some (.int .i64 v25) ∧ 0 ≤ (3 : Int) ∧ (3 : Int) < ((4 : Nat) : Int) ∧ ∃ v26, cell H22 (.add ⟨b4, 0, none⟩ (toNat (3 : Int) * 1)) = some (.int .i64 v26) ∧ Tryz.C 106 #[.int .i64 v23, .int .i64 v24] H22 fun r27 H28 => ∃ r29, r27 = .int .i64 r29 ∧ (Ext H22 H28 ∨ (∃ v56, cell H28 (.add ⟨b4, 0, none⟩ (toNat (3 : Int) * 1)) = some (.int .i64 v56) ∧ Value.int .i64 v56 = .int .i64 v26) ∧ (∃ v57, cell H28 (.add ⟨b4, 0, none⟩ (toNat i21 * 1)) = some (.int .i64 v57) ∧ Value.int .i64 v57 = .int .i64 v25)) ∧ Tryz.C 106 #[.int .i64 v25, .int .i64 v26] H28 fun r30 H31 => ∃ r32, r30 = .int .i64 r32 ∧ Tryz.C 105 #[.int .i64 mo1, .int .i64 r29, .int .i64 r32] H31 fun r33 H34 => ∃ b35, r33 = .int .i64 b35 ∧ 0 ≤ (3 : Int) ∧ (3 : Int) < ((4 : Nat) : Int) ∧ ∃ v36, cell H34 (.add ⟨b17, 0, none⟩ (toNat (3 : Int) * 1)) = some (.int .i64 v36) ∧ 0 ≤ i21 ∧ i21 < ((4 : Nat) : Int) ∧ ∃ v37, cell H34 (.add ⟨b4, 0, none⟩ (toNat i21 * 1)) = some (.int .i64 v37) ∧ 0 ≤ (3 : Int) ∧ (3 : Int) < ((4 : Nat) : Int) ∧ ∃ v38, cell H34 (.add ⟨b6, 0, none⟩ (toNat (3 : Int) * 1)) = some (.int .i64 v38) ∧ 0 ≤ i21 ∧ i21 < ((4 : Nat) : Int) ∧ ∃ v39, cell H34 (.add ⟨b6, 0, none⟩ (toNat i21 * 1)) = some (.int .i64 v39) ∧ 0 ≤ (3 : Int) ∧ (3 : Int) < ((4 : Nat) : Int) ∧ ∃ v40, cell H34 (.add ⟨b4, 0, none⟩ (toNat (3 : Int) * 1)) = some (.int .i64 v40) ∧ Tryz.C 102 #[.int .i64 v37, .int .i64 (wrap .i64 ((255 : Int) - v38))] H34 fun r41 H42 => ∃ r43, r41 = .int .i64 r43 ∧ (Ext H34 H42 ∨ (∃ v53, cell H42 (.add ⟨b4, 0, none⟩ (toNat (3 : Int) * 1)) = some (.int .i64 v53) ∧ Value.int .i64 v53 = .int .i64 v40) ∧ (∃ v54, cell H42 (.add ⟨b6, 0, none⟩ (toNat i21 * 1)) = some (.int .i64 v54) ∧ Value.int .i64 v54 = .int .i64 v39) ∧ (∃ v55, cell H42 (.add ⟨b17, 0, none⟩ (toNat (3 : Int) * 1)) = some (.int .i64 v55) ∧ Value.int .i64 v55 = .int .i64 v36)) ∧ Tryz.C 102 #[.int .i64 v39, .int .i64 (wrap .i64 ((255 : Int) - v40))] H42 fun r44 H45 => ∃ r46, r44 = .int .i64 r46 ∧ (Ext H42 H45 ∨ (∃ v52, cell H45 (.add ⟨b17, 0, none⟩ (toNat (3 : Int) * 1)) = some (.int .i64 v52) ∧ Value.int .i64 v52 = .int .i64 v36)) ∧ Tryz.C 102 #[.int .i64 bo14, .int .i64 b35] H45 fun r47 H48 => ∃ r49, r47 = .int .i64 r49 ∧ (Ext H45 H48 ∨ (∃ v51, cell H48 (.add ⟨b17, 0, none⟩ (toNat (3 : Int) * 1)) = some (.int .i64 v51) ∧ Value.int .i64 v51 = .int .i64 v36)) ∧ 0 ≤ i21 ∧ i21 < ((4 : Nat) : Int) ∧ stAt H48 (.add ⟨b17, 0, none⟩ (toNat i21 * 1)) [.int .i64 (min v36 (wrap .i64 ((wrap .i64 (r43 + r46)) + r49)))] fun H50 => X20 [.int .i64 (wrap .i64 (i21 + 1))] H50)
 (∃ v58, v58.size = 4 ∧ rowIn H22 ⟨b17, 0, none⟩ v58 ∧ v58.size = 4 ∧ stAt H22 ⟨b8, 0, none⟩ v58.toList fun H59 => ∃ re60, re60.size = 4 ∧ rowIn H59 ⟨b8, 0, none⟩ re60 ∧ R (.agg re60) H59)) → X20 [.int .i64 i21] H22) → X20 [.int .i64 0] H19
def Tryz.p67 : Plan := (tl (tl (tl (two (tl (one (loop [(24, 3)] [0, 4, 5, 6, 7, 8] (tl (two (tl leaf) (two (one (tl (tl leaf))) leaf)))))) (tl leaf)))))
theorem Tryz.s67 {mo1 : Int} {s2 d3 : AV} {H R} (h : Tryz.S67 mo1 s2 d3 H R) : Tryz.C 67 #[.int .i64 mo1, .agg s2, .agg d3] H R := vcs Tryz.tab_ok Tryz.mixed Tryz.func67 Tryz.cal67 Tryz.p67 h (by kernel_rfl)
def Tryz.S68 (p1 : AV) (a2 : Int) (H : Heap) (R : Kv) : Prop :=
 alc H (.cells p1 94) fun b3 H4 => alc H4 (.cells #[.int .i64 0, .int .i64 0, .int .i64 0, .int .i64 0] 94) fun b5 H6 => ∃ v7, v7.size = 4 ∧ rowIn H6 ⟨b3, 0, none⟩ v7 ∧ ∀ X8 : Kl, (∀ (i9 : Int) H10, (br (decide (i9 < 4))
 (0 ≤ i9 ∧ i9 < ((4 : Nat) : Int) ∧ ∃ c11, v7[(toNat i9 * 1)]? = some (.int .i64 c11) ∧ Tryz.C 102 #[.int .i64 c11, .int .i64 a2] H10 fun r12 H13 => ∃ r14, r12 = .int .i64 r14 ∧ 0 ≤ i9 ∧ i9 < ((4 : Nat) : Int) ∧ stAt H13 (.add ⟨b3, 0, none⟩ (toNat i9 * 1)) [.int .i64 r14] fun H15 => X8 [.int .i64 (wrap .i64 (i9 + 1))] H15)
 (∃ v16, v16.size = 4 ∧ rowIn H10 ⟨b3, 0, none⟩ v16 ∧ v16.size = 4 ∧ stAt H10 ⟨b5, 0, none⟩ v16.toList fun H17 => ∃ re18, re18.size = 4 ∧ rowIn H17 ⟨b5, 0, none⟩ re18 ∧ R (.agg re18) H17)) → X8 [.int .i64 i9] H10) → X8 [.int .i64 0] H6
def Tryz.p68 : Plan := (tl (two (tl (one (loop [(8, 3)] [1, 2, 4, 7] (tl (two (tl leaf) (two (one (tl leaf)) leaf)))))) (tl leaf)))
theorem Tryz.s68 {p1 : AV} {a2 : Int} {H R} (h : Tryz.S68 p1 a2 H R) : Tryz.C 68 #[.agg p1, .int .i64 a2] H R := vcs Tryz.tab_ok Tryz.mixed Tryz.func68 Tryz.cal68 Tryz.p68 h (by kernel_rfl)
def Tryz.S69  (H : Heap) (R : Kv) : Prop :=
 alc H (.cells #[.int .i64 0, .int .i64 0, .int .i64 0, .int .i64 0, .int .i64 0, .int .i64 0] 50) fun b1 H2 => #[Value.int .i64 65536, Value.int .i64 0, Value.int .i64 0, Value.int .i64 65536, Value.int .i64 0, Value.int .i64 0].size = 6 ∧ stAt H2 ⟨b1, 0, none⟩ (Array.toList #[.int .i64 65536, .int .i64 0, .int .i64 0, .int .i64 65536, .int .i64 0, .int .i64 0]) fun H3 => ∃ re4, re4.size = 6 ∧ rowIn H3 ⟨b1, 0, none⟩ re4 ∧ R (.agg re4) H3
def Tryz.p69 : Plan := (tl (tl leaf))
theorem Tryz.s69 {_u : Unit} {H R} (h : Tryz.S69  H R) : Tryz.C 69 #[] H R := vcs Tryz.tab_ok Tryz.mixed Tryz.func69 Tryz.cal69 Tryz.p69 h (by kernel_rfl)
def Tryz.S70 (w1 : AV) (H : Heap) (R : Kv) : Prop :=
 alc H (.cells w1 86) fun b2 H3 => ∃ To4, cell H3 (.add (.add ⟨b2, 0, none⟩ 2) 2) = some (.int .i64 To4) ∧ br (To4 == 0)
 (∃ ro5, cell H3 (.add ⟨b2, 0, none⟩ 0) = some (.pointer ro5) ∧ R (.tuple #[.pointer ro5, .int .i64 0]) H3)
 (∃ ro6, cell H3 (.add ⟨b2, 0, none⟩ 0) = some (.pointer ro6) ∧ ∃ To7, cell H3 (.add (.add ⟨b2, 0, none⟩ 2) 2) = some (.int .i64 To7) ∧ Tryz.C 43 #[.pointer ro6, .int .i64 To7] H3 fun r8 H9 => ∃ r10 r11 r12, r8 = .tuple #[.pointer r10, .pointer r11, .int .i64 r12] ∧ br (Option.isNone r10)
 (R (.tuple #[.pointer none, .int .i64 40]) H9)
 (∃ a13, r10 = some a13 ∧ ∃ Ki14, cell H9 (.add a13 1) = some (.int .i64 Ki14) ∧ br (Ki14 != 1)
 (R (.tuple #[.pointer none, .int .i64 41]) H9)
 (R (.tuple #[.pointer r10, .int .i64 0]) H9)))
def Tryz.p70 : Plan := (tl (tg (tl (two (one (tl (two (tl leaf) g0))) (tl leaf)))))
theorem Tryz.s70 {w1 : AV} {H R} (h : Tryz.S70 w1 H R) : Tryz.C 70 #[.agg w1] H R := vcs Tryz.tab_ok Tryz.mixed Tryz.func70 Tryz.cal70 Tryz.p70 h (by kernel_rfl)
def Tryz.S71 (li1p : OA) (li1l li1c : Nat) (H : Heap) (R : Kv) : Prop :=
 ∀ X2 : Kl, (∀ (n3 t4 : Int) H5, (br (decide (t4 < (li1l : Int)))
 (∃ a6, li1p = some a6 ∧ 0 ≤ t4 ∧ t4 < (li1l : Int) ∧ ∃ v7, v7.size = 19 ∧ rowIn H5 (.add a6 (toNat t4 * 19)) v7 ∧ alc H5 (.cells #[.int .i64 0, .int .i64 0, .bool false, .int .i64 0, .int .i64 0, .int .i64 0, .int .i64 0, .slice none 0 0, .slice none 0 0, .int .i64 0, .int .i64 0, .int .i64 0, .int .i64 0, .int .i64 0, .int .i64 0, .bool false, .int .i64 0, .slice none 0 0, .slice none 0 0] 58) fun b8 H9 => v7.size = 19 ∧ stAt H9 ⟨b8, 0, none⟩ v7.toList fun H10 => ∃ Ki11p Ki11l Ki11c, cell H10 (.add ⟨b8, 0, none⟩ 18) = some (.slice Ki11p Ki11l Ki11c) ∧ Tryz.C 71 #[.slice Ki11p Ki11l Ki11c] H10 fun r12 H13 => ∃ r14, r12 = .int .i64 r14 ∧ X2 [.int .i64 (wrap .i64 (n3 + r14)), .int .i64 (wrap .i64 (t4 + 1))] H13)
 (R (.int .i64 n3) H5)) → X2 [.int .i64 n3, .int .i64 t4] H5) → X2 [.int .i64 (li1l : Int), .int .i64 0] H
def Tryz.p71 : Plan := (tl (tl (two (tl (one (loop [(3, 3), (10, 3)] [8, 9] (tl (two (tl leaf) (two (one (tl leaf)) leaf)))))) (tl leaf))))
theorem Tryz.s71 {li1p : OA} {li1l li1c : Nat} {H R} (h : Tryz.S71 li1p li1l li1c H R) : Tryz.C 71 #[.slice li1p li1l li1c] H R := vcs Tryz.tab_ok Tryz.mixed Tryz.func71 Tryz.cal71 Tryz.p71 h (by kernel_rfl)
def Tryz.S72 (w1 : AV) (to2 : OA) (l3 : AV) (H : Heap) (R : Kv) : Prop :=
 alc H (.cells w1 86) fun b4 H5 => alc H5 (.cells l3 58) fun b6 H7 => ∃ At8, cell H7 (.add (.add ⟨b4, 0, none⟩ 2) 3) = some (.int .i64 At8) ∧ ∀ J9 : Kl, (∀ (at_10 : Int) H11, (∀ J12 : Kl, (∀ H13, (∃ a14, to2 = some a14 ∧ ∃ Ki15p Ki15l Ki15c, cell H13 (.add a14 18) = some (.slice Ki15p Ki15l Ki15c) ∧ ∃ v16, v16.size = 19 ∧ rowIn H13 ⟨b6, 0, none⟩ v16 ∧ v16.size = 19 ∧ 0 + 19 ≤ 19 ∧ alc H13 (.cells (List.toArray (setL [.int .i64 0, .int .i64 0, .bool false, .int .i64 0, .int .i64 0, .int .i64 0, .int .i64 0, .slice none 0 0, .slice none 0 0, .int .i64 0, .int .i64 0, .int .i64 0, .int .i64 0, .int .i64 0, .int .i64 0, .bool false, .int .i64 0, .slice none 0 0, .slice none 0 0] 0 v16.toList)) 58) fun b17 H18 => (Ext H13 H18 ∨ (∃ Ki30p Ki30l Ki30c, cell H18 (.add a14 18) = some (.slice Ki30p Ki30l Ki30c) ∧ Value.slice Ki30p Ki30l Ki30c = .slice Ki15p Ki15l Ki15c)) ∧ Tryz.C 107 #[.slice Ki15p Ki15l Ki15c, .int .i64 at_10, .slice (some ⟨b17, 0, none⟩) 1 1] H18 fun r19 H20 => ∃ r21p r21l r21c, r19 = .slice r21p r21l r21c ∧ ∃ a22, to2 = some a22 ∧ stAt H20 (.add a22 18) [.slice r21p r21l r21c] fun H23 => ∃ ro24, cell H23 (.add ⟨b4, 0, none⟩ 0) = some (.pointer ro24) ∧ ∃ a25, ro24 = some a25 ∧ ∃ Ki26p Ki26l Ki26c, cell H23 (.add a25 18) = some (.slice Ki26p Ki26l Ki26c) ∧ Tryz.C 42 #[.slice Ki26p Ki26l Ki26c] H23 fun r27 H28 => ∃ r29, r27 = .int .i64 r29 ∧ br (decide (r29 > 64))
 (R (.int .i64 31) H28)
 (R (.int .i64 0) H28)) → J12 [] H13) →
 br (decide (at_10 < 0)) (R (.int .i64 43) H11) (∃ a31, to2 = some a31 ∧ ∃ Ki32p Ki32l Ki32c, cell H11 (.add a31 18) = some (.slice Ki32p Ki32l Ki32c) ∧ br (decide (at_10 > (Ki32l : Int)))
 (R (.int .i64 43) H11)
 (J12 [] H11))) → J9 [.int .i64 at_10] H11) →
 br (At8 == (-1 : Int))
 (∃ a33, to2 = some a33 ∧ ∃ Ki34p Ki34l Ki34c, cell H7 (.add a33 18) = some (.slice Ki34p Ki34l Ki34c) ∧ J9 [.int .i64 (Ki34l : Int)] H7)
 (J9 [.int .i64 At8] H7)
def Tryz.p72 : Plan := (tl (tl (two (join [(7, 3)] [1, 3, 5] (tl (tl leaf))) (two (join [] [1, 3, 5, 7] g0) (tl (tg (tl leaf)))))))
theorem Tryz.s72 {w1 : AV} {to2 : OA} {l3 : AV} {H R} (h : Tryz.S72 w1 to2 l3 H R) : Tryz.C 72 #[.agg w1, .pointer to2, .agg l3] H R := vcs Tryz.tab_ok Tryz.mixed Tryz.func72 Tryz.cal72 Tryz.p72 h (by kernel_rfl)
def Tryz.S73 (s1p : OA) (s1l s1c : Nat) (i2 j3 : Int) (H : Heap) (R : Kv) : Prop :=
 0 ≤ (s1l : Int) ∧ (s1l : Int) ≤ (s1c : Int) ∧ 0 ≤ j3 ∧ j3 ≤ (s1l : Int) ∧ 0 ≤ i2 ∧ i2 ≤ j3 ∧ br (i2 == j3)
 (R (.slice s1p s1l s1c) H)
 (0 ≤ i2 ∧ i2 ≤ (s1c : Int) ∧ 0 ≤ j3 ∧ j3 ≤ (s1l : Int) ∧ appQ 19 216 #[.int .i64 0, .int .i64 0, .bool false, .int .i64 0, .int .i64 0, .int .i64 0, .int .i64 0, .slice none 0 0, .slice none 0 0, .int .i64 0, .int .i64 0, .int .i64 0, .int .i64 0, .int .i64 0, .int .i64 0, .bool false, .int .i64 0, .slice none 0 0, .slice none 0 0] H (if s1c = 0 then s1p else Option.map (fun x => Addr.add x (0 * 19)) s1p) ((toNat i2) - 0) (s1c - 0) (if s1c = (toNat j3) then s1p else Option.map (fun x => Addr.add x ((toNat j3) * 19)) s1p) (s1l - (toNat j3)) 58 fun s4p s4l s4c H5 => 0 ≤ (s1l : Int) ∧ (s1l : Int) ≤ (s4c : Int) ∧ 0 ≤ (s4l : Int) ∧ (s4l : Int) ≤ (s1l : Int) ∧ clrQ H5 (if s4c = (toNat (s4l : Int)) then s4p else Option.map (fun x => Addr.add x ((toNat (s4l : Int)) * 19)) s4p) ((toNat (s1l : Int)) - (toNat (s4l : Int))) #[.int .i64 0, .int .i64 0, .bool false, .int .i64 0, .int .i64 0, .int .i64 0, .int .i64 0, .slice none 0 0, .slice none 0 0, .int .i64 0, .int .i64 0, .int .i64 0, .int .i64 0, .int .i64 0, .int .i64 0, .bool false, .int .i64 0, .slice none 0 0, .slice none 0 0] fun H6 => R (.slice s4p s4l s4c) H6)
def Tryz.p73 : Plan := (tl (tl (tg (tl (tl (tl (tl leaf)))))))
theorem Tryz.s73 {s1p : OA} {s1l s1c : Nat} {i2 j3 : Int} {H R} (h : Tryz.S73 s1p s1l s1c i2 j3 H R) : Tryz.C 73 #[.slice s1p s1l s1c, .int .i64 i2, .int .i64 j3] H R := vcs Tryz.tab_ok Tryz.mixed Tryz.func73 Tryz.cal73 Tryz.p73 h (by kernel_rfl)
def Tryz.S74 (w1 : AV) (H : Heap) (R : Kv) : Prop :=
 alc H (.cells w1 86) fun b2 H3 => ∃ ro4, cell H3 (.add ⟨b2, 0, none⟩ 0) = some (.pointer ro4) ∧ ∃ ID5, cell H3 (.add (.add ⟨b2, 0, none⟩ 2) 1) = some (.int .i64 ID5) ∧ Tryz.C 43 #[.pointer ro4, .int .i64 ID5] H3 fun r6 H7 => ∃ r8 r9 r10, r6 = .tuple #[.pointer r8, .pointer r9, .int .i64 r10] ∧ br (Option.isNone r8)
 (R (.tuple #[.pointer none, .int .i64 40]) H7)
 (R (.tuple #[.pointer r8, .int .i64 0]) H7)
def Tryz.p74 : Plan := (tl (tl (tg (tl leaf))))
theorem Tryz.s74 {w1 : AV} {H R} (h : Tryz.S74 w1 H R) : Tryz.C 74 #[.agg w1] H R := vcs Tryz.tab_ok Tryz.mixed Tryz.func74 Tryz.cal74 Tryz.p74 h (by kernel_rfl)
def Tryz.S75 (s1p : OA) (s1l s1c f2g : Nat) (f2x f2y : AV) (H : Heap) (R : Kv) : Prop :=
 Tryz.C 108 #[.slice s1p s1l s1c, .func (.func f2g) f2x f2y] H fun r3 H4 => ∃ r5, r3 = .int .i64 r5 ∧ R (.bool (decide (r5 ≥ 0))) H4
def Tryz.p75 : Plan := (tl (tl leaf))
theorem Tryz.s75 {s1p : OA} {s1l s1c f2g : Nat} {f2x f2y : AV} {H R} (h : Tryz.S75 s1p s1l s1c f2g f2x f2y H R) : Tryz.C 75 #[.slice s1p s1l s1c, .func (.func f2g) f2x f2y] H R := vcs Tryz.tab_ok Tryz.mixed Tryz.func75 Tryz.cal75 Tryz.p75 h (by kernel_rfl)
def Tryz.S76 (v1 : Int) (H : Heap) (R : Kv) : Prop :=
 Tryz.C 77 #[.int .i64 v1] H fun r2 H3 => ∃ r4, r2 = .bool r4 ∧ R (.bool (!r4)) H3
def Tryz.p76 : Plan := (tl (tl leaf))
theorem Tryz.s76 {v1 : Int} {H R} (h : Tryz.S76 v1 H R) : Tryz.C 76 #[.int .i64 v1] H R := vcs Tryz.tab_ok Tryz.mixed Tryz.func76 Tryz.cal76 Tryz.p76 h (by kernel_rfl)
def Tryz.S77 (v1 : Int) (H : Heap) (R : Kv) : Prop :=
 Tryz.C 45 #[.int .i64 v1] H fun r2 H3 => ∃ r4, r2 = .agg r4 ∧ alc H3 (.cells #[.int .i64 0, .int .i64 0, .int .i64 0, .int .i64 0] 94) fun b5 H6 => r4.size = 4 ∧ stAt H6 ⟨b5, 0, none⟩ r4.toList fun H7 => br (decide (v1 ≥ 0)) (br (decide (v1 < 4294967296)) (0 ≤ (0 : Int) ∧ (0 : Int) < ((4 : Nat) : Int) ∧ ∃ v8, cell H7 (.add ⟨b5, 0, none⟩ (toNat (0 : Int) * 1)) = some (.int .i64 v8) ∧ 0 ≤ (1 : Int) ∧ (1 : Int) < ((4 : Nat) : Int) ∧ ∃ v9, cell H7 (.add ⟨b5, 0, none⟩ (toNat (1 : Int) * 1)) = some (.int .i64 v9) ∧ 0 ≤ (2 : Int) ∧ (2 : Int) < ((4 : Nat) : Int) ∧ ∃ v10, cell H7 (.add ⟨b5, 0, none⟩ (toNat (2 : Int) * 1)) = some (.int .i64 v10) ∧ 0 ≤ (3 : Int) ∧ (3 : Int) < ((4 : Nat) : Int) ∧ ∃ v11, cell H7 (.add ⟨b5, 0, none⟩ (toNat (3 : Int) * 1)) = some (.int .i64 v11) ∧ R (.bool (decide (((max (max v8 v9) v10) : Int) ≤ v11))) H7) (R (.bool false) H7)) (R (.bool false) H7)
def Tryz.p77 : Plan := (tl (tl (tl leaf)))
theorem Tryz.s77 {v1 : Int} {H R} (h : Tryz.S77 v1 H R) : Tryz.C 77 #[.int .i64 v1] H R := vcs Tryz.tab_ok Tryz.mixed Tryz.func77 Tryz.cal77 Tryz.p77 h (by kernel_rfl)
def Tryz.S78 (sh1p : OA) (sh1l sh1c : Nat) (w2 h3 : Int) (H : Heap) (R : Kv) : Prop :=
 Tryz.C 109 #[.slice sh1p sh1l sh1c, .slice none 0 0] H fun r4 H5 => ∃ e6, r4 = .int .i64 e6 ∧ br (e6 != 0)
 (R (.tuple #[.slice none 0 0, .int .i64 e6]) H5)
 (∀ J7 : Kl, (∀ H8, (0 ≤ (wrap .i64 (w2 * h3)) ∧ (wrap .i64 (w2 * h3)) ≤ (wrap .i64 (w2 * h3)) ∧ ((1 : Nat) : Int) * (wrap .i64 (w2 * h3)) ≤ 281474976710656 ∧ (wrap .i64 (w2 * h3)) ≤ 281474976710656 ∧ alc H8 (.cells (List.toArray (reps (toNat (wrap .i64 (w2 * h3))) (Array.toList #[.int .u8 0]))) 5) fun b9 H10 => ∀ X11 : Kl, (∀ (i12 : Int) H13, (br (decide (i12 < (((toNat (wrap .i64 (w2 * h3))) : Nat) : Int)))
 (w2 ≠ 0 ∧ w2 ≠ 0 ∧ Tryz.C 110 #[.slice sh1p sh1l sh1c, .int .i64 (Int.tmod i12 w2), .int .i64 (wrap .i64 (Int.tdiv i12 w2))] H13 fun r14 H15 => ∃ r16, r14 = .bool r16 ∧ br r16
 (∃ a17, (some ⟨b9, 0, none⟩) = some a17 ∧ 0 ≤ i12 ∧ i12 < (((toNat (wrap .i64 (w2 * h3))) : Nat) : Int) ∧ stAt H15 (.add a17 (toNat i12 * 1)) [.int .u8 255] fun H18 => X11 [.int .i64 (wrap .i64 (i12 + 1))] H18)
 (X11 [.int .i64 (wrap .i64 (i12 + 1))] H15))
 (R (.tuple #[.slice (some ⟨b9, 0, none⟩) (toNat (wrap .i64 (w2 * h3))) (toNat (wrap .i64 (w2 * h3))), .int .i64 0]) H13)) → X11 [.int .i64 i12] H13) → X11 [.int .i64 0] H10) → J7 [] H8) →
 br (decide (w2 < 0)) (R (.tuple #[.slice none 0 0, .int .i64 31]) H5) (br (decide (h3 < 0)) (R (.tuple #[.slice none 0 0, .int .i64 31]) H5) (br (decide (w2 > 32768)) (R (.tuple #[.slice none 0 0, .int .i64 31]) H5) (br (decide (h3 > 32768)) (R (.tuple #[.slice none 0 0, .int .i64 31]) H5) (br (decide (((wrap .i64 (w2 * h3)) : Int) > 4194304))
 (R (.tuple #[.slice none 0 0, .int .i64 31]) H5)
 (J7 [] H5))))))
def Tryz.p78 : Plan := (tl (two (tl g0) (two (join [] [0, 1, 2] g0) (tl (two (tl (one (loop [(42, 3)] [0, 1, 9, 41] (tl (two (tl leaf) (two (one (tl (tl (tl leaf)))) leaf)))))) (tl leaf))))))
theorem Tryz.s78 {sh1p : OA} {sh1l sh1c : Nat} {w2 h3 : Int} {H R} (h : Tryz.S78 sh1p sh1l sh1c w2 h3 H R) : Tryz.C 78 #[.slice sh1p sh1l sh1c, .int .i64 w2, .int .i64 h3] H R := vcs Tryz.tab_ok Tryz.mixed Tryz.func78 Tryz.cal78 Tryz.p78 h (by kernel_rfl)
def Tryz.S79 (m1 : AV) (H : Heap) (R : Kv) : Prop :=
 alc H (.cells m1 50) fun b2 H3 => alc H3 (.cells #[.int .i64 0, .int .i64 0, .int .i64 0, .int .i64 0, .int .i64 0, .int .i64 0] 50) fun b4 H5 => ∃ v6, v6.size = 6 ∧ rowIn H5 ⟨b2, 0, none⟩ v6 ∧ Tryz.C 111 #[.agg v6] H5 fun r7 H8 => ∃ r9, r7 = .bool r9 ∧ br (!r9)
 (#[Value.int .i64 0, Value.int .i64 0, Value.int .i64 0, Value.int .i64 0, Value.int .i64 0, Value.int .i64 0].size = 6 ∧ stAt H8 ⟨b4, 0, none⟩ (Array.toList #[.int .i64 0, .int .i64 0, .int .i64 0, .int .i64 0, .int .i64 0, .int .i64 0]) fun H10 => ∃ re11, re11.size = 6 ∧ rowIn H10 ⟨b4, 0, none⟩ re11 ∧ R (.tuple #[.agg re11, .int .i64 31]) H10)
 (0 ≤ (0 : Int) ∧ (0 : Int) < ((6 : Nat) : Int) ∧ ∃ v12, cell H8 (.add ⟨b2, 0, none⟩ (toNat (0 : Int) * 1)) = some (.int .i64 v12) ∧ 0 ≤ (3 : Int) ∧ (3 : Int) < ((6 : Nat) : Int) ∧ ∃ v13, cell H8 (.add ⟨b2, 0, none⟩ (toNat (3 : Int) * 1)) = some (.int .i64 v13) ∧ 0 ≤ (1 : Int) ∧ (1 : Int) < ((6 : Nat) : Int) ∧ ∃ v14, cell H8 (.add ⟨b2, 0, none⟩ (toNat (1 : Int) * 1)) = some (.int .i64 v14) ∧ 0 ≤ (2 : Int) ∧ (2 : Int) < ((6 : Nat) : Int) ∧ ∃ v15, cell H8 (.add ⟨b2, 0, none⟩ (toNat (2 : Int) * 1)) = some (.int .i64 v15) ∧ br (((wrap .i64 ((wrap .i64 (v12 * v13)) - (wrap .i64 (v14 * v15)))) : Int) == 0)
 (#[Value.int .i64 0, Value.int .i64 0, Value.int .i64 0, Value.int .i64 0, Value.int .i64 0, Value.int .i64 0].size = 6 ∧ stAt H8 ⟨b4, 0, none⟩ (Array.toList #[.int .i64 0, .int .i64 0, .int .i64 0, .int .i64 0, .int .i64 0, .int .i64 0]) fun H16 => ∃ re17, re17.size = 6 ∧ rowIn H16 ⟨b4, 0, none⟩ re17 ∧ R (.tuple #[.agg re17, .int .i64 33]) H16)
 (∀ J18 : Kl, (∀ (ou19 : Addr) H20, (∃ v21, v21.size = 6 ∧ rowIn H20 ou19 v21 ∧ Tryz.C 111 #[.agg v21] H20 fun r22 H23 => ∃ r24, r22 = .bool r24 ∧ br (!r24)
 (#[Value.int .i64 0, Value.int .i64 0, Value.int .i64 0, Value.int .i64 0, Value.int .i64 0, Value.int .i64 0].size = 6 ∧ stAt H23 ⟨b4, 0, none⟩ (Array.toList #[.int .i64 0, .int .i64 0, .int .i64 0, .int .i64 0, .int .i64 0, .int .i64 0]) fun H25 => ∃ re26, re26.size = 6 ∧ rowIn H25 ⟨b4, 0, none⟩ re26 ∧ R (.tuple #[.agg re26, .int .i64 33]) H25)
 (0 ≤ (0 : Int) ∧ (0 : Int) < ((6 : Nat) : Int) ∧ ∃ v27, cell H23 (.add ou19 (toNat (0 : Int) * 1)) = some (.int .i64 v27) ∧ 0 ≤ (4 : Int) ∧ (4 : Int) < ((6 : Nat) : Int) ∧ ∃ v28, cell H23 (.add ⟨b2, 0, none⟩ (toNat (4 : Int) * 1)) = some (.int .i64 v28) ∧ 0 ≤ (1 : Int) ∧ (1 : Int) < ((6 : Nat) : Int) ∧ ∃ v29, cell H23 (.add ou19 (toNat (1 : Int) * 1)) = some (.int .i64 v29) ∧ 0 ≤ (5 : Int) ∧ (5 : Int) < ((6 : Nat) : Int) ∧ ∃ v30, cell H23 (.add ⟨b2, 0, none⟩ (toNat (5 : Int) * 1)) = some (.int .i64 v30) ∧ Tryz.C 113 #[.int .i64 (wrap .i64 (0 - (wrap .i64 ((wrap .i64 (v27 * v28)) + (wrap .i64 (v29 * v30))))))] H23 fun r31 H32 => ∃ r33, r31 = .int .i64 r33 ∧ 0 ≤ (4 : Int) ∧ (4 : Int) < ((6 : Nat) : Int) ∧ stAt H32 (.add ou19 (toNat (4 : Int) * 1)) [.int .i64 r33] fun H34 => 0 ≤ (2 : Int) ∧ (2 : Int) < ((6 : Nat) : Int) ∧ ∃ v35, cell H34 (.add ou19 (toNat (2 : Int) * 1)) = some (.int .i64 v35) ∧ 0 ≤ (4 : Int) ∧ (4 : Int) < ((6 : Nat) : Int) ∧ ∃ v36, cell H34 (.add ⟨b2, 0, none⟩ (toNat (4 : Int) * 1)) = some (.int .i64 v36) ∧ 0 ≤ (3 : Int) ∧ (3 : Int) < ((6 : Nat) : Int) ∧ ∃ v37, cell H34 (.add ou19 (toNat (3 : Int) * 1)) = some (.int .i64 v37) ∧ 0 ≤ (5 : Int) ∧ (5 : Int) < ((6 : Nat) : Int) ∧ ∃ v38, cell H34 (.add ⟨b2, 0, none⟩ (toNat (5 : Int) * 1)) = some (.int .i64 v38) ∧ Tryz.C 113 #[.int .i64 (wrap .i64 (0 - (wrap .i64 ((wrap .i64 (v35 * v36)) + (wrap .i64 (v37 * v38))))))] H34 fun r39 H40 => ∃ r41, r39 = .int .i64 r41 ∧ 0 ≤ (5 : Int) ∧ (5 : Int) < ((6 : Nat) : Int) ∧ stAt H40 (.add ou19 (toNat (5 : Int) * 1)) [.int .i64 r41] fun H42 => ∃ v43, v43.size = 6 ∧ rowIn H42 ou19 v43 ∧ Tryz.C 111 #[.agg v43] H42 fun r44 H45 => ∃ r46, r44 = .bool r46 ∧ br (!r46)
 (#[Value.int .i64 0, Value.int .i64 0, Value.int .i64 0, Value.int .i64 0, Value.int .i64 0, Value.int .i64 0].size = 6 ∧ stAt H45 ⟨b4, 0, none⟩ (Array.toList #[.int .i64 0, .int .i64 0, .int .i64 0, .int .i64 0, .int .i64 0, .int .i64 0]) fun H47 => ∃ re48, re48.size = 6 ∧ rowIn H47 ⟨b4, 0, none⟩ re48 ∧ R (.tuple #[.agg re48, .int .i64 33]) H47)
 (∃ v49, v49.size = 6 ∧ rowIn H45 ou19 v49 ∧ v49.size = 6 ∧ stAt H45 ⟨b4, 0, none⟩ v49.toList fun H50 => ∃ re51, re51.size = 6 ∧ rowIn H50 ⟨b4, 0, none⟩ re51 ∧ R (.tuple #[.agg re51, .int .i64 0]) H50))) → J18 [.pointer (some ou19)] H20) →
 0 ≤ (3 : Int) ∧ (3 : Int) < ((6 : Nat) : Int) ∧ ∃ v52, cell H8 (.add ⟨b2, 0, none⟩ (toNat (3 : Int) * 1)) = some (.int .i64 v52) ∧ 0 ≤ (32 : Int) ∧ 0 ≤ (1 : Int) ∧ (1 : Int) < ((6 : Nat) : Int) ∧ ∃ v53, cell H8 (.add ⟨b2, 0, none⟩ (toNat (1 : Int) * 1)) = some (.int .i64 v53) ∧ 0 ≤ (32 : Int) ∧ 0 ≤ (2 : Int) ∧ (2 : Int) < ((6 : Nat) : Int) ∧ ∃ v54, cell H8 (.add ⟨b2, 0, none⟩ (toNat (2 : Int) * 1)) = some (.int .i64 v54) ∧ 0 ≤ (32 : Int) ∧ 0 ≤ (0 : Int) ∧ (0 : Int) < ((6 : Nat) : Int) ∧ ∃ v55, cell H8 (.add ⟨b2, 0, none⟩ (toNat (0 : Int) * 1)) = some (.int .i64 v55) ∧ 0 ≤ (32 : Int) ∧ (Tryz.C 112 #[.int .i64 (shlI .i64 v52 32), .int .i64 (wrap .i64 ((wrap .i64 (v12 * v13)) - (wrap .i64 (v14 * v15))))] H8 fun r56 H57 => ∃ r58, r56 = .int .i64 r58 ∧ (Ext H8 H57 ∨ (∃ v111, cell H57 (.add ⟨b2, 0, none⟩ (toNat (0 : Int) * 1)) = some (.int .i64 v111) ∧ Value.int .i64 v111 = .int .i64 v55) ∧ (∃ v112, cell H57 (.add ⟨b2, 0, none⟩ (toNat (2 : Int) * 1)) = some (.int .i64 v112) ∧ Value.int .i64 v112 = .int .i64 v54) ∧ (∃ v113, cell H57 (.add ⟨b2, 0, none⟩ (toNat (1 : Int) * 1)) = some (.int .i64 v113) ∧ Value.int .i64 v113 = .int .i64 v53)) ∧ (Tryz.C 112 #[.int .i64 (shlI .i64 (wrap .i64 (0 - v53)) 32), .int .i64 (wrap .i64 ((wrap .i64 (v12 * v13)) - (wrap .i64 (v14 * v15))))] H57 fun r59 H60 => ∃ r61, r59 = .int .i64 r61 ∧ (Ext H57 H60 ∨ (∃ v91, cell H60 (.add ⟨b2, 0, none⟩ (toNat (0 : Int) * 1)) = some (.int .i64 v91) ∧ Value.int .i64 v91 = .int .i64 v55) ∧ (∃ v92, cell H60 (.add ⟨b2, 0, none⟩ (toNat (2 : Int) * 1)) = some (.int .i64 v92) ∧ Value.int .i64 v92 = .int .i64 v54)) ∧ (Tryz.C 112 #[.int .i64 (shlI .i64 (wrap .i64 (0 - v54)) 32), .int .i64 (wrap .i64 ((wrap .i64 (v12 * v13)) - (wrap .i64 (v14 * v15))))] H60 fun r62 H63 => ∃ r64, r62 = .int .i64 r64 ∧ (Ext H60 H63 ∨ (∃ v78, cell H63 (.add ⟨b2, 0, none⟩ (toNat (0 : Int) * 1)) = some (.int .i64 v78) ∧ Value.int .i64 v78 = .int .i64 v55)) ∧ (Tryz.C 112 #[.int .i64 (shlI .i64 v55 32), .int .i64 (wrap .i64 ((wrap .i64 (v12 * v13)) - (wrap .i64 (v14 * v15))))] H63 fun r65 H66 => ∃ r67, r65 = .int .i64 r67 ∧ alc H66 (.cells #[.int .i64 0, .int .i64 0, .int .i64 0, .int .i64 0, .int .i64 0, .int .i64 0] 50) fun b68 H69 => #[Value.int .i64 r58, Value.int .i64 r61, Value.int .i64 r64, Value.int .i64 r67, Value.int .i64 0, Value.int .i64 0].size = 6 ∧ stAt H69 ⟨b68, 0, none⟩ (Array.toList #[.int .i64 r58, .int .i64 r61, .int .i64 r64, .int .i64 r67, .int .i64 0, .int .i64 0]) fun H70 => J18 [.pointer (some ⟨b68, 0, none⟩)] H70) ∧ (alc H63 (.cells #[.int .i64 0, .int .i64 0, .int .i64 0, .int .i64 0, .int .i64 0, .int .i64 0] 50) fun b71 H72 => (Ext H63 H72 ∨ (∃ v77, cell H72 (.add ⟨b2, 0, none⟩ (toNat (0 : Int) * 1)) = some (.int .i64 v77) ∧ Value.int .i64 v77 = .int .i64 v55)) ∧ Tryz.C 112 #[.int .i64 (shlI .i64 v55 32), .int .i64 (wrap .i64 ((wrap .i64 (v12 * v13)) - (wrap .i64 (v14 * v15))))] H72 fun r73 H74 => ∃ r75, r73 = .int .i64 r75 ∧ #[Value.int .i64 r58, Value.int .i64 r61, Value.int .i64 r64, Value.int .i64 r75, Value.int .i64 0, Value.int .i64 0].size = 6 ∧ stAt H74 ⟨b71, 0, none⟩ (Array.toList #[.int .i64 r58, .int .i64 r61, .int .i64 r64, .int .i64 r75, .int .i64 0, .int .i64 0]) fun H76 => J18 [.pointer (some ⟨b71, 0, none⟩)] H76)) ∧ (alc H60 (.cells #[.int .i64 0, .int .i64 0, .int .i64 0, .int .i64 0, .int .i64 0, .int .i64 0] 50) fun b79 H80 => (Ext H60 H80 ∨ (∃ v89, cell H80 (.add ⟨b2, 0, none⟩ (toNat (0 : Int) * 1)) = some (.int .i64 v89) ∧ Value.int .i64 v89 = .int .i64 v55) ∧ (∃ v90, cell H80 (.add ⟨b2, 0, none⟩ (toNat (2 : Int) * 1)) = some (.int .i64 v90) ∧ Value.int .i64 v90 = .int .i64 v54)) ∧ Tryz.C 112 #[.int .i64 (shlI .i64 (wrap .i64 (0 - v54)) 32), .int .i64 (wrap .i64 ((wrap .i64 (v12 * v13)) - (wrap .i64 (v14 * v15))))] H80 fun r81 H82 => ∃ r83, r81 = .int .i64 r83 ∧ (Ext H80 H82 ∨ (∃ v88, cell H82 (.add ⟨b2, 0, none⟩ (toNat (0 : Int) * 1)) = some (.int .i64 v88) ∧ Value.int .i64 v88 = .int .i64 v55)) ∧ Tryz.C 112 #[.int .i64 (shlI .i64 v55 32), .int .i64 (wrap .i64 ((wrap .i64 (v12 * v13)) - (wrap .i64 (v14 * v15))))] H82 fun r84 H85 => ∃ r86, r84 = .int .i64 r86 ∧ #[Value.int .i64 r58, Value.int .i64 r61, Value.int .i64 r83, Value.int .i64 r86, Value.int .i64 0, Value.int .i64 0].size = 6 ∧ stAt H85 ⟨b79, 0, none⟩ (Array.toList #[.int .i64 r58, .int .i64 r61, .int .i64 r83, .int .i64 r86, .int .i64 0, .int .i64 0]) fun H87 => J18 [.pointer (some ⟨b79, 0, none⟩)] H87)) ∧ (alc H57 (.cells #[.int .i64 0, .int .i64 0, .int .i64 0, .int .i64 0, .int .i64 0, .int .i64 0] 50) fun b93 H94 => (Ext H57 H94 ∨ (∃ v108, cell H94 (.add ⟨b2, 0, none⟩ (toNat (0 : Int) * 1)) = some (.int .i64 v108) ∧ Value.int .i64 v108 = .int .i64 v55) ∧ (∃ v109, cell H94 (.add ⟨b2, 0, none⟩ (toNat (2 : Int) * 1)) = some (.int .i64 v109) ∧ Value.int .i64 v109 = .int .i64 v54) ∧ (∃ v110, cell H94 (.add ⟨b2, 0, none⟩ (toNat (1 : Int) * 1)) = some (.int .i64 v110) ∧ Value.int .i64 v110 = .int .i64 v53)) ∧ Tryz.C 112 #[.int .i64 (shlI .i64 (wrap .i64 (0 - v53)) 32), .int .i64 (wrap .i64 ((wrap .i64 (v12 * v13)) - (wrap .i64 (v14 * v15))))] H94 fun r95 H96 => ∃ r97, r95 = .int .i64 r97 ∧ (Ext H94 H96 ∨ (∃ v106, cell H96 (.add ⟨b2, 0, none⟩ (toNat (0 : Int) * 1)) = some (.int .i64 v106) ∧ Value.int .i64 v106 = .int .i64 v55) ∧ (∃ v107, cell H96 (.add ⟨b2, 0, none⟩ (toNat (2 : Int) * 1)) = some (.int .i64 v107) ∧ Value.int .i64 v107 = .int .i64 v54)) ∧ Tryz.C 112 #[.int .i64 (shlI .i64 (wrap .i64 (0 - v54)) 32), .int .i64 (wrap .i64 ((wrap .i64 (v12 * v13)) - (wrap .i64 (v14 * v15))))] H96 fun r98 H99 => ∃ r100, r98 = .int .i64 r100 ∧ (Ext H96 H99 ∨ (∃ v105, cell H99 (.add ⟨b2, 0, none⟩ (toNat (0 : Int) * 1)) = some (.int .i64 v105) ∧ Value.int .i64 v105 = .int .i64 v55)) ∧ Tryz.C 112 #[.int .i64 (shlI .i64 v55 32), .int .i64 (wrap .i64 ((wrap .i64 (v12 * v13)) - (wrap .i64 (v14 * v15))))] H99 fun r101 H102 => ∃ r103, r101 = .int .i64 r103 ∧ #[Value.int .i64 r58, Value.int .i64 r97, Value.int .i64 r100, Value.int .i64 r103, Value.int .i64 0, Value.int .i64 0].size = 6 ∧ stAt H102 ⟨b93, 0, none⟩ (Array.toList #[.int .i64 r58, .int .i64 r97, .int .i64 r100, .int .i64 r103, .int .i64 0, .int .i64 0]) fun H104 => J18 [.pointer (some ⟨b93, 0, none⟩)] H104)) ∧ (alc H8 (.cells #[.int .i64 0, .int .i64 0, .int .i64 0, .int .i64 0, .int .i64 0, .int .i64 0] 50) fun b114 H115 => (Ext H8 H115 ∨ (∃ v135, cell H115 (.add ⟨b2, 0, none⟩ (toNat (0 : Int) * 1)) = some (.int .i64 v135) ∧ Value.int .i64 v135 = .int .i64 v55) ∧ (∃ v136, cell H115 (.add ⟨b2, 0, none⟩ (toNat (2 : Int) * 1)) = some (.int .i64 v136) ∧ Value.int .i64 v136 = .int .i64 v54) ∧ (∃ v137, cell H115 (.add ⟨b2, 0, none⟩ (toNat (1 : Int) * 1)) = some (.int .i64 v137) ∧ Value.int .i64 v137 = .int .i64 v53) ∧ (∃ v138, cell H115 (.add ⟨b2, 0, none⟩ (toNat (3 : Int) * 1)) = some (.int .i64 v138) ∧ Value.int .i64 v138 = .int .i64 v52)) ∧ Tryz.C 112 #[.int .i64 (shlI .i64 v52 32), .int .i64 (wrap .i64 ((wrap .i64 (v12 * v13)) - (wrap .i64 (v14 * v15))))] H115 fun r116 H117 => ∃ r118, r116 = .int .i64 r118 ∧ (Ext H115 H117 ∨ (∃ v132, cell H117 (.add ⟨b2, 0, none⟩ (toNat (0 : Int) * 1)) = some (.int .i64 v132) ∧ Value.int .i64 v132 = .int .i64 v55) ∧ (∃ v133, cell H117 (.add ⟨b2, 0, none⟩ (toNat (2 : Int) * 1)) = some (.int .i64 v133) ∧ Value.int .i64 v133 = .int .i64 v54) ∧ (∃ v134, cell H117 (.add ⟨b2, 0, none⟩ (toNat (1 : Int) * 1)) = some (.int .i64 v134) ∧ Value.int .i64 v134 = .int .i64 v53)) ∧ Tryz.C 112 #[.int .i64 (shlI .i64 (wrap .i64 (0 - v53)) 32), .int .i64 (wrap .i64 ((wrap .i64 (v12 * v13)) - (wrap .i64 (v14 * v15))))] H117 fun r119 H120 => ∃ r121, r119 = .int .i64 r121 ∧ (Ext H117 H120 ∨ (∃ v130, cell H120 (.add ⟨b2, 0, none⟩ (toNat (0 : Int) * 1)) = some (.int .i64 v130) ∧ Value.int .i64 v130 = .int .i64 v55) ∧ (∃ v131, cell H120 (.add ⟨b2, 0, none⟩ (toNat (2 : Int) * 1)) = some (.int .i64 v131) ∧ Value.int .i64 v131 = .int .i64 v54)) ∧ Tryz.C 112 #[.int .i64 (shlI .i64 (wrap .i64 (0 - v54)) 32), .int .i64 (wrap .i64 ((wrap .i64 (v12 * v13)) - (wrap .i64 (v14 * v15))))] H120 fun r122 H123 => ∃ r124, r122 = .int .i64 r124 ∧ (Ext H120 H123 ∨ (∃ v129, cell H123 (.add ⟨b2, 0, none⟩ (toNat (0 : Int) * 1)) = some (.int .i64 v129) ∧ Value.int .i64 v129 = .int .i64 v55)) ∧ Tryz.C 112 #[.int .i64 (shlI .i64 v55 32), .int .i64 (wrap .i64 ((wrap .i64 (v12 * v13)) - (wrap .i64 (v14 * v15))))] H123 fun r125 H126 => ∃ r127, r125 = .int .i64 r127 ∧ #[Value.int .i64 r118, Value.int .i64 r121, Value.int .i64 r124, Value.int .i64 r127, Value.int .i64 0, Value.int .i64 0].size = 6 ∧ stAt H126 ⟨b114, 0, none⟩ (Array.toList #[.int .i64 r118, .int .i64 r121, .int .i64 r124, .int .i64 r127, .int .i64 0, .int .i64 0]) fun H128 => J18 [.pointer (some ⟨b114, 0, none⟩)] H128)))
def Tryz.p79 : Plan := (tl (tg (tl (tg (two (join [(5, 999999)] [1, 2] leaf) (tg (tl (tl (tg (tl leaf))))))))))
theorem Tryz.s79 {m1 : AV} {H R} (h : Tryz.S79 m1 H R) : Tryz.C 79 #[.agg m1] H R := vcs Tryz.tab_ok Tryz.mixed Tryz.func79 Tryz.cal79 Tryz.p79 h (by kernel_rfl)
def Tryz.S80 (ki1 : Int) (pa2p : OA) (pa2l pa2c : Nat) (H : Heap) (R : Kv) : Prop :=
 Tryz.C 114 #[.int .i64 ki1, .slice pa2p pa2l pa2c] H fun r3 H4 => ∃ r5, r3 = .bool r5 ∧ br (!r5)
 (R (.tuple #[.slice none 0 0, .bool false]) H4)
 (br (ki1 == 1)
 (Tryz.C 115 #[.slice pa2p pa2l pa2c] H4 fun r6 H7 => ∃ r8p r8l r8c, r6 = .slice r8p r8l r8c ∧ R (.tuple #[.slice r8p r8l r8c, .bool true]) H7)
 (0 ≤ (256 : Int) ∧ (256 : Int) ≤ (256 : Int) ∧ ((8 : Nat) : Int) * (256 : Int) ≤ 281474976710656 ∧ (256 : Int) ≤ 281474976710656 ∧ alc H4 (.cells (List.toArray (reps (toNat 256) (Array.toList #[.int .i64 0]))) 3) fun b9 H10 => ∀ X11 : Kl, (∀ (v12 : Int) H13, (br (decide (v12 < (((toNat 256) : Nat) : Int)))
 (∀ J14 : Kl, (∀ H15, (X11 [.int .i64 (wrap .i64 (v12 + 1))] H15) → J14 [] H15) →
 br (ki1 == 0)
 (∃ a16, pa2p = some a16 ∧ 0 ≤ (1 : Int) ∧ (1 : Int) < (pa2l : Int) ∧ ∃ v17, cell H13 (.add a16 (toNat (1 : Int) * 1)) = some (.int .i64 v17) ∧ ∃ a18, pa2p = some a18 ∧ 0 ≤ (0 : Int) ∧ (0 : Int) < (pa2l : Int) ∧ ∃ v19, cell H13 (.add a18 (toNat (0 : Int) * 1)) = some (.int .i64 v19) ∧ ∃ a20, pa2p = some a20 ∧ 0 ≤ (0 : Int) ∧ (0 : Int) < (pa2l : Int) ∧ ∃ v21, cell H13 (.add a20 (toNat (0 : Int) * 1)) = some (.int .i64 v21) ∧ (2 : Int) ≠ 0 ∧ (wrap .i64 (v17 - v19)) ≠ 0 ∧ ∃ a22, (some ⟨b9, 0, none⟩) = some a22 ∧ 0 ≤ v12 ∧ v12 < (((toNat 256) : Nat) : Int) ∧ stAt H13 (.add a22 (toNat v12 * 1)) [.int .i64 (min 255 (wrap .i64 (Int.tdiv (wrap .i64 ((wrap .i64 ((255 : Int) * (max 0 (wrap .i64 (v12 - v21))))) + (wrap .i64 (Int.tdiv (wrap .i64 (v17 - v19)) 2)))) (wrap .i64 (v17 - v19)))))] fun H23 => J14 [] H23)
 (br (ki1 == 2)
 (∃ a24, (some ⟨b9, 0, none⟩) = some a24 ∧ 0 ≤ v12 ∧ v12 < (((toNat 256) : Nat) : Int) ∧ stAt H13 (.add a24 (toNat v12 * 1)) [.int .i64 (wrap .i64 ((255 : Int) - v12))] fun H25 => J14 [] H25)
 (br (ki1 == 3)
 (∃ a26, pa2p = some a26 ∧ 0 ≤ (0 : Int) ∧ (0 : Int) < (pa2l : Int) ∧ ∃ v27, cell H13 (.add a26 (toNat (0 : Int) * 1)) = some (.int .i64 v27) ∧ br (decide (v12 ≥ v27))
 (∃ a28, (some ⟨b9, 0, none⟩) = some a28 ∧ 0 ≤ v12 ∧ v12 < (((toNat 256) : Nat) : Int) ∧ stAt H13 (.add a28 (toNat v12 * 1)) [.int .i64 255] fun H29 => J14 [] H29)
 (J14 [] H13))
 (J14 [] H13))))
 (R (.tuple #[.slice (some ⟨b9, 0, none⟩) (toNat 256) (toNat 256), .bool true]) H13)) → X11 [.int .i64 v12] H13) → X11 [.int .i64 0] H10))
def Tryz.p80 : Plan := (tl (tg (tg (tl (two (tl (one (loop [(20, 3)] [0, 1, 6, 19] (tl (two (tl leaf) (two (join [] [0, 1, 6, 19, 20] (one (tl (tl (one (tl (two (tl leaf) (tl (tl (tl (two (tl (tl leaf)) leaf))))))))))) leaf)))))) (tl leaf))))))
theorem Tryz.s80 {ki1 : Int} {pa2p : OA} {pa2l pa2c : Nat} {H R} (h : Tryz.S80 ki1 pa2p pa2l pa2c H R) : Tryz.C 80 #[.int .i64 ki1, .slice pa2p pa2l pa2c] H R := vcs Tryz.tab_ok Tryz.mixed Tryz.func80 Tryz.cal80 Tryz.p80 h (by kernel_rfl)
def Tryz.S81 (s1p : OA) (s1l s1c : Nat) (H : Heap) (R : Kv) : Prop :=
 br (Option.isNone s1p)
 (R (.slice none 0 0) H)
 (alc H (.cells #[] 3) fun b2 H3 => appQ 1 8 #[.int .i64 0] H3 (some ⟨b2, 0, none⟩) 0 0 s1p s1l 3 fun ap4p ap4l ap4c H5 => R (.slice ap4p ap4l ap4c) H5)
def Tryz.p81 : Plan := (tl (tg (tl leaf)))
theorem Tryz.s81 {s1p : OA} {s1l s1c : Nat} {H R} (h : Tryz.S81 s1p s1l s1c H R) : Tryz.C 81 #[.slice s1p s1l s1c] H R := vcs Tryz.tab_ok Tryz.mixed Tryz.func81 Tryz.cal81 Tryz.p81 h (by kernel_rfl)
def Tryz.S82 (s1p : OA) (s1l s1c : Nat) (H : Heap) (R : Kv) : Prop :=
 br (Option.isNone s1p)
 (R (.slice none 0 0) H)
 (alc H (.cells #[] 5) fun b2 H3 => appQ 1 1 #[.int .u8 0] H3 (some ⟨b2, 0, none⟩) 0 0 s1p s1l 5 fun ap4p ap4l ap4c H5 => R (.slice ap4p ap4l ap4c) H5)
def Tryz.p82 : Plan := (tl (tg (tl leaf)))
theorem Tryz.s82 {s1p : OA} {s1l s1c : Nat} {H R} (h : Tryz.S82 s1p s1l s1c H R) : Tryz.C 82 #[.slice s1p s1l s1c] H R := vcs Tryz.tab_ok Tryz.mixed Tryz.func82 Tryz.cal82 Tryz.p82 h (by kernel_rfl)
def Tryz.S83 (d1 : AV) (to2 : Int) (H : Heap) (R : Kv) : Prop :=
 alc H (.cells d1 29) fun b3 H4 => br (to2 == 0)
 (R (.int .i64 0) H4)
 (∃ v5, v5.size = 4 ∧ rowIn H4 ⟨b3, 0, none⟩ v5 ∧ Tryz.C 48 #[.agg v5, .int .i64 to2] H4 fun r6 H7 => ∃ i8, r6 = .int .i64 i8 ∧ br (decide (i8 < 0))
 (R (.int .i64 40) H7)
 (∃ L9p L9l L9c, cell H7 (.add ⟨b3, 0, none⟩ 3) = some (.slice L9p L9l L9c) ∧ ∃ a10, L9p = some a10 ∧ 0 ≤ i8 ∧ i8 < (L9l : Int) ∧ ∃ Ki11, cell H7 (.add (.add a10 (toNat i8 * 19)) 1) = some (.int .i64 Ki11) ∧ br (Ki11 != 1)
 (R (.int .i64 41) H7)
 (R (.int .i64 0) H7)))
def Tryz.p83 : Plan := (tl (tg (tl (tg (tg (tl leaf))))))
theorem Tryz.s83 {d1 : AV} {to2 : Int} {H R} (h : Tryz.S83 d1 to2 H R) : Tryz.C 83 #[.agg d1, .int .i64 to2] H R := vcs Tryz.tab_ok Tryz.mixed Tryz.func83 Tryz.cal83 Tryz.p83 h (by kernel_rfl)
def Tryz.S84 (d1 l2 : AV) (at_3 : Int) (H : Heap) (R : Kv) : Prop :=
 alc H (.cells d1 29) fun b4 H5 => alc H5 (.cells l2 101) fun b6 H7 => alc H7 (.cells #[.int .i64 0, .int .i64 0, .int .i64 0, .slice none 0 0] 29) fun b8 H9 => ∃ v10, v10.size = 4 ∧ rowIn H9 ⟨b4, 0, none⟩ v10 ∧ ∃ To11, cell H9 (.add ⟨b6, 0, none⟩ 2) = some (.int .i64 To11) ∧ Tryz.C 52 #[.agg v10, .int .i64 To11] H9 fun r12 H13 => ∃ k14p k14l k14c, r12 = .slice k14p k14l k14c ∧ ∀ J15 : Kl, (∀ (at_16 : Int) H17, (∀ J18 : Kl, (∀ H19, (∃ L20p L20l L20c, cell H19 (.add ⟨b4, 0, none⟩ 3) = some (.slice L20p L20l L20c) ∧ ∀ J21 : Kl, (∀ (where_22 : Int) H23, (alc H23 (.cells #[] 101) fun b24 H25 => ∃ L26p L26l L26c, cell H25 (.add ⟨b4, 0, none⟩ 3) = some (.slice L26p L26l L26c) ∧ 0 ≤ where_22 ∧ where_22 ≤ (L26c : Int) ∧ appQ 19 200 #[.int .i64 0, .int .i64 0, .int .i64 0, .bool false, .int .i64 0, .int .i64 0, .int .i64 0, .int .i64 0, .slice none 0 0, .slice none 0 0, .int .i64 0, .int .i64 0, .int .i64 0, .int .i64 0, .int .i64 0, .int .i64 0, .bool false, .int .i64 0, .slice none 0 0] H25 (some ⟨b24, 0, none⟩) 0 0 (if L26c = 0 then L26p else Option.map (fun x => Addr.add x (0 * 19)) L26p) ((toNat where_22) - 0) 101 fun ou27p ou27l ou27c H28 => ∃ v29, v29.size = 19 ∧ rowIn H28 ⟨b6, 0, none⟩ v29 ∧ v29.size = 19 ∧ 0 + 19 ≤ 19 ∧ alc H28 (.cells (List.toArray (setL [.int .i64 0, .int .i64 0, .int .i64 0, .bool false, .int .i64 0, .int .i64 0, .int .i64 0, .int .i64 0, .slice none 0 0, .slice none 0 0, .int .i64 0, .int .i64 0, .int .i64 0, .int .i64 0, .int .i64 0, .int .i64 0, .bool false, .int .i64 0, .slice none 0 0] 0 v29.toList)) 101) fun b30 H31 => appQ 19 200 #[.int .i64 0, .int .i64 0, .int .i64 0, .bool false, .int .i64 0, .int .i64 0, .int .i64 0, .int .i64 0, .slice none 0 0, .slice none 0 0, .int .i64 0, .int .i64 0, .int .i64 0, .int .i64 0, .int .i64 0, .int .i64 0, .bool false, .int .i64 0, .slice none 0 0] H31 ou27p ou27l ou27c (some ⟨b30, 0, none⟩) 1 101 fun ou32p ou32l ou32c H33 => ∃ L34p L34l L34c, cell H33 (.add ⟨b4, 0, none⟩ 3) = some (.slice L34p L34l L34c) ∧ 0 ≤ where_22 ∧ where_22 ≤ (L34l : Int) ∧ appQ 19 200 #[.int .i64 0, .int .i64 0, .int .i64 0, .bool false, .int .i64 0, .int .i64 0, .int .i64 0, .int .i64 0, .slice none 0 0, .slice none 0 0, .int .i64 0, .int .i64 0, .int .i64 0, .int .i64 0, .int .i64 0, .int .i64 0, .bool false, .int .i64 0, .slice none 0 0] H33 ou32p ou32l ou32c (if L34c = (toNat where_22) then L34p else Option.map (fun x => Addr.add x ((toNat where_22) * 19)) L34p) (L34l - (toNat where_22)) 101 fun ap35p ap35l ap35c H36 => stAt H36 (.add ⟨b4, 0, none⟩ 3) [.slice ap35p ap35l ap35c] fun H37 => ∃ v38, v38.size = 4 ∧ rowIn H37 ⟨b4, 0, none⟩ v38 ∧ v38.size = 4 ∧ stAt H37 ⟨b8, 0, none⟩ v38.toList fun H39 => ∃ re40, re40.size = 4 ∧ rowIn H39 ⟨b8, 0, none⟩ re40 ∧ R (.tuple #[.agg re40, .int .i64 0]) H39) → J21 [.int .i64 where_22] H23) →
 br (decide (at_16 < (k14l : Int)))
 (∃ a41, k14p = some a41 ∧ 0 ≤ at_16 ∧ at_16 < (k14l : Int) ∧ ∃ where_42, cell H19 (.add a41 (toNat at_16 * 1)) = some (.int .i64 where_42) ∧ J21 [.int .i64 where_42] H19)
 (J21 [.int .i64 (L20l : Int)] H19)) → J18 [] H19) →
 br (decide (at_16 < 0)) (∃ v43, v43.size = 4 ∧ rowIn H17 ⟨b4, 0, none⟩ v43 ∧ v43.size = 4 ∧ stAt H17 ⟨b8, 0, none⟩ v43.toList fun H44 => ∃ re45, re45.size = 4 ∧ rowIn H44 ⟨b8, 0, none⟩ re45 ∧ R (.tuple #[.agg re45, .int .i64 43]) H44) (br (decide (at_16 > (k14l : Int)))
 (∃ v46, v46.size = 4 ∧ rowIn H17 ⟨b4, 0, none⟩ v46 ∧ v46.size = 4 ∧ stAt H17 ⟨b8, 0, none⟩ v46.toList fun H47 => ∃ re48, re48.size = 4 ∧ rowIn H47 ⟨b8, 0, none⟩ re48 ∧ R (.tuple #[.agg re48, .int .i64 43]) H47)
 (J18 [] H17))) → J15 [.int .i64 at_16] H17) →
 br (at_3 == (-1 : Int))
 (J15 [.int .i64 (k14l : Int)] H13)
 (J15 [.int .i64 at_3] H13)
def Tryz.p84 : Plan := (tl (tl (two (join [(2, 3)] [3, 4, 6, 8] (tl (tl leaf))) (two (join [] [2, 3, 4, 6, 8] g0) (tl (two (join [(9, 3)] [3, 4, 6] (tl (tl leaf))) (tl (tl (tl (tl leaf))))))))))
theorem Tryz.s84 {d1 l2 : AV} {at_3 : Int} {H R} (h : Tryz.S84 d1 l2 at_3 H R) : Tryz.C 84 #[.agg d1, .agg l2, .int .i64 at_3] H R := vcs Tryz.tab_ok Tryz.mixed Tryz.func84 Tryz.cal84 Tryz.p84 h (by kernel_rfl)
def Tryz.S85 (d1 : AV) (id2 : Int) (H : Heap) (R : Kv) : Prop :=
 alc H (.cells d1 29) fun b3 H4 => ∀ X5 : Kl, (∀ (id6 n7 : Int) H8, (br (id6 != 0)
 (∃ L9p L9l L9c, cell H8 (.add ⟨b3, 0, none⟩ 3) = some (.slice L9p L9l L9c) ∧ ∃ v10, v10.size = 4 ∧ rowIn H8 ⟨b3, 0, none⟩ v10 ∧ Tryz.C 48 #[.agg v10, .int .i64 id6] H8 fun r11 H12 => ∃ r13, r11 = .int .i64 r13 ∧ (Ext H8 H12 ∨ (∃ L16p L16l L16c, cell H12 (.add ⟨b3, 0, none⟩ 3) = some (.slice L16p L16l L16c) ∧ Value.slice L16p L16l L16c = .slice L9p L9l L9c)) ∧ ∃ a14, L9p = some a14 ∧ 0 ≤ r13 ∧ r13 < (L9l : Int) ∧ ∃ To15, cell H12 (.add (.add a14 (toNat r13 * 19)) 2) = some (.int .i64 To15) ∧ X5 [.int .i64 To15, .int .i64 (wrap .i64 (n7 + 1))] H12)
 (R (.int .i64 n7) H8)) → X5 [.int .i64 id6, .int .i64 n7] H8) → X5 [.int .i64 id2, .int .i64 0] H4
def Tryz.p85 : Plan := (tl (tl (two (one (loop [(1, 3), (5, 3)] [2] (two (tl (tl leaf)) (one (tl leaf))))) (tl leaf))))
theorem Tryz.s85 {d1 : AV} {id2 : Int} {H R} (h : Tryz.S85 d1 id2 H R) : Tryz.C 85 #[.agg d1, .int .i64 id2] H R := vcs Tryz.tab_ok Tryz.mixed Tryz.func85 Tryz.cal85 Tryz.p85 h (by kernel_rfl)
def Tryz.S86 (d1 : AV) (id2 of3 : Int) (H : Heap) (R : Kv) : Prop :=
 alc H (.cells d1 29) fun b4 H5 => ∀ X6 : Kl, (∀ (id7 : Int) H8, (br (id7 != 0)
 (br (id7 == of3)
 (R (.bool true) H8)
 (∃ L9p L9l L9c, cell H8 (.add ⟨b4, 0, none⟩ 3) = some (.slice L9p L9l L9c) ∧ ∃ v10, v10.size = 4 ∧ rowIn H8 ⟨b4, 0, none⟩ v10 ∧ Tryz.C 48 #[.agg v10, .int .i64 id7] H8 fun r11 H12 => ∃ r13, r11 = .int .i64 r13 ∧ (Ext H8 H12 ∨ (∃ L16p L16l L16c, cell H12 (.add ⟨b4, 0, none⟩ 3) = some (.slice L16p L16l L16c) ∧ Value.slice L16p L16l L16c = .slice L9p L9l L9c)) ∧ ∃ a14, L9p = some a14 ∧ 0 ≤ r13 ∧ r13 < (L9l : Int) ∧ ∃ To15, cell H12 (.add (.add a14 (toNat r13 * 19)) 2) = some (.int .i64 To15) ∧ X6 [.int .i64 To15] H12))
 (R (.bool false) H8)) → X6 [.int .i64 id7] H8) → X6 [.int .i64 id2] H5
def Tryz.p86 : Plan := (tl (two (one (loop [(1, 3)] [2, 3] (two (tl (tl leaf)) (one (tg leaf))))) (tl leaf)))
theorem Tryz.s86 {d1 : AV} {id2 of3 : Int} {H R} (h : Tryz.S86 d1 id2 of3 H R) : Tryz.C 86 #[.agg d1, .int .i64 id2, .int .i64 of3] H R := vcs Tryz.tab_ok Tryz.mixed Tryz.func86 Tryz.cal86 Tryz.p86 h (by kernel_rfl)
def Tryz.S87 (d1 : AV) (H : Heap) (R : Kv) : Prop :=
 alc H (.cells d1 29) fun b2 H3 => ∀ X4 : Kl, (∀ (mo5 i6 : Int) H7, (∃ L8p L8l L8c, cell H7 (.add ⟨b2, 0, none⟩ 3) = some (.slice L8p L8l L8c) ∧ br (decide (i6 < (L8l : Int)))
 (∃ v9, v9.size = 4 ∧ rowIn H7 ⟨b2, 0, none⟩ v9 ∧ ∃ L10p L10l L10c, cell H7 (.add ⟨b2, 0, none⟩ 3) = some (.slice L10p L10l L10c) ∧ ∃ a11, L10p = some a11 ∧ 0 ≤ i6 ∧ i6 < (L10l : Int) ∧ ∃ ID12, cell H7 (.add (.add a11 (toNat i6 * 19)) 0) = some (.int .i64 ID12) ∧ Tryz.C 85 #[.agg v9, .int .i64 ID12] H7 fun r13 H14 => ∃ n15, r13 = .int .i64 n15 ∧ br (decide (n15 > mo5))
 (X4 [.int .i64 n15, .int .i64 (wrap .i64 (i6 + 1))] H14)
 (X4 [.int .i64 mo5, .int .i64 (wrap .i64 (i6 + 1))] H14))
 (R (.int .i64 mo5) H7)) → X4 [.int .i64 mo5, .int .i64 i6] H7) → X4 [.int .i64 0, .int .i64 0] H3
def Tryz.p87 : Plan := (tl (tl (two (tl (one (loop [(3, 3), (4, 3)] [1] (two (tl (tl leaf)) (two (one (tl (tl (tl leaf)))) leaf))))) (tl leaf))))
theorem Tryz.s87 {d1 : AV} {H R} (h : Tryz.S87 d1 H R) : Tryz.C 87 #[.agg d1] H R := vcs Tryz.tab_ok Tryz.mixed Tryz.func87 Tryz.cal87 Tryz.p87 h (by kernel_rfl)
end Go.Proofs
namespace Go.Proofs
open Go.Sh Go.Sh.Plan
open Go.IntKind (wrap)
open Int (toNat)
def Tryz.S88 (d1 l2 e3 : AV) (H : Heap) (R : Kv) : Prop :=
 alc H (.cells d1 29) fun b4 H5 => alc H5 (.cells l2 101) fun b6 H7 => alc H7 (.cells e3 73) fun b8 H9 => alc H9 (.cells #[.int .i64 0, .int .i64 0, .int .i64 0, .bool false, .int .i64 0, .int .i64 0, .int .i64 0, .int .i64 0, .slice none 0 0, .slice none 0 0, .int .i64 0, .int .i64 0, .int .i64 0, .int .i64 0, .int .i64 0, .int .i64 0, .bool false, .int .i64 0, .slice none 0 0] 101) fun b10 H11 => ∃ Ki12, cell H11 (.add ⟨b6, 0, none⟩ 1) = some (.int .i64 Ki12) ∧ br (Ki12 != 0)
 (∃ v13, v13.size = 19 ∧ rowIn H11 ⟨b6, 0, none⟩ v13 ∧ v13.size = 19 ∧ stAt H11 ⟨b10, 0, none⟩ v13.toList fun H14 => ∃ re15, re15.size = 19 ∧ rowIn H14 ⟨b10, 0, none⟩ re15 ∧ R (.tuple #[.agg re15, .int .i64 41]) H14)
 (∀ J16 : Kl, (∀ H17, (∀ X18 : Kl, (∀ (i19 : Int) H20, (∃ P21p P21l P21c, cell H20 (.add ⟨b8, 0, none⟩ 10) = some (.slice P21p P21l P21c) ∧ br (decide (i19 < (P21l : Int)))
 (∃ P22p P22l P22c, cell H20 (.add ⟨b8, 0, none⟩ 10) = some (.slice P22p P22l P22c) ∧ ∃ a23, P22p = some a23 ∧ 0 ≤ i19 ∧ i19 < (P22l : Int) ∧ ∃ v24, cell H20 (.add a23 (toNat i19 * 1)) = some (.int .i64 v24) ∧ Tryz.C 13 #[.int .i64 v24] H20 fun r25 H26 => ∃ r27, r25 = .bool r27 ∧ br (!r27)
 (∃ v28, v28.size = 19 ∧ rowIn H26 ⟨b6, 0, none⟩ v28 ∧ v28.size = 19 ∧ stAt H26 ⟨b10, 0, none⟩ v28.toList fun H29 => ∃ re30, re30.size = 19 ∧ rowIn H29 ⟨b10, 0, none⟩ re30 ∧ R (.tuple #[.agg re30, .int .i64 25]) H29)
 (X18 [.int .i64 (wrap .i64 (i19 + 1))] H26))
 (∀ J31 : Kl, (∀ H32, (alc H32 (.cells #[] 3) fun b33 H34 => ∃ P35p P35l P35c, cell H34 (.add ⟨b6, 0, none⟩ 8) = some (.slice P35p P35l P35c) ∧ appQ 1 8 #[.int .i64 0] H34 (some ⟨b33, 0, none⟩) 0 0 P35p P35l 3 fun ap36p ap36l ap36c H37 => stAt H37 (.add ⟨b6, 0, none⟩ 8) [.slice ap36p ap36l ap36c] fun H38 => ∀ X39 : Kl, (∀ (y40 : Int) H41, (∃ H42, cell H41 (.add ⟨b6, 0, none⟩ 7) = some (.int .i64 H42) ∧ br (decide (y40 < H42))
 (∀ X43 : Kl, (∀ (x44 : Int) H45, (∃ W46, cell H45 (.add ⟨b6, 0, none⟩ 6) = some (.int .i64 W46) ∧ br (decide (x44 < W46))
 (∀ J47 : Kl, (∀ H48, (X43 [.int .i64 (wrap .i64 (x44 + 1))] H48) → J47 [] H48) →
 ∃ X49, cell H45 (.add ⟨b8, 0, none⟩ 6) = some (.int .i64 X49) ∧ br (decide (x44 ≥ X49)) (∃ X50, cell H45 (.add ⟨b8, 0, none⟩ 6) = some (.int .i64 X50) ∧ ∃ W51, cell H45 (.add ⟨b8, 0, none⟩ 8) = some (.int .i64 W51) ∧ br (decide (x44 < (wrap .i64 (X50 + W51)))) (∃ Y52, cell H45 (.add ⟨b8, 0, none⟩ 7) = some (.int .i64 Y52) ∧ br (decide (y40 ≥ Y52)) (∃ Y53, cell H45 (.add ⟨b8, 0, none⟩ 7) = some (.int .i64 Y53) ∧ ∃ H54, cell H45 (.add ⟨b8, 0, none⟩ 9) = some (.int .i64 H54) ∧ br (decide (y40 < (wrap .i64 (Y53 + H54))))
 (∃ P55p P55l P55c, cell H45 (.add ⟨b6, 0, none⟩ 8) = some (.slice P55p P55l P55c) ∧ ∃ W56, cell H45 (.add ⟨b6, 0, none⟩ 6) = some (.int .i64 W56) ∧ ∃ P57p P57l P57c, cell H45 (.add ⟨b8, 0, none⟩ 10) = some (.slice P57p P57l P57c) ∧ ∃ Y58, cell H45 (.add ⟨b8, 0, none⟩ 7) = some (.int .i64 Y58) ∧ ∃ W59, cell H45 (.add ⟨b8, 0, none⟩ 8) = some (.int .i64 W59) ∧ ∃ X60, cell H45 (.add ⟨b8, 0, none⟩ 6) = some (.int .i64 X60) ∧ ∃ a61, P57p = some a61 ∧ 0 ≤ (wrap .i64 ((wrap .i64 ((wrap .i64 ((wrap .i64 (y40 - Y58)) * W59)) + x44)) - X60)) ∧ (wrap .i64 ((wrap .i64 ((wrap .i64 ((wrap .i64 (y40 - Y58)) * W59)) + x44)) - X60)) < (P57l : Int) ∧ ∃ v62, cell H45 (.add a61 (toNat (wrap .i64 ((wrap .i64 ((wrap .i64 ((wrap .i64 (y40 - Y58)) * W59)) + x44)) - X60)) * 1)) = some (.int .i64 v62) ∧ ∃ a63, P55p = some a63 ∧ 0 ≤ (wrap .i64 ((wrap .i64 (y40 * W56)) + x44)) ∧ (wrap .i64 ((wrap .i64 (y40 * W56)) + x44)) < (P55l : Int) ∧ stAt H45 (.add a63 (toNat (wrap .i64 ((wrap .i64 (y40 * W56)) + x44)) * 1)) [.int .i64 v62] fun H64 => J47 [] H64)
 (J47 [] H45)) (J47 [] H45)) (J47 [] H45)) (J47 [] H45))
 (X39 [.int .i64 (wrap .i64 (y40 + 1))] H45)) → X43 [.int .i64 x44] H45) → X43 [.int .i64 0] H41)
 (∃ v65, v65.size = 19 ∧ rowIn H41 ⟨b6, 0, none⟩ v65 ∧ v65.size = 19 ∧ stAt H41 ⟨b10, 0, none⟩ v65.toList fun H66 => ∃ re67, re67.size = 19 ∧ rowIn H66 ⟨b10, 0, none⟩ re67 ∧ R (.tuple #[.agg re67, .int .i64 0]) H66)) → X39 [.int .i64 y40] H41) → X39 [.int .i64 0] H38) → J31 [] H32) →
 ∃ X68, cell H20 (.add ⟨b8, 0, none⟩ 6) = some (.int .i64 X68) ∧ br (decide (X68 < (-32768 : Int))) (∃ v69, v69.size = 19 ∧ rowIn H20 ⟨b6, 0, none⟩ v69 ∧ v69.size = 19 ∧ stAt H20 ⟨b10, 0, none⟩ v69.toList fun H70 => ∃ re71, re71.size = 19 ∧ rowIn H70 ⟨b10, 0, none⟩ re71 ∧ R (.tuple #[.agg re71, .int .i64 31]) H70) (∃ X72, cell H20 (.add ⟨b8, 0, none⟩ 6) = some (.int .i64 X72) ∧ br (decide (X72 > 32768)) (∃ v73, v73.size = 19 ∧ rowIn H20 ⟨b6, 0, none⟩ v73 ∧ v73.size = 19 ∧ stAt H20 ⟨b10, 0, none⟩ v73.toList fun H74 => ∃ re75, re75.size = 19 ∧ rowIn H74 ⟨b10, 0, none⟩ re75 ∧ R (.tuple #[.agg re75, .int .i64 31]) H74) (∃ Y76, cell H20 (.add ⟨b8, 0, none⟩ 7) = some (.int .i64 Y76) ∧ br (decide (Y76 < (-32768 : Int))) (∃ v77, v77.size = 19 ∧ rowIn H20 ⟨b6, 0, none⟩ v77 ∧ v77.size = 19 ∧ stAt H20 ⟨b10, 0, none⟩ v77.toList fun H78 => ∃ re79, re79.size = 19 ∧ rowIn H78 ⟨b10, 0, none⟩ re79 ∧ R (.tuple #[.agg re79, .int .i64 31]) H78) (∃ Y80, cell H20 (.add ⟨b8, 0, none⟩ 7) = some (.int .i64 Y80) ∧ br (decide (Y80 > 32768))
 (∃ v81, v81.size = 19 ∧ rowIn H20 ⟨b6, 0, none⟩ v81 ∧ v81.size = 19 ∧ stAt H20 ⟨b10, 0, none⟩ v81.toList fun H82 => ∃ re83, re83.size = 19 ∧ rowIn H82 ⟨b10, 0, none⟩ re83 ∧ R (.tuple #[.agg re83, .int .i64 31]) H82)
 (J31 [] H20)))))) → X18 [.int .i64 i19] H20) → X18 [.int .i64 0] H17) → J16 [] H17) →
 ∃ W84, cell H11 (.add ⟨b8, 0, none⟩ 8) = some (.int .i64 W84) ∧ br (decide (W84 < 1)) (∃ v85, v85.size = 19 ∧ rowIn H11 ⟨b6, 0, none⟩ v85 ∧ v85.size = 19 ∧ stAt H11 ⟨b10, 0, none⟩ v85.toList fun H86 => ∃ re87, re87.size = 19 ∧ rowIn H86 ⟨b10, 0, none⟩ re87 ∧ R (.tuple #[.agg re87, .int .i64 25]) H86) (∃ H88, cell H11 (.add ⟨b8, 0, none⟩ 9) = some (.int .i64 H88) ∧ br (decide (H88 < 1)) (∃ v89, v89.size = 19 ∧ rowIn H11 ⟨b6, 0, none⟩ v89 ∧ v89.size = 19 ∧ stAt H11 ⟨b10, 0, none⟩ v89.toList fun H90 => ∃ re91, re91.size = 19 ∧ rowIn H90 ⟨b10, 0, none⟩ re91 ∧ R (.tuple #[.agg re91, .int .i64 25]) H90) (∃ W92, cell H11 (.add ⟨b8, 0, none⟩ 8) = some (.int .i64 W92) ∧ br (decide (W92 > 32768)) (∃ v93, v93.size = 19 ∧ rowIn H11 ⟨b6, 0, none⟩ v93 ∧ v93.size = 19 ∧ stAt H11 ⟨b10, 0, none⟩ v93.toList fun H94 => ∃ re95, re95.size = 19 ∧ rowIn H94 ⟨b10, 0, none⟩ re95 ∧ R (.tuple #[.agg re95, .int .i64 25]) H94) (∃ H96, cell H11 (.add ⟨b8, 0, none⟩ 9) = some (.int .i64 H96) ∧ br (decide (H96 > 32768)) (∃ v97, v97.size = 19 ∧ rowIn H11 ⟨b6, 0, none⟩ v97 ∧ v97.size = 19 ∧ stAt H11 ⟨b10, 0, none⟩ v97.toList fun H98 => ∃ re99, re99.size = 19 ∧ rowIn H98 ⟨b10, 0, none⟩ re99 ∧ R (.tuple #[.agg re99, .int .i64 25]) H98) (∃ P100p P100l P100c, cell H11 (.add ⟨b8, 0, none⟩ 10) = some (.slice P100p P100l P100c) ∧ ∃ W101, cell H11 (.add ⟨b8, 0, none⟩ 8) = some (.int .i64 W101) ∧ ∃ H102, cell H11 (.add ⟨b8, 0, none⟩ 9) = some (.int .i64 H102) ∧ br (((P100l : Int) : Int) != (wrap .i64 (W101 * H102)))
 (∃ v103, v103.size = 19 ∧ rowIn H11 ⟨b6, 0, none⟩ v103 ∧ v103.size = 19 ∧ stAt H11 ⟨b10, 0, none⟩ v103.toList fun H104 => ∃ re105, re105.size = 19 ∧ rowIn H104 ⟨b10, 0, none⟩ re105 ∧ R (.tuple #[.agg re105, .int .i64 25]) H104)
 (J16 [] H11))))))
def Tryz.p88 : Plan := (tl (tg (two (join [] [4, 5, 6] g0) (two (tl (one (loop [(8, 3)] [4, 5, 6] (two (tl (tl leaf)) (two (one g0) leaf))))) (two (join [] [4, 5, 6] g0) (tl (two (tl (one (loop [(9, 3)] [4, 5, 6] (two (tl (tl leaf)) (two (one (tl (one (loop [(10, 3)] [4, 5, 6, 9] (two (tl (tl leaf)) (two (join [] [4, 5, 6, 9, 10] (one (tl (tl leaf)))) leaf)))))) leaf))))) (tl leaf))))))))
theorem Tryz.s88 {d1 l2 e3 : AV} {H R} (h : Tryz.S88 d1 l2 e3 H R) : Tryz.C 88 #[.agg d1, .agg l2, .agg e3] H R := vcs Tryz.tab_ok Tryz.mixed Tryz.func88 Tryz.cal88 Tryz.p88 h (by kernel_rfl)
def Tryz.S89 (d1 l2 e3 : AV) (H : Heap) (R : Kv) : Prop :=
 alc H (.cells d1 29) fun b4 H5 => alc H5 (.cells l2 101) fun b6 H7 => alc H7 (.cells e3 73) fun b8 H9 => alc H9 (.cells #[.int .i64 0, .int .i64 0, .int .i64 0, .bool false, .int .i64 0, .int .i64 0, .int .i64 0, .int .i64 0, .slice none 0 0, .slice none 0 0, .int .i64 0, .int .i64 0, .int .i64 0, .int .i64 0, .int .i64 0, .int .i64 0, .bool false, .int .i64 0, .slice none 0 0] 101) fun b10 H11 => ∀ J12 : Kl, (∀ H13, (∃ N14, cell H13 (.add ⟨b8, 0, none⟩ 4) = some (.int .i64 N14) ∧ br (N14 == 2)
 (stAt H13 (.add ⟨b6, 0, none⟩ 9) [.slice none 0 0] fun H15 => ∃ v16, v16.size = 19 ∧ rowIn H15 ⟨b6, 0, none⟩ v16 ∧ v16.size = 19 ∧ stAt H15 ⟨b10, 0, none⟩ v16.toList fun H17 => ∃ re18, re18.size = 19 ∧ rowIn H17 ⟨b10, 0, none⟩ re18 ∧ R (.tuple #[.agg re18, .int .i64 0]) H17)
 (∃ Sh19p Sh19l Sh19c, cell H13 (.add ⟨b8, 0, none⟩ 11) = some (.slice Sh19p Sh19l Sh19c) ∧ Tryz.C 116 #[.slice Sh19p Sh19l Sh19c] H13 fun r20 H21 => ∃ r22, r20 = .bool r22 ∧ br (!r22)
 (∃ v23, v23.size = 19 ∧ rowIn H21 ⟨b6, 0, none⟩ v23 ∧ v23.size = 19 ∧ stAt H21 ⟨b10, 0, none⟩ v23.toList fun H24 => ∃ re25, re25.size = 19 ∧ rowIn H24 ⟨b10, 0, none⟩ re25 ∧ R (.tuple #[.agg re25, .int .i64 31]) H24)
 (∃ W26, cell H21 (.add ⟨b4, 0, none⟩ 0) = some (.int .i64 W26) ∧ ∃ H27, cell H21 (.add ⟨b4, 0, none⟩ 1) = some (.int .i64 H27) ∧ 0 ≤ (wrap .i64 (W26 * H27)) ∧ (wrap .i64 (W26 * H27)) ≤ (wrap .i64 (W26 * H27)) ∧ ((1 : Nat) : Int) * (wrap .i64 (W26 * H27)) ≤ 281474976710656 ∧ (wrap .i64 (W26 * H27)) ≤ 281474976710656 ∧ alc H21 (.cells (List.toArray (reps (toNat (wrap .i64 (W26 * H27))) (Array.toList #[.int .u8 0]))) 5) fun b28 H29 => stAt H29 (.add ⟨b6, 0, none⟩ 9) [.slice (some ⟨b28, 0, none⟩) (toNat (wrap .i64 (W26 * H27))) (toNat (wrap .i64 (W26 * H27)))] fun H30 => ∀ X31 : Kl, (∀ (i32 : Int) H33, (∃ W34, cell H33 (.add ⟨b4, 0, none⟩ 0) = some (.int .i64 W34) ∧ ∃ H35, cell H33 (.add ⟨b4, 0, none⟩ 1) = some (.int .i64 H35) ∧ br (decide (i32 < (wrap .i64 (W34 * H35))))
 (∃ Sh36p Sh36l Sh36c, cell H33 (.add ⟨b8, 0, none⟩ 11) = some (.slice Sh36p Sh36l Sh36c) ∧ ∃ W37, cell H33 (.add ⟨b4, 0, none⟩ 0) = some (.int .i64 W37) ∧ W37 ≠ 0 ∧ ∃ W38, cell H33 (.add ⟨b4, 0, none⟩ 0) = some (.int .i64 W38) ∧ W38 ≠ 0 ∧ ∃ N39, cell H33 (.add ⟨b8, 0, none⟩ 4) = some (.int .i64 N39) ∧ Tryz.C 117 #[.slice Sh36p Sh36l Sh36c, .int .i64 (Int.tmod i32 W37), .int .i64 (wrap .i64 (Int.tdiv i32 W38))] H33 fun r40 H41 => ∃ r42, r40 = .bool r42 ∧ (Ext H33 H41 ∨ (∃ N46, cell H41 (.add ⟨b8, 0, none⟩ 4) = some (.int .i64 N46) ∧ Value.int .i64 N46 = .int .i64 N39)) ∧ br (!(r42 == (N39 == 1)))
 (∃ Ma43p Ma43l Ma43c, cell H41 (.add ⟨b6, 0, none⟩ 9) = some (.slice Ma43p Ma43l Ma43c) ∧ ∃ a44, Ma43p = some a44 ∧ 0 ≤ i32 ∧ i32 < (Ma43l : Int) ∧ stAt H41 (.add a44 (toNat i32 * 1)) [.int .u8 255] fun H45 => X31 [.int .i64 (wrap .i64 (i32 + 1))] H45)
 (X31 [.int .i64 (wrap .i64 (i32 + 1))] H41))
 (∃ v47, v47.size = 19 ∧ rowIn H33 ⟨b6, 0, none⟩ v47 ∧ v47.size = 19 ∧ stAt H33 ⟨b10, 0, none⟩ v47.toList fun H48 => ∃ re49, re49.size = 19 ∧ rowIn H48 ⟨b10, 0, none⟩ re49 ∧ R (.tuple #[.agg re49, .int .i64 0]) H48)) → X31 [.int .i64 i32] H33) → X31 [.int .i64 0] H30))) → J12 [] H13) →
 ∃ N50, cell H11 (.add ⟨b8, 0, none⟩ 4) = some (.int .i64 N50) ∧ br (decide (N50 < 0)) (∃ v51, v51.size = 19 ∧ rowIn H11 ⟨b6, 0, none⟩ v51 ∧ v51.size = 19 ∧ stAt H11 ⟨b10, 0, none⟩ v51.toList fun H52 => ∃ re53, re53.size = 19 ∧ rowIn H52 ⟨b10, 0, none⟩ re53 ∧ R (.tuple #[.agg re53, .int .i64 32]) H52) (∃ N54, cell H11 (.add ⟨b8, 0, none⟩ 4) = some (.int .i64 N54) ∧ br (decide (N54 > 2))
 (∃ v55, v55.size = 19 ∧ rowIn H11 ⟨b6, 0, none⟩ v55 ∧ v55.size = 19 ∧ stAt H11 ⟨b10, 0, none⟩ v55.toList fun H56 => ∃ re57, re57.size = 19 ∧ rowIn H56 ⟨b10, 0, none⟩ re57 ∧ R (.tuple #[.agg re57, .int .i64 32]) H56)
 (J12 [] H11))
def Tryz.p89 : Plan := (tl (two (join [] [3, 4, 5, 6] g0) (two (tl (two (tl (tl leaf)) leaf)) (tg (tl (two (tl (one (loop [(8, 3)] [3, 4, 5, 6] (two (tl (tl leaf)) (two (one (tl (tl leaf))) leaf))))) (tl leaf)))))))
theorem Tryz.s89 {d1 l2 e3 : AV} {H R} (h : Tryz.S89 d1 l2 e3 H R) : Tryz.C 89 #[.agg d1, .agg l2, .agg e3] H R := vcs Tryz.tab_ok Tryz.mixed Tryz.func89 Tryz.cal89 Tryz.p89 h (by kernel_rfl)
def Tryz.S90 (m1 : AV) (H : Heap) (R : Kv) : Prop :=
 alc H (.cells m1 71) fun b2 H3 => alc H3 (.cells #[.int .i64 0, .int .i64 0, .int .i64 0, .int .i64 0, .int .i64 0, .int .i64 0] 71) fun b4 H5 => ∃ v6, v6.size = 6 ∧ rowIn H5 ⟨b2, 0, none⟩ v6 ∧ Tryz.C 118 #[.agg v6] H5 fun r7 H8 => ∃ r9, r7 = .bool r9 ∧ br (!r9)
 (#[Value.int .i64 0, Value.int .i64 0, Value.int .i64 0, Value.int .i64 0, Value.int .i64 0, Value.int .i64 0].size = 6 ∧ stAt H8 ⟨b4, 0, none⟩ (Array.toList #[.int .i64 0, .int .i64 0, .int .i64 0, .int .i64 0, .int .i64 0, .int .i64 0]) fun H10 => ∃ re11, re11.size = 6 ∧ rowIn H10 ⟨b4, 0, none⟩ re11 ∧ R (.tuple #[.agg re11, .int .i64 31]) H10)
 (0 ≤ (0 : Int) ∧ (0 : Int) < ((6 : Nat) : Int) ∧ ∃ v12, cell H8 (.add ⟨b2, 0, none⟩ (toNat (0 : Int) * 1)) = some (.int .i64 v12) ∧ 0 ≤ (3 : Int) ∧ (3 : Int) < ((6 : Nat) : Int) ∧ ∃ v13, cell H8 (.add ⟨b2, 0, none⟩ (toNat (3 : Int) * 1)) = some (.int .i64 v13) ∧ 0 ≤ (1 : Int) ∧ (1 : Int) < ((6 : Nat) : Int) ∧ ∃ v14, cell H8 (.add ⟨b2, 0, none⟩ (toNat (1 : Int) * 1)) = some (.int .i64 v14) ∧ 0 ≤ (2 : Int) ∧ (2 : Int) < ((6 : Nat) : Int) ∧ ∃ v15, cell H8 (.add ⟨b2, 0, none⟩ (toNat (2 : Int) * 1)) = some (.int .i64 v15) ∧ br (((wrap .i64 ((wrap .i64 (v12 * v13)) - (wrap .i64 (v14 * v15)))) : Int) == 0)
 (#[Value.int .i64 0, Value.int .i64 0, Value.int .i64 0, Value.int .i64 0, Value.int .i64 0, Value.int .i64 0].size = 6 ∧ stAt H8 ⟨b4, 0, none⟩ (Array.toList #[.int .i64 0, .int .i64 0, .int .i64 0, .int .i64 0, .int .i64 0, .int .i64 0]) fun H16 => ∃ re17, re17.size = 6 ∧ rowIn H16 ⟨b4, 0, none⟩ re17 ∧ R (.tuple #[.agg re17, .int .i64 33]) H16)
 (∀ J18 : Kl, (∀ (ou19 : Addr) H20, (∃ v21, v21.size = 6 ∧ rowIn H20 ou19 v21 ∧ Tryz.C 118 #[.agg v21] H20 fun r22 H23 => ∃ r24, r22 = .bool r24 ∧ br (!r24)
 (#[Value.int .i64 0, Value.int .i64 0, Value.int .i64 0, Value.int .i64 0, Value.int .i64 0, Value.int .i64 0].size = 6 ∧ stAt H23 ⟨b4, 0, none⟩ (Array.toList #[.int .i64 0, .int .i64 0, .int .i64 0, .int .i64 0, .int .i64 0, .int .i64 0]) fun H25 => ∃ re26, re26.size = 6 ∧ rowIn H25 ⟨b4, 0, none⟩ re26 ∧ R (.tuple #[.agg re26, .int .i64 33]) H25)
 (0 ≤ (0 : Int) ∧ (0 : Int) < ((6 : Nat) : Int) ∧ ∃ v27, cell H23 (.add ou19 (toNat (0 : Int) * 1)) = some (.int .i64 v27) ∧ 0 ≤ (4 : Int) ∧ (4 : Int) < ((6 : Nat) : Int) ∧ ∃ v28, cell H23 (.add ⟨b2, 0, none⟩ (toNat (4 : Int) * 1)) = some (.int .i64 v28) ∧ 0 ≤ (1 : Int) ∧ (1 : Int) < ((6 : Nat) : Int) ∧ ∃ v29, cell H23 (.add ou19 (toNat (1 : Int) * 1)) = some (.int .i64 v29) ∧ 0 ≤ (5 : Int) ∧ (5 : Int) < ((6 : Nat) : Int) ∧ ∃ v30, cell H23 (.add ⟨b2, 0, none⟩ (toNat (5 : Int) * 1)) = some (.int .i64 v30) ∧ Tryz.C 120 #[.int .i64 (wrap .i64 (0 - (wrap .i64 ((wrap .i64 (v27 * v28)) + (wrap .i64 (v29 * v30))))))] H23 fun r31 H32 => ∃ r33, r31 = .int .i64 r33 ∧ 0 ≤ (4 : Int) ∧ (4 : Int) < ((6 : Nat) : Int) ∧ stAt H32 (.add ou19 (toNat (4 : Int) * 1)) [.int .i64 r33] fun H34 => 0 ≤ (2 : Int) ∧ (2 : Int) < ((6 : Nat) : Int) ∧ ∃ v35, cell H34 (.add ou19 (toNat (2 : Int) * 1)) = some (.int .i64 v35) ∧ 0 ≤ (4 : Int) ∧ (4 : Int) < ((6 : Nat) : Int) ∧ ∃ v36, cell H34 (.add ⟨b2, 0, none⟩ (toNat (4 : Int) * 1)) = some (.int .i64 v36) ∧ 0 ≤ (3 : Int) ∧ (3 : Int) < ((6 : Nat) : Int) ∧ ∃ v37, cell H34 (.add ou19 (toNat (3 : Int) * 1)) = some (.int .i64 v37) ∧ 0 ≤ (5 : Int) ∧ (5 : Int) < ((6 : Nat) : Int) ∧ ∃ v38, cell H34 (.add ⟨b2, 0, none⟩ (toNat (5 : Int) * 1)) = some (.int .i64 v38) ∧ Tryz.C 120 #[.int .i64 (wrap .i64 (0 - (wrap .i64 ((wrap .i64 (v35 * v36)) + (wrap .i64 (v37 * v38))))))] H34 fun r39 H40 => ∃ r41, r39 = .int .i64 r41 ∧ 0 ≤ (5 : Int) ∧ (5 : Int) < ((6 : Nat) : Int) ∧ stAt H40 (.add ou19 (toNat (5 : Int) * 1)) [.int .i64 r41] fun H42 => ∃ v43, v43.size = 6 ∧ rowIn H42 ou19 v43 ∧ Tryz.C 118 #[.agg v43] H42 fun r44 H45 => ∃ r46, r44 = .bool r46 ∧ br (!r46)
 (#[Value.int .i64 0, Value.int .i64 0, Value.int .i64 0, Value.int .i64 0, Value.int .i64 0, Value.int .i64 0].size = 6 ∧ stAt H45 ⟨b4, 0, none⟩ (Array.toList #[.int .i64 0, .int .i64 0, .int .i64 0, .int .i64 0, .int .i64 0, .int .i64 0]) fun H47 => ∃ re48, re48.size = 6 ∧ rowIn H47 ⟨b4, 0, none⟩ re48 ∧ R (.tuple #[.agg re48, .int .i64 33]) H47)
 (∃ v49, v49.size = 6 ∧ rowIn H45 ou19 v49 ∧ v49.size = 6 ∧ stAt H45 ⟨b4, 0, none⟩ v49.toList fun H50 => ∃ re51, re51.size = 6 ∧ rowIn H50 ⟨b4, 0, none⟩ re51 ∧ R (.tuple #[.agg re51, .int .i64 0]) H50))) → J18 [.pointer (some ou19)] H20) →
 0 ≤ (3 : Int) ∧ (3 : Int) < ((6 : Nat) : Int) ∧ ∃ v52, cell H8 (.add ⟨b2, 0, none⟩ (toNat (3 : Int) * 1)) = some (.int .i64 v52) ∧ 0 ≤ (1 : Int) ∧ (1 : Int) < ((6 : Nat) : Int) ∧ ∃ v53, cell H8 (.add ⟨b2, 0, none⟩ (toNat (1 : Int) * 1)) = some (.int .i64 v53) ∧ 0 ≤ (2 : Int) ∧ (2 : Int) < ((6 : Nat) : Int) ∧ ∃ v54, cell H8 (.add ⟨b2, 0, none⟩ (toNat (2 : Int) * 1)) = some (.int .i64 v54) ∧ 0 ≤ (0 : Int) ∧ (0 : Int) < ((6 : Nat) : Int) ∧ ∃ v55, cell H8 (.add ⟨b2, 0, none⟩ (toNat (0 : Int) * 1)) = some (.int .i64 v55) ∧ (Tryz.C 119 #[.int .i64 (wrap .i64 (v52 * 4294967296)), .int .i64 (wrap .i64 ((wrap .i64 (v12 * v13)) - (wrap .i64 (v14 * v15))))] H8 fun r56 H57 => ∃ r58, r56 = .int .i64 r58 ∧ (Ext H8 H57 ∨ (∃ v111, cell H57 (.add ⟨b2, 0, none⟩ (toNat (0 : Int) * 1)) = some (.int .i64 v111) ∧ Value.int .i64 v111 = .int .i64 v55) ∧ (∃ v112, cell H57 (.add ⟨b2, 0, none⟩ (toNat (2 : Int) * 1)) = some (.int .i64 v112) ∧ Value.int .i64 v112 = .int .i64 v54) ∧ (∃ v113, cell H57 (.add ⟨b2, 0, none⟩ (toNat (1 : Int) * 1)) = some (.int .i64 v113) ∧ Value.int .i64 v113 = .int .i64 v53)) ∧ (Tryz.C 119 #[.int .i64 (wrap .i64 ((wrap .i64 (0 - v53)) * 4294967296)), .int .i64 (wrap .i64 ((wrap .i64 (v12 * v13)) - (wrap .i64 (v14 * v15))))] H57 fun r59 H60 => ∃ r61, r59 = .int .i64 r61 ∧ (Ext H57 H60 ∨ (∃ v91, cell H60 (.add ⟨b2, 0, none⟩ (toNat (0 : Int) * 1)) = some (.int .i64 v91) ∧ Value.int .i64 v91 = .int .i64 v55) ∧ (∃ v92, cell H60 (.add ⟨b2, 0, none⟩ (toNat (2 : Int) * 1)) = some (.int .i64 v92) ∧ Value.int .i64 v92 = .int .i64 v54)) ∧ (Tryz.C 119 #[.int .i64 (wrap .i64 ((wrap .i64 (0 - v54)) * 4294967296)), .int .i64 (wrap .i64 ((wrap .i64 (v12 * v13)) - (wrap .i64 (v14 * v15))))] H60 fun r62 H63 => ∃ r64, r62 = .int .i64 r64 ∧ (Ext H60 H63 ∨ (∃ v78, cell H63 (.add ⟨b2, 0, none⟩ (toNat (0 : Int) * 1)) = some (.int .i64 v78) ∧ Value.int .i64 v78 = .int .i64 v55)) ∧ (Tryz.C 119 #[.int .i64 (wrap .i64 (v55 * 4294967296)), .int .i64 (wrap .i64 ((wrap .i64 (v12 * v13)) - (wrap .i64 (v14 * v15))))] H63 fun r65 H66 => ∃ r67, r65 = .int .i64 r67 ∧ alc H66 (.cells #[.int .i64 0, .int .i64 0, .int .i64 0, .int .i64 0, .int .i64 0, .int .i64 0] 71) fun b68 H69 => #[Value.int .i64 r58, Value.int .i64 r61, Value.int .i64 r64, Value.int .i64 r67, Value.int .i64 0, Value.int .i64 0].size = 6 ∧ stAt H69 ⟨b68, 0, none⟩ (Array.toList #[.int .i64 r58, .int .i64 r61, .int .i64 r64, .int .i64 r67, .int .i64 0, .int .i64 0]) fun H70 => J18 [.pointer (some ⟨b68, 0, none⟩)] H70) ∧ (alc H63 (.cells #[.int .i64 0, .int .i64 0, .int .i64 0, .int .i64 0, .int .i64 0, .int .i64 0] 71) fun b71 H72 => (Ext H63 H72 ∨ (∃ v77, cell H72 (.add ⟨b2, 0, none⟩ (toNat (0 : Int) * 1)) = some (.int .i64 v77) ∧ Value.int .i64 v77 = .int .i64 v55)) ∧ Tryz.C 119 #[.int .i64 (wrap .i64 (v55 * 4294967296)), .int .i64 (wrap .i64 ((wrap .i64 (v12 * v13)) - (wrap .i64 (v14 * v15))))] H72 fun r73 H74 => ∃ r75, r73 = .int .i64 r75 ∧ #[Value.int .i64 r58, Value.int .i64 r61, Value.int .i64 r64, Value.int .i64 r75, Value.int .i64 0, Value.int .i64 0].size = 6 ∧ stAt H74 ⟨b71, 0, none⟩ (Array.toList #[.int .i64 r58, .int .i64 r61, .int .i64 r64, .int .i64 r75, .int .i64 0, .int .i64 0]) fun H76 => J18 [.pointer (some ⟨b71, 0, none⟩)] H76)) ∧ (alc H60 (.cells #[.int .i64 0, .int .i64 0, .int .i64 0, .int .i64 0, .int .i64 0, .int .i64 0] 71) fun b79 H80 => (Ext H60 H80 ∨ (∃ v89, cell H80 (.add ⟨b2, 0, none⟩ (toNat (0 : Int) * 1)) = some (.int .i64 v89) ∧ Value.int .i64 v89 = .int .i64 v55) ∧ (∃ v90, cell H80 (.add ⟨b2, 0, none⟩ (toNat (2 : Int) * 1)) = some (.int .i64 v90) ∧ Value.int .i64 v90 = .int .i64 v54)) ∧ Tryz.C 119 #[.int .i64 (wrap .i64 ((wrap .i64 (0 - v54)) * 4294967296)), .int .i64 (wrap .i64 ((wrap .i64 (v12 * v13)) - (wrap .i64 (v14 * v15))))] H80 fun r81 H82 => ∃ r83, r81 = .int .i64 r83 ∧ (Ext H80 H82 ∨ (∃ v88, cell H82 (.add ⟨b2, 0, none⟩ (toNat (0 : Int) * 1)) = some (.int .i64 v88) ∧ Value.int .i64 v88 = .int .i64 v55)) ∧ Tryz.C 119 #[.int .i64 (wrap .i64 (v55 * 4294967296)), .int .i64 (wrap .i64 ((wrap .i64 (v12 * v13)) - (wrap .i64 (v14 * v15))))] H82 fun r84 H85 => ∃ r86, r84 = .int .i64 r86 ∧ #[Value.int .i64 r58, Value.int .i64 r61, Value.int .i64 r83, Value.int .i64 r86, Value.int .i64 0, Value.int .i64 0].size = 6 ∧ stAt H85 ⟨b79, 0, none⟩ (Array.toList #[.int .i64 r58, .int .i64 r61, .int .i64 r83, .int .i64 r86, .int .i64 0, .int .i64 0]) fun H87 => J18 [.pointer (some ⟨b79, 0, none⟩)] H87)) ∧ (alc H57 (.cells #[.int .i64 0, .int .i64 0, .int .i64 0, .int .i64 0, .int .i64 0, .int .i64 0] 71) fun b93 H94 => (Ext H57 H94 ∨ (∃ v108, cell H94 (.add ⟨b2, 0, none⟩ (toNat (0 : Int) * 1)) = some (.int .i64 v108) ∧ Value.int .i64 v108 = .int .i64 v55) ∧ (∃ v109, cell H94 (.add ⟨b2, 0, none⟩ (toNat (2 : Int) * 1)) = some (.int .i64 v109) ∧ Value.int .i64 v109 = .int .i64 v54) ∧ (∃ v110, cell H94 (.add ⟨b2, 0, none⟩ (toNat (1 : Int) * 1)) = some (.int .i64 v110) ∧ Value.int .i64 v110 = .int .i64 v53)) ∧ Tryz.C 119 #[.int .i64 (wrap .i64 ((wrap .i64 (0 - v53)) * 4294967296)), .int .i64 (wrap .i64 ((wrap .i64 (v12 * v13)) - (wrap .i64 (v14 * v15))))] H94 fun r95 H96 => ∃ r97, r95 = .int .i64 r97 ∧ (Ext H94 H96 ∨ (∃ v106, cell H96 (.add ⟨b2, 0, none⟩ (toNat (0 : Int) * 1)) = some (.int .i64 v106) ∧ Value.int .i64 v106 = .int .i64 v55) ∧ (∃ v107, cell H96 (.add ⟨b2, 0, none⟩ (toNat (2 : Int) * 1)) = some (.int .i64 v107) ∧ Value.int .i64 v107 = .int .i64 v54)) ∧ Tryz.C 119 #[.int .i64 (wrap .i64 ((wrap .i64 (0 - v54)) * 4294967296)), .int .i64 (wrap .i64 ((wrap .i64 (v12 * v13)) - (wrap .i64 (v14 * v15))))] H96 fun r98 H99 => ∃ r100, r98 = .int .i64 r100 ∧ (Ext H96 H99 ∨ (∃ v105, cell H99 (.add ⟨b2, 0, none⟩ (toNat (0 : Int) * 1)) = some (.int .i64 v105) ∧ Value.int .i64 v105 = .int .i64 v55)) ∧ Tryz.C 119 #[.int .i64 (wrap .i64 (v55 * 4294967296)), .int .i64 (wrap .i64 ((wrap .i64 (v12 * v13)) - (wrap .i64 (v14 * v15))))] H99 fun r101 H102 => ∃ r103, r101 = .int .i64 r103 ∧ #[Value.int .i64 r58, Value.int .i64 r97, Value.int .i64 r100, Value.int .i64 r103, Value.int .i64 0, Value.int .i64 0].size = 6 ∧ stAt H102 ⟨b93, 0, none⟩ (Array.toList #[.int .i64 r58, .int .i64 r97, .int .i64 r100, .int .i64 r103, .int .i64 0, .int .i64 0]) fun H104 => J18 [.pointer (some ⟨b93, 0, none⟩)] H104)) ∧ (alc H8 (.cells #[.int .i64 0, .int .i64 0, .int .i64 0, .int .i64 0, .int .i64 0, .int .i64 0] 71) fun b114 H115 => (Ext H8 H115 ∨ (∃ v135, cell H115 (.add ⟨b2, 0, none⟩ (toNat (0 : Int) * 1)) = some (.int .i64 v135) ∧ Value.int .i64 v135 = .int .i64 v55) ∧ (∃ v136, cell H115 (.add ⟨b2, 0, none⟩ (toNat (2 : Int) * 1)) = some (.int .i64 v136) ∧ Value.int .i64 v136 = .int .i64 v54) ∧ (∃ v137, cell H115 (.add ⟨b2, 0, none⟩ (toNat (1 : Int) * 1)) = some (.int .i64 v137) ∧ Value.int .i64 v137 = .int .i64 v53) ∧ (∃ v138, cell H115 (.add ⟨b2, 0, none⟩ (toNat (3 : Int) * 1)) = some (.int .i64 v138) ∧ Value.int .i64 v138 = .int .i64 v52)) ∧ Tryz.C 119 #[.int .i64 (wrap .i64 (v52 * 4294967296)), .int .i64 (wrap .i64 ((wrap .i64 (v12 * v13)) - (wrap .i64 (v14 * v15))))] H115 fun r116 H117 => ∃ r118, r116 = .int .i64 r118 ∧ (Ext H115 H117 ∨ (∃ v132, cell H117 (.add ⟨b2, 0, none⟩ (toNat (0 : Int) * 1)) = some (.int .i64 v132) ∧ Value.int .i64 v132 = .int .i64 v55) ∧ (∃ v133, cell H117 (.add ⟨b2, 0, none⟩ (toNat (2 : Int) * 1)) = some (.int .i64 v133) ∧ Value.int .i64 v133 = .int .i64 v54) ∧ (∃ v134, cell H117 (.add ⟨b2, 0, none⟩ (toNat (1 : Int) * 1)) = some (.int .i64 v134) ∧ Value.int .i64 v134 = .int .i64 v53)) ∧ Tryz.C 119 #[.int .i64 (wrap .i64 ((wrap .i64 (0 - v53)) * 4294967296)), .int .i64 (wrap .i64 ((wrap .i64 (v12 * v13)) - (wrap .i64 (v14 * v15))))] H117 fun r119 H120 => ∃ r121, r119 = .int .i64 r121 ∧ (Ext H117 H120 ∨ (∃ v130, cell H120 (.add ⟨b2, 0, none⟩ (toNat (0 : Int) * 1)) = some (.int .i64 v130) ∧ Value.int .i64 v130 = .int .i64 v55) ∧ (∃ v131, cell H120 (.add ⟨b2, 0, none⟩ (toNat (2 : Int) * 1)) = some (.int .i64 v131) ∧ Value.int .i64 v131 = .int .i64 v54)) ∧ Tryz.C 119 #[.int .i64 (wrap .i64 ((wrap .i64 (0 - v54)) * 4294967296)), .int .i64 (wrap .i64 ((wrap .i64 (v12 * v13)) - (wrap .i64 (v14 * v15))))] H120 fun r122 H123 => ∃ r124, r122 = .int .i64 r124 ∧ (Ext H120 H123 ∨ (∃ v129, cell H123 (.add ⟨b2, 0, none⟩ (toNat (0 : Int) * 1)) = some (.int .i64 v129) ∧ Value.int .i64 v129 = .int .i64 v55)) ∧ Tryz.C 119 #[.int .i64 (wrap .i64 (v55 * 4294967296)), .int .i64 (wrap .i64 ((wrap .i64 (v12 * v13)) - (wrap .i64 (v14 * v15))))] H123 fun r125 H126 => ∃ r127, r125 = .int .i64 r127 ∧ #[Value.int .i64 r118, Value.int .i64 r121, Value.int .i64 r124, Value.int .i64 r127, Value.int .i64 0, Value.int .i64 0].size = 6 ∧ stAt H126 ⟨b114, 0, none⟩ (Array.toList #[.int .i64 r118, .int .i64 r121, .int .i64 r124, .int .i64 r127, .int .i64 0, .int .i64 0]) fun H128 => J18 [.pointer (some ⟨b114, 0, none⟩)] H128)))
def Tryz.p90 : Plan := (tl (tg (tl (tg (tl (two (join [(6, 999999)] [1, 2] leaf) (tg (tl (tl (tg (tl leaf)))))))))))
theorem Tryz.s90 {m1 : AV} {H R} (h : Tryz.S90 m1 H R) : Tryz.C 90 #[.agg m1] H R := vcs Tryz.tab_ok Tryz.mixed Tryz.func90 Tryz.cal90 Tryz.p90 h (by kernel_rfl)
def Tryz.S91 (ki1 : Int) (p2p : OA) (p2l p2c : Nat) (H : Heap) (R : Kv) : Prop :=
 ∀ X3 : Kl, (∀ (i4 : Int) H5, (br (decide (i4 < (p2l : Int)))
 (∃ a6, p2p = some a6 ∧ 0 ≤ i4 ∧ i4 < (p2l : Int) ∧ ∃ v7, cell H5 (.add a6 (toNat i4 * 1)) = some (.int .i64 v7) ∧ br (decide (v7 < 0)) (R (.tuple #[.slice none 0 0, .bool false]) H5) (∃ a8, p2p = some a8 ∧ 0 ≤ i4 ∧ i4 < (p2l : Int) ∧ ∃ v9, cell H5 (.add a8 (toNat i4 * 1)) = some (.int .i64 v9) ∧ br (decide (v9 > 255))
 (R (.tuple #[.slice none 0 0, .bool false]) H5)
 (X3 [.int .i64 (wrap .i64 (i4 + 1))] H5)))
 (0 ≤ (256 : Int) ∧ (256 : Int) ≤ (256 : Int) ∧ ((8 : Nat) : Int) * (256 : Int) ≤ 281474976710656 ∧ (256 : Int) ≤ 281474976710656 ∧ alc H5 (.cells (List.toArray (reps (toNat 256) (Array.toList #[.int .i64 0]))) 3) fun b10 H11 => br (ki1 == 0)
 (∀ J12 : Kl, (∀ H13, (∀ X14 : Kl, (∀ (v15 : Int) H16, (br (decide (v15 < 256))
 (∃ a17, p2p = some a17 ∧ 0 ≤ (1 : Int) ∧ (1 : Int) < (p2l : Int) ∧ ∃ v18, cell H16 (.add a17 (toNat (1 : Int) * 1)) = some (.int .i64 v18) ∧ br (decide (v15 ≥ v18))
 (∃ a19, (some ⟨b10, 0, none⟩) = some a19 ∧ 0 ≤ v15 ∧ v15 < (((toNat 256) : Nat) : Int) ∧ stAt H16 (.add a19 (toNat v15 * 1)) [.int .i64 255] fun H20 => X14 [.int .i64 (wrap .i64 (v15 + 1))] H20)
 (∃ a21, p2p = some a21 ∧ 0 ≤ (0 : Int) ∧ (0 : Int) < (p2l : Int) ∧ ∃ v22, cell H16 (.add a21 (toNat (0 : Int) * 1)) = some (.int .i64 v22) ∧ br (decide (v15 > v22))
 (∃ a23, p2p = some a23 ∧ 0 ≤ (0 : Int) ∧ (0 : Int) < (p2l : Int) ∧ ∃ v24, cell H16 (.add a23 (toNat (0 : Int) * 1)) = some (.int .i64 v24) ∧ ∃ a25, p2p = some a25 ∧ 0 ≤ (1 : Int) ∧ (1 : Int) < (p2l : Int) ∧ ∃ v26, cell H16 (.add a25 (toNat (1 : Int) * 1)) = some (.int .i64 v26) ∧ ∃ a27, p2p = some a27 ∧ 0 ≤ (0 : Int) ∧ (0 : Int) < (p2l : Int) ∧ ∃ v28, cell H16 (.add a27 (toNat (0 : Int) * 1)) = some (.int .i64 v28) ∧ (2 : Int) ≠ 0 ∧ ∃ a29, p2p = some a29 ∧ 0 ≤ (1 : Int) ∧ (1 : Int) < (p2l : Int) ∧ ∃ v30, cell H16 (.add a29 (toNat (1 : Int) * 1)) = some (.int .i64 v30) ∧ ∃ a31, p2p = some a31 ∧ 0 ≤ (0 : Int) ∧ (0 : Int) < (p2l : Int) ∧ ∃ v32, cell H16 (.add a31 (toNat (0 : Int) * 1)) = some (.int .i64 v32) ∧ (wrap .i64 (v30 - v32)) ≠ 0 ∧ ∃ a33, (some ⟨b10, 0, none⟩) = some a33 ∧ 0 ≤ v15 ∧ v15 < (((toNat 256) : Nat) : Int) ∧ stAt H16 (.add a33 (toNat v15 * 1)) [.int .i64 (wrap .i64 (Int.tdiv (wrap .i64 ((wrap .i64 ((255 : Int) * (wrap .i64 (v15 - v24)))) + (wrap .i64 (Int.tdiv (wrap .i64 (v26 - v28)) 2)))) (wrap .i64 (v30 - v32))))] fun H34 => X14 [.int .i64 (wrap .i64 (v15 + 1))] H34)
 (X14 [.int .i64 (wrap .i64 (v15 + 1))] H16)))
 (R (.tuple #[.slice (some ⟨b10, 0, none⟩) (toNat 256) (toNat 256), .bool true]) H16)) → X14 [.int .i64 v15] H16) → X14 [.int .i64 0] H13) → J12 [] H13) →
 br (((p2l : Int) : Int) != 2) (R (.tuple #[.slice none 0 0, .bool false]) H11) (∃ a35, p2p = some a35 ∧ 0 ≤ (0 : Int) ∧ (0 : Int) < (p2l : Int) ∧ ∃ v36, cell H11 (.add a35 (toNat (0 : Int) * 1)) = some (.int .i64 v36) ∧ ∃ a37, p2p = some a37 ∧ 0 ≤ (1 : Int) ∧ (1 : Int) < (p2l : Int) ∧ ∃ v38, cell H11 (.add a37 (toNat (1 : Int) * 1)) = some (.int .i64 v38) ∧ br (decide (v36 ≥ v38))
 (R (.tuple #[.slice none 0 0, .bool false]) H11)
 (J12 [] H11)))
 (br (ki1 == 1)
 (∀ J39 : Kl, (∀ H40, (∀ X41 : Kl, (∀ (i42 : Int) H43, (br (decide (i42 < (p2l : Int)))
 (∃ a44, p2p = some a44 ∧ 0 ≤ i42 ∧ i42 < (p2l : Int) ∧ ∃ v45, cell H43 (.add a44 (toNat i42 * 1)) = some (.int .i64 v45) ∧ ∃ a46, p2p = some a46 ∧ 0 ≤ (wrap .i64 (i42 - 2)) ∧ (wrap .i64 (i42 - 2)) < (p2l : Int) ∧ ∃ v47, cell H43 (.add a46 (toNat (wrap .i64 (i42 - 2)) * 1)) = some (.int .i64 v47) ∧ br (decide (v45 ≤ v47))
 (R (.tuple #[.slice none 0 0, .bool false]) H43)
 (X41 [.int .i64 (wrap .i64 (i42 + 2))] H43))
 (∀ X48 : Kl, (∀ (v49 : Int) H50, (br (decide (v49 < 256))
 (Tryz.C 121 #[.slice p2p p2l p2c, .int .i64 v49] H50 fun r51 H52 => ∃ r53, r51 = .int .i64 r53 ∧ ∃ a54, (some ⟨b10, 0, none⟩) = some a54 ∧ 0 ≤ v49 ∧ v49 < (((toNat 256) : Nat) : Int) ∧ stAt H52 (.add a54 (toNat v49 * 1)) [.int .i64 r53] fun H55 => X48 [.int .i64 (wrap .i64 (v49 + 1))] H55)
 (R (.tuple #[.slice (some ⟨b10, 0, none⟩) (toNat 256) (toNat 256), .bool true]) H50)) → X48 [.int .i64 v49] H50) → X48 [.int .i64 0] H43)) → X41 [.int .i64 i42] H43) → X41 [.int .i64 2] H40) → J39 [] H40) →
 br (decide (((p2l : Int) : Int) < 2)) (R (.tuple #[.slice none 0 0, .bool false]) H11) (br (decide (((p2l : Int) : Int) > 32)) (R (.tuple #[.slice none 0 0, .bool false]) H11) ((2 : Int) ≠ 0 ∧ br (((Int.tmod (p2l : Int) 2) : Int) == 1)
 (R (.tuple #[.slice none 0 0, .bool false]) H11)
 (J39 [] H11))))
 (br (ki1 == 2)
 (∀ X56 : Kl, (∀ (v57 : Int) H58, (br (decide (v57 < 256))
 (∃ a59, (some ⟨b10, 0, none⟩) = some a59 ∧ 0 ≤ v57 ∧ v57 < (((toNat 256) : Nat) : Int) ∧ stAt H58 (.add a59 (toNat v57 * 1)) [.int .i64 (wrap .i64 ((255 : Int) - v57))] fun H60 => X56 [.int .i64 (wrap .i64 (v57 + 1))] H60)
 (R (.tuple #[.slice (some ⟨b10, 0, none⟩) (toNat 256) (toNat 256), .bool (((p2l : Int) : Int) == 0)]) H58)) → X56 [.int .i64 v57] H58) → X56 [.int .i64 0] H11)
 (br (ki1 == 3)
 (br (((p2l : Int) : Int) != 1)
 (R (.tuple #[.slice none 0 0, .bool false]) H11)
 (∃ a61, p2p = some a61 ∧ 0 ≤ (0 : Int) ∧ (0 : Int) < (p2l : Int) ∧ ∃ v62, cell H11 (.add a61 (toNat (0 : Int) * 1)) = some (.int .i64 v62) ∧ ∀ X63 : Kl, (∀ (v64 : Int) H65, (br (decide (v64 < 256))
 (∃ a66, (some ⟨b10, 0, none⟩) = some a66 ∧ 0 ≤ v64 ∧ v64 < (((toNat 256) : Nat) : Int) ∧ stAt H65 (.add a66 (toNat v64 * 1)) [.int .i64 255] fun H67 => X63 [.int .i64 (wrap .i64 (v64 + 1))] H67)
 (R (.tuple #[.slice (some ⟨b10, 0, none⟩) (toNat 256) (toNat 256), .bool true]) H65)) → X63 [.int .i64 v64] H65) → X63 [.int .i64 v62] H11))
 (R (.tuple #[.slice none 0 0, .bool false]) H11)))))) → X3 [.int .i64 i4] H5) → X3 [.int .i64 0] H
def Tryz.p91 : Plan := (tl (tl (two (tl (one (loop [(7, 3)] [0, 1, 6] (two (tl (tl leaf)) (two (one g0) leaf))))) (tl (two (tl (one (tl (two (two (join [] [1, 8] g0) (two (tl (one (loop [(9, 3)] [1, 8] (two (tl (tl leaf)) (two (one (tl (tl (tl (tl leaf))))) leaf))))) (tl leaf))) (tl (two (two (join [] [1, 6, 8] g0) (two (tl (one (loop [(10, 3)] [1, 6, 8] (two (tl (tl leaf)) (two (one g0) leaf))))) (two (tl (one (loop [(11, 3)] [1, 8] (two (tl (tl leaf)) (two (one leaf) leaf))))) (tl leaf)))) (tl (two (two (tl (one (loop [(12, 3)] [6, 8] (two (tl (tl leaf)) (two (one leaf) leaf))))) (tl leaf)) (tl (two (tg (two (tl (one (loop [(13, 3)] [8] (two (tl (tl leaf)) (two (one leaf) leaf))))) (tl leaf))) leaf)))))))))) (tl leaf))))))
theorem Tryz.s91 {ki1 : Int} {p2p : OA} {p2l p2c : Nat} {H R} (h : Tryz.S91 ki1 p2p p2l p2c H R) : Tryz.C 91 #[.int .i64 ki1, .slice p2p p2l p2c] H R := vcs Tryz.tab_ok Tryz.mixed Tryz.func91 Tryz.cal91 Tryz.p91 h (by kernel_rfl)
def Tryz.S94 (n1 m2 : Int) (H : Heap) (R : Kv) : Prop :=
 m2 ≠ 0 ∧ ∀ J3 : Kl, (∀ (r4 : Int) H5, (m2 ≠ 0 ∧ R (.int .i64 (wrap .i64 (Int.tdiv (wrap .i64 (n1 - r4)) m2))) H5) → J3 [.int .i64 r4] H5) →
 br (decide (((Int.tmod n1 m2) : Int) < 0))
 (J3 [.int .i64 (wrap .i64 ((Int.tmod n1 m2) + m2))] H)
 (J3 [.int .i64 (Int.tmod n1 m2)] H)
def Tryz.p94 : Plan := (tl (tl (two (join [(5, 3)] [0, 1] (tl (tl leaf))) (tl leaf))))
theorem Tryz.s94 {n1 m2 : Int} {H R} (h : Tryz.S94 n1 m2 H R) : Tryz.C 94 #[.int .i64 n1, .int .i64 m2] H R := vcs Tryz.tab_ok Tryz.mixed Tryz.func94 Tryz.cal94 Tryz.p94 h (by kernel_rfl)
def Tryz.S99 (a1p : OA) (a1l a1c : Nat) (b2p : OA) (b2l b2c : Nat) (H : Heap) (R : Kv) : Prop :=
 br (((a1l : Int) : Int) != (b2l : Int))
 (R (.bool false) H)
 (∀ X3 : Kl, (∀ (i4 : Int) H5, (br (decide (i4 < (a1l : Int)))
 (∃ a6, a1p = some a6 ∧ 0 ≤ i4 ∧ i4 < (a1l : Int) ∧ ∃ v7, cell H5 (.add a6 (toNat i4 * 1)) = some (.int .i64 v7) ∧ ∃ a8, b2p = some a8 ∧ 0 ≤ i4 ∧ i4 < (b2l : Int) ∧ ∃ v9, cell H5 (.add a8 (toNat i4 * 1)) = some (.int .i64 v9) ∧ br (v7 != v9)
 (R (.bool false) H5)
 (X3 [.int .i64 (wrap .i64 (i4 + 1))] H5))
 (R (.bool true) H5)) → X3 [.int .i64 i4] H5) → X3 [.int .i64 0] H)
def Tryz.p99 : Plan := (tl (tg (two (tl (one (loop [(14, 3)] [1, 12, 13] (tl (two (tl leaf) (two (one (tl g0)) leaf)))))) (tl leaf))))
theorem Tryz.s99 {a1p : OA} {a1l a1c : Nat} {b2p : OA} {b2l b2c : Nat} {H R} (h : Tryz.S99 a1p a1l a1c b2p b2l b2c H R) : Tryz.C 99 #[.slice a1p a1l a1c, .slice b2p b2l b2c] H R := vcs Tryz.tab_ok Tryz.mixed Tryz.func99 Tryz.cal99 Tryz.p99 h (by kernel_rfl)
def Tryz.S100 (i1 v2 v3 at_4 : Int) (ad5 ad6 ad7 : Addr) (H : Heap) (R : Kv) : Prop :=
 ∃ v8, v8.size = 19 ∧ rowIn H ad5 v8 ∧ Tryz.C 65 #[.agg v8, .int .i64 at_4] H fun r9 H10 => ∃ f11, r9 = .int .i64 f11 ∧ ∃ v12p v12l v12c, cell H10 ad6 = some (.slice v12p v12l v12c) ∧ ∃ a13, v12p = some a13 ∧ 0 ≤ i1 ∧ i1 < (v12l : Int) ∧ ∃ v14, cell H10 (.add a13 (toNat i1 * 1)) = some (.int .i64 v14) ∧ Tryz.C 45 #[.int .i64 v14] H10 fun r15 H16 => ∃ r17, r15 = .agg r17 ∧ alc H16 (.cells #[.int .i64 0, .int .i64 0, .int .i64 0, .int .i64 0] 94) fun b18 H19 => r17.size = 4 ∧ stAt H19 ⟨b18, 0, none⟩ r17.toList fun H20 => ∃ v21p v21l v21c, cell H20 ad7 = some (.slice v21p v21l v21c) ∧ ∃ v22, v22.size = 4 ∧ rowIn H20 ⟨b18, 0, none⟩ v22 ∧ Tryz.C 101 #[.slice v21p v21l v21c, .agg v22] H20 fun r23 H24 => ∃ r25, r23 = .agg r25 ∧ alc H24 (.cells #[.int .i64 0, .int .i64 0, .int .i64 0, .int .i64 0] 94) fun b26 H27 => r25.size = 4 ∧ stAt H27 ⟨b26, 0, none⟩ r25.toList fun H28 => ∀ X29 : Kl, (∀ (c30 : Int) H31, (br (decide (c30 < 3))
 (0 ≤ (3 : Int) ∧ (3 : Int) < ((4 : Nat) : Int) ∧ ∃ v32, cell H31 (.add ⟨b18, 0, none⟩ (toNat (3 : Int) * 1)) = some (.int .i64 v32) ∧ 0 ≤ c30 ∧ c30 < ((4 : Nat) : Int) ∧ ∃ v33, cell H31 (.add ⟨b26, 0, none⟩ (toNat c30 * 1)) = some (.int .i64 v33) ∧ 0 ≤ c30 ∧ c30 < ((4 : Nat) : Int) ∧ ∃ v34, cell H31 (.add ⟨b18, 0, none⟩ (toNat c30 * 1)) = some (.int .i64 v34) ∧ Tryz.C 102 #[.int .i64 v33, .int .i64 f11] H31 fun r35 H36 => ∃ r37, r35 = .int .i64 r37 ∧ (Ext H31 H36 ∨ (∃ v43, cell H36 (.add ⟨b18, 0, none⟩ (toNat c30 * 1)) = some (.int .i64 v43) ∧ Value.int .i64 v43 = .int .i64 v34) ∧ (∃ v44, cell H36 (.add ⟨b18, 0, none⟩ (toNat (3 : Int) * 1)) = some (.int .i64 v44) ∧ Value.int .i64 v44 = .int .i64 v32)) ∧ Tryz.C 102 #[.int .i64 v34, .int .i64 (wrap .i64 ((255 : Int) - f11))] H36 fun r38 H39 => ∃ r40, r38 = .int .i64 r40 ∧ (Ext H36 H39 ∨ (∃ v42, cell H39 (.add ⟨b18, 0, none⟩ (toNat (3 : Int) * 1)) = some (.int .i64 v42) ∧ Value.int .i64 v42 = .int .i64 v32)) ∧ 0 ≤ c30 ∧ c30 < ((4 : Nat) : Int) ∧ stAt H39 (.add ⟨b18, 0, none⟩ (toNat c30 * 1)) [.int .i64 (min v32 (wrap .i64 (r37 + r40)))] fun H41 => X29 [.int .i64 (wrap .i64 (c30 + 1))] H41)
 (∃ v45p v45l v45c, cell H31 ad6 = some (.slice v45p v45l v45c) ∧ ∃ v46, v46.size = 4 ∧ rowIn H31 ⟨b18, 0, none⟩ v46 ∧ Tryz.C 66 #[.agg v46] H31 fun r47 H48 => ∃ r49, r47 = .int .i64 r49 ∧ (Ext H31 H48 ∨ (∃ v52p v52l v52c, cell H48 ad6 = some (.slice v52p v52l v52c) ∧ Value.slice v52p v52l v52c = .slice v45p v45l v45c)) ∧ ∃ a50, v45p = some a50 ∧ 0 ≤ i1 ∧ i1 < (v45l : Int) ∧ stAt H48 (.add a50 (toNat i1 * 1)) [.int .i64 r49] fun H51 => R (.tuple #[]) H51)) → X29 [.int .i64 c30] H31) → X29 [.int .i64 0] H28
def Tryz.p100 : Plan := (tl (tl (tl (two (tl (one (loop [(26, 3)] [0, 5, 11, 12, 13] (tl (two (tl leaf) (two (one (tl leaf)) leaf)))))) leaf))))
theorem Tryz.s100 {i1 v2 v3 at_4 : Int} {ad5 ad6 ad7 : Addr} {H R} (h : Tryz.S100 i1 v2 v3 at_4 ad5 ad6 ad7 H R) : Tryz.C 100 #[.int .i64 i1, .int .i64 v2, .int .i64 v3, .int .i64 at_4, .pointer (some ad5), .pointer (some ad6), .pointer (some ad7)] H R := vcs Tryz.tab_ok Tryz.mixed Tryz.func100 Tryz.cal100 Tryz.p100 h (by kernel_rfl)
def Tryz.S101 (ta1p : OA) (ta1l ta1c : Nat) (p2 : AV) (H : Heap) (R : Kv) : Prop :=
 alc H (.cells p2 94) fun b3 H4 => alc H4 (.cells #[.int .i64 0, .int .i64 0, .int .i64 0, .int .i64 0] 94) fun b5 H6 => ∀ X7 : Kl, (∀ (i8 : Int) H9, (br (decide (i8 < 3))
 (0 ≤ i8 ∧ i8 < ((4 : Nat) : Int) ∧ ∃ v10, cell H9 (.add ⟨b3, 0, none⟩ (toNat i8 * 1)) = some (.int .i64 v10) ∧ 0 ≤ (3 : Int) ∧ (3 : Int) < ((4 : Nat) : Int) ∧ ∃ v11, cell H9 (.add ⟨b3, 0, none⟩ (toNat (3 : Int) * 1)) = some (.int .i64 v11) ∧ 0 ≤ (3 : Int) ∧ (3 : Int) < ((4 : Nat) : Int) ∧ ∃ v12, cell H9 (.add ⟨b3, 0, none⟩ (toNat (3 : Int) * 1)) = some (.int .i64 v12) ∧ Tryz.C 106 #[.int .i64 v10, .int .i64 v11] H9 fun r13 H14 => ∃ r15, r13 = .int .i64 r15 ∧ (Ext H9 H14 ∨ (∃ v22, cell H14 (.add ⟨b3, 0, none⟩ (toNat (3 : Int) * 1)) = some (.int .i64 v22) ∧ Value.int .i64 v22 = .int .i64 v12)) ∧ ∃ a16, ta1p = some a16 ∧ 0 ≤ r15 ∧ r15 < (ta1l : Int) ∧ ∃ v17, cell H14 (.add a16 (toNat r15 * 1)) = some (.int .i64 v17) ∧ Tryz.C 102 #[.int .i64 v17, .int .i64 v12] H14 fun r18 H19 => ∃ r20, r18 = .int .i64 r20 ∧ 0 ≤ i8 ∧ i8 < ((4 : Nat) : Int) ∧ stAt H19 (.add ⟨b3, 0, none⟩ (toNat i8 * 1)) [.int .i64 r20] fun H21 => X7 [.int .i64 (wrap .i64 (i8 + 1))] H21)
 (∃ v23, v23.size = 4 ∧ rowIn H9 ⟨b3, 0, none⟩ v23 ∧ v23.size = 4 ∧ stAt H9 ⟨b5, 0, none⟩ v23.toList fun H24 => ∃ re25, re25.size = 4 ∧ rowIn H24 ⟨b5, 0, none⟩ re25 ∧ R (.agg re25) H24)) → X7 [.int .i64 i8] H9) → X7 [.int .i64 0] H6
def Tryz.p101 : Plan := (tl (two (tl (one (loop [(6, 3)] [0, 3, 4] (tl (two (tl leaf) (two (one (tl leaf)) leaf)))))) (tl leaf)))
theorem Tryz.s101 {ta1p : OA} {ta1l ta1c : Nat} {p2 : AV} {H R} (h : Tryz.S101 ta1p ta1l ta1c p2 H R) : Tryz.C 101 #[.slice ta1p ta1l ta1c, .agg p2] H R := vcs Tryz.tab_ok Tryz.mixed Tryz.func101 Tryz.cal101 Tryz.p101 h (by kernel_rfl)
def Tryz.S102 (a1 b2 : Int) (H : Heap) (R : Kv) : Prop :=
 (255 : Int) ≠ 0 ∧ R (.int .i64 (wrap .i64 (Int.tdiv (wrap .i64 ((wrap .i64 (a1 * b2)) + 127)) 255))) H
def Tryz.p102 : Plan := (tl (tl leaf))
theorem Tryz.s102 {a1 b2 : Int} {H R} (h : Tryz.S102 a1 b2 H R) : Tryz.C 102 #[.int .i64 a1, .int .i64 b2] H R := vcs Tryz.tab_ok Tryz.mixed Tryz.func102 Tryz.cal102 Tryz.p102 h (by kernel_rfl)
def Tryz.S103 (i1 x2 y3 v4 : Int) (ad5 ad6 ad7 ad8 : Addr) (H : Heap) (R : Kv) : Prop :=
 ∃ v9p v9l v9c, cell H ad8 = some (.slice v9p v9l v9c) ∧ ∃ v10, v10.size = 3 ∧ rowIn H ad5 v10 ∧ ∃ v11, v11.size = 6 ∧ rowIn H ad6 v11 ∧ ∃ Sm12, cell H (.add ad7 15) = some (.bool Sm12) ∧ Tryz.C 104 #[.agg v10, .agg v11, .int .i64 x2, .int .i64 y3, .bool Sm12] H fun r13 H14 => ∃ r15, r13 = .int .i64 r15 ∧ (Ext H H14 ∨ (∃ v18p v18l v18c, cell H14 ad8 = some (.slice v18p v18l v18c) ∧ Value.slice v18p v18l v18c = .slice v9p v9l v9c)) ∧ ∃ a16, v9p = some a16 ∧ 0 ≤ i1 ∧ i1 < (v9l : Int) ∧ stAt H14 (.add a16 (toNat i1 * 1)) [.int .i64 r15] fun H17 => R (.tuple #[]) H17
def Tryz.p103 : Plan := leaf
theorem Tryz.s103 {i1 x2 y3 v4 : Int} {ad5 ad6 ad7 ad8 : Addr} {H R} (h : Tryz.S103 i1 x2 y3 v4 ad5 ad6 ad7 ad8 H R) : Tryz.C 103 #[.int .i64 i1, .int .i64 x2, .int .i64 y3, .int .i64 v4, .pointer (some ad5), .pointer (some ad6), .pointer (some ad7), .pointer (some ad8)] H R := vcs Tryz.tab_ok Tryz.mixed Tryz.func103 Tryz.cal103 Tryz.p103 h (by kernel_rfl)
end Go.Proofs
namespace Go.Proofs
open Go.Sh Go.Sh.Plan
open Go.IntKind (wrap)
open Int (toNat)
def Tryz.S104 (p1 ba2 : AV) (x3 y4 : Int) (sm5 : Bool) (H : Heap) (R : Kv) : Prop :=
 alc H (.cells p1 34) fun b6 H7 => alc H7 (.cells ba2 50) fun b8 H9 => 0 ≤ (0 : Int) ∧ (0 : Int) < ((6 : Nat) : Int) ∧ ∃ v10, cell H9 (.add ⟨b8, 0, none⟩ (toNat (0 : Int) * 1)) = some (.int .i64 v10) ∧ 0 ≤ (1 : Int) ∧ (1 : Int) < ((6 : Nat) : Int) ∧ ∃ v11, cell H9 (.add ⟨b8, 0, none⟩ (toNat (1 : Int) * 1)) = some (.int .i64 v11) ∧ 0 ≤ (1 : Int) ∧ 0 ≤ (4 : Int) ∧ (4 : Int) < ((6 : Nat) : Int) ∧ ∃ v12, cell H9 (.add ⟨b8, 0, none⟩ (toNat (4 : Int) * 1)) = some (.int .i64 v12) ∧ 0 ≤ (2 : Int) ∧ (2 : Int) < ((6 : Nat) : Int) ∧ ∃ v13, cell H9 (.add ⟨b8, 0, none⟩ (toNat (2 : Int) * 1)) = some (.int .i64 v13) ∧ 0 ≤ (3 : Int) ∧ (3 : Int) < ((6 : Nat) : Int) ∧ ∃ v14, cell H9 (.add ⟨b8, 0, none⟩ (toNat (3 : Int) * 1)) = some (.int .i64 v14) ∧ 0 ≤ (1 : Int) ∧ 0 ≤ (5 : Int) ∧ (5 : Int) < ((6 : Nat) : Int) ∧ ∃ v15, cell H9 (.add ⟨b8, 0, none⟩ (toNat (5 : Int) * 1)) = some (.int .i64 v15) ∧ br sm5
 (∃ v16, v16.size = 3 ∧ rowIn H9 ⟨b6, 0, none⟩ v16 ∧ Tryz.C 123 #[.agg v16, .int .i64 (wrap .i64 ((shrI .i64 (wrap .i64 ((wrap .i64 (v10 * (wrap .i64 ((wrap .i64 ((2 : Int) * x3)) + 1)))) + (wrap .i64 (v11 * (wrap .i64 ((wrap .i64 ((2 : Int) * y4)) + 1)))))) 1) + v12)), .int .i64 (wrap .i64 ((shrI .i64 (wrap .i64 ((wrap .i64 (v13 * (wrap .i64 ((wrap .i64 ((2 : Int) * x3)) + 1)))) + (wrap .i64 (v14 * (wrap .i64 ((wrap .i64 ((2 : Int) * y4)) + 1)))))) 1) + v15))] H9 fun r17 H18 => ∃ r19, r17 = .int .i64 r19 ∧ R (.int .i64 r19) H18)
 (∃ v20, v20.size = 3 ∧ rowIn H9 ⟨b6, 0, none⟩ v20 ∧ 0 ≤ (16 : Int) ∧ 0 ≤ (16 : Int) ∧ Tryz.C 124 #[.agg v20, .int .i64 (shrI .i64 (wrap .i64 ((shrI .i64 (wrap .i64 ((wrap .i64 (v10 * (wrap .i64 ((wrap .i64 ((2 : Int) * x3)) + 1)))) + (wrap .i64 (v11 * (wrap .i64 ((wrap .i64 ((2 : Int) * y4)) + 1)))))) 1) + v12)) 16), .int .i64 (shrI .i64 (wrap .i64 ((shrI .i64 (wrap .i64 ((wrap .i64 (v13 * (wrap .i64 ((wrap .i64 ((2 : Int) * x3)) + 1)))) + (wrap .i64 (v14 * (wrap .i64 ((wrap .i64 ((2 : Int) * y4)) + 1)))))) 1) + v15)) 16)] H9 fun r21 H22 => ∃ r23, r21 = .int .i64 r23 ∧ R (.int .i64 r23) H22)
def Tryz.p104 : Plan := (tl (tl (tl (tl (tg (tl leaf))))))
theorem Tryz.s104 {p1 ba2 : AV} {x3 y4 : Int} {sm5 : Bool} {H R} (h : Tryz.S104 p1 ba2 x3 y4 sm5 H R) : Tryz.C 104 #[.agg p1, .agg ba2, .int .i64 x3, .int .i64 y4, .bool sm5] H R := vcs Tryz.tab_ok Tryz.mixed Tryz.func104 Tryz.cal104 Tryz.p104 h (by kernel_rfl)
def Tryz.S105 (mo1 x2 y3 : Int) (H : Heap) (R : Kv) : Prop :=
 br (mo1 == 1)
 (Tryz.C 102 #[.int .i64 x2, .int .i64 y3] H fun r4 H5 => ∃ r6, r4 = .int .i64 r6 ∧ R (.int .i64 r6) H5)
 (br (mo1 == 2)
 (Tryz.C 125 #[.int .i64 x2, .int .i64 y3] H fun r7 H8 => ∃ r9, r7 = .int .i64 r9 ∧ R (.int .i64 r9) H8)
 (br (mo1 == 3)
 (Tryz.C 126 #[.int .i64 y3, .int .i64 x2] H fun r10 H11 => ∃ r12, r10 = .int .i64 r12 ∧ R (.int .i64 r12) H11)
 (br (mo1 == 4)
 (R (.int .i64 (min x2 y3)) H)
 (br (mo1 == 5)
 (R (.int .i64 (max x2 y3)) H)
 (br (mo1 == 6)
 (br (x2 == 0)
 (R (.int .i64 0) H)
 (br (y3 == 255)
 (R (.int .i64 255) H)
 ((wrap .i64 ((255 : Int) - y3)) ≠ 0 ∧ R (.int .i64 (min 255 (wrap .i64 (Int.tdiv (wrap .i64 ((255 : Int) * x2)) (wrap .i64 ((255 : Int) - y3)))))) H)))
 (br (mo1 == 7)
 (br (x2 == 255)
 (R (.int .i64 255) H)
 (br (y3 == 0)
 (R (.int .i64 0) H)
 (y3 ≠ 0 ∧ R (.int .i64 (wrap .i64 ((255 : Int) - (min 255 (wrap .i64 (Int.tdiv (wrap .i64 ((255 : Int) * (wrap .i64 ((255 : Int) - x2)))) y3)))))) H)))
 (br (mo1 == 8)
 (Tryz.C 126 #[.int .i64 x2, .int .i64 y3] H fun r13 H14 => ∃ r15, r13 = .int .i64 r15 ∧ R (.int .i64 r15) H14)
 (br (mo1 == 9)
 (R (.int .i64 (max (wrap .i64 (x2 - y3)) (wrap .i64 (y3 - x2)))) H)
 (br (mo1 == 10)
 (Tryz.C 102 #[.int .i64 x2, .int .i64 y3] H fun r16 H17 => ∃ r18, r16 = .int .i64 r18 ∧ R (.int .i64 (wrap .i64 ((wrap .i64 (x2 + y3)) - (wrap .i64 ((2 : Int) * r18))))) H17)
 (br (mo1 == 11)
 (Tryz.C 102 #[.int .i64 x2, .int .i64 x2] H fun r19 H20 => ∃ r21, r19 = .int .i64 r21 ∧ Tryz.C 102 #[.int .i64 x2, .int .i64 y3] H20 fun r22 H23 => ∃ r24, r22 = .int .i64 r24 ∧ Tryz.C 102 #[.int .i64 x2, .int .i64 x2] H23 fun r25 H26 => ∃ r27, r25 = .int .i64 r27 ∧ Tryz.C 102 #[.int .i64 r27, .int .i64 y3] H26 fun r28 H29 => ∃ r30, r28 = .int .i64 r30 ∧ R (.int .i64 (min 255 (max 0 (wrap .i64 ((wrap .i64 (r21 + (wrap .i64 ((2 : Int) * r24)))) - (wrap .i64 ((2 : Int) * r30))))))) H29)
 (R (.int .i64 y3) H)))))))))))
def Tryz.p105 : Plan := (tl (two (tl (one (tl (two (tl leaf) (tl (two (tl leaf) (tl (two (tl leaf) (tl (two (tl leaf) (tl (two (tl leaf) (tl (two (two (one (tl (two (tl leaf) g0))) (tl leaf)) (tl (two (two (one (tl (two (tl leaf) g0))) (tl leaf)) (tl (two (tl leaf) (tl (two (tl leaf) (tl (two (tl leaf) g0)))))))))))))))))))))) (tl leaf)))
theorem Tryz.s105 {mo1 x2 y3 : Int} {H R} (h : Tryz.S105 mo1 x2 y3 H R) : Tryz.C 105 #[.int .i64 mo1, .int .i64 x2, .int .i64 y3] H R := vcs Tryz.tab_ok Tryz.mixed Tryz.func105 Tryz.cal105 Tryz.p105 h (by kernel_rfl)
def Tryz.S106 (c1 a2 : Int) (H : Heap) (R : Kv) : Prop :=
 br (a2 == 0)
 (R (.int .i64 0) H)
 ((2 : Int) ≠ 0 ∧ a2 ≠ 0 ∧ R (.int .i64 (min 255 (wrap .i64 (Int.tdiv (wrap .i64 ((wrap .i64 ((255 : Int) * c1)) + (wrap .i64 (Int.tdiv a2 2)))) a2)))) H)
def Tryz.p106 : Plan := (tl (tg (tl leaf)))
theorem Tryz.s106 {c1 a2 : Int} {H R} (h : Tryz.S106 c1 a2 H R) : Tryz.C 106 #[.int .i64 c1, .int .i64 a2] H R := vcs Tryz.tab_ok Tryz.mixed Tryz.func106 Tryz.cal106 Tryz.p106 h (by kernel_rfl)
def Tryz.S107 (s1p : OA) (s1l s1c : Nat) (i2 : Int) (v3p : OA) (v3l v3c : Nat) (H : Heap) (R : Kv) : Prop :=
 0 ≤ i2 ∧ i2 ≤ (s1l : Int) ∧ br (((v3l : Int) : Int) == 0)
 (R (.slice s1p s1l s1c) H)
 (br (i2 == (s1l : Int))
 (appQ 19 216 #[.int .i64 0, .int .i64 0, .bool false, .int .i64 0, .int .i64 0, .int .i64 0, .int .i64 0, .slice none 0 0, .slice none 0 0, .int .i64 0, .int .i64 0, .int .i64 0, .int .i64 0, .int .i64 0, .int .i64 0, .bool false, .int .i64 0, .slice none 0 0, .slice none 0 0] H s1p s1l s1c v3p v3l 58 fun ap4p ap4l ap4c H5 => R (.slice ap4p ap4l ap4c) H5)
 (br (decide (((wrap .i64 ((s1l : Int) + (v3l : Int))) : Int) > (s1c : Int)))
 (0 ≤ i2 ∧ i2 ≤ (s1c : Int) ∧ appZ 19 216 #[.int .i64 0, .int .i64 0, .bool false, .int .i64 0, .int .i64 0, .int .i64 0, .int .i64 0, .slice none 0 0, .slice none 0 0, .int .i64 0, .int .i64 0, .int .i64 0, .int .i64 0, .int .i64 0, .int .i64 0, .bool false, .int .i64 0, .slice none 0 0, .slice none 0 0] H (if s1c = 0 then s1p else Option.map (fun x => Addr.add x (0 * 19)) s1p) ((toNat i2) - 0) (s1c - 0) (wrap .i64 ((wrap .i64 ((s1l : Int) + (v3l : Int))) - i2)) 58 fun s26p s26l s26c H7 => 0 ≤ i2 ∧ i2 ≤ (s26l : Int) ∧ ∃ xs8, rowOf H7 v3p (min v3l (s26l - (toNat i2)) * 19) xs8 ∧ copQ H7 (if s26c = (toNat i2) then s26p else Option.map (fun x => Addr.add x ((toNat i2) * 19)) s26p) xs8 fun H9 => 0 ≤ (wrap .i64 (i2 + (v3l : Int))) ∧ (wrap .i64 (i2 + (v3l : Int))) ≤ (s26l : Int) ∧ 0 ≤ i2 ∧ i2 ≤ (s1l : Int) ∧ ∃ xs10, rowOf H9 (if s1c = (toNat i2) then s1p else Option.map (fun x => Addr.add x ((toNat i2) * 19)) s1p) (min (s1l - (toNat i2)) (s26l - (toNat (wrap .i64 (i2 + (v3l : Int))))) * 19) xs10 ∧ copQ H9 (if s26c = (toNat (wrap .i64 (i2 + (v3l : Int)))) then s26p else Option.map (fun x => Addr.add x ((toNat (wrap .i64 (i2 + (v3l : Int)))) * 19)) s26p) xs10 fun H11 => R (.slice s26p s26l s26c) H11)
 (0 ≤ (wrap .i64 ((s1l : Int) + (v3l : Int))) ∧ (wrap .i64 ((s1l : Int) + (v3l : Int))) ≤ (s1c : Int) ∧ 0 ≤ (wrap .i64 (i2 + (v3l : Int))) ∧ (wrap .i64 (i2 + (v3l : Int))) ≤ ((((toNat (wrap .i64 ((s1l : Int) + (v3l : Int)))) - 0) : Nat) : Int) ∧ Tryz.C 127 #[.slice v3p v3l v3c, .slice (if (s1c - 0) = (toNat (wrap .i64 (i2 + (v3l : Int)))) then (if s1c = 0 then s1p else Option.map (fun x => Addr.add x (0 * 19)) s1p) else Option.map (fun x => Addr.add x ((toNat (wrap .i64 (i2 + (v3l : Int)))) * 19)) (if s1c = 0 then s1p else Option.map (fun x => Addr.add x (0 * 19)) s1p)) (((toNat (wrap .i64 ((s1l : Int) + (v3l : Int)))) - 0) - (toNat (wrap .i64 (i2 + (v3l : Int))))) ((s1c - 0) - (toNat (wrap .i64 (i2 + (v3l : Int)))))] H fun r12 H13 => ∃ r14, r12 = .bool r14 ∧ br (!r14)
 (0 ≤ (wrap .i64 (i2 + (v3l : Int))) ∧ (wrap .i64 (i2 + (v3l : Int))) ≤ ((((toNat (wrap .i64 ((s1l : Int) + (v3l : Int)))) - 0) : Nat) : Int) ∧ 0 ≤ i2 ∧ i2 ≤ ((((toNat (wrap .i64 ((s1l : Int) + (v3l : Int)))) - 0) : Nat) : Int) ∧ ∃ xs15, rowOf H13 (if (s1c - 0) = (toNat i2) then (if s1c = 0 then s1p else Option.map (fun x => Addr.add x (0 * 19)) s1p) else Option.map (fun x => Addr.add x ((toNat i2) * 19)) (if s1c = 0 then s1p else Option.map (fun x => Addr.add x (0 * 19)) s1p)) (min (((toNat (wrap .i64 ((s1l : Int) + (v3l : Int)))) - 0) - (toNat i2)) (((toNat (wrap .i64 ((s1l : Int) + (v3l : Int)))) - 0) - (toNat (wrap .i64 (i2 + (v3l : Int))))) * 19) xs15 ∧ copQ H13 (if (s1c - 0) = (toNat (wrap .i64 (i2 + (v3l : Int)))) then (if s1c = 0 then s1p else Option.map (fun x => Addr.add x (0 * 19)) s1p) else Option.map (fun x => Addr.add x ((toNat (wrap .i64 (i2 + (v3l : Int)))) * 19)) (if s1c = 0 then s1p else Option.map (fun x => Addr.add x (0 * 19)) s1p)) xs15 fun H16 => 0 ≤ i2 ∧ i2 ≤ ((((toNat (wrap .i64 ((s1l : Int) + (v3l : Int)))) - 0) : Nat) : Int) ∧ ∃ xs17, rowOf H16 v3p (min v3l (((toNat (wrap .i64 ((s1l : Int) + (v3l : Int)))) - 0) - (toNat i2)) * 19) xs17 ∧ copQ H16 (if (s1c - 0) = (toNat i2) then (if s1c = 0 then s1p else Option.map (fun x => Addr.add x (0 * 19)) s1p) else Option.map (fun x => Addr.add x ((toNat i2) * 19)) (if s1c = 0 then s1p else Option.map (fun x => Addr.add x (0 * 19)) s1p)) xs17 fun H18 => R (.slice (if s1c = 0 then s1p else Option.map (fun x => Addr.add x (0 * 19)) s1p) ((toNat (wrap .i64 ((s1l : Int) + (v3l : Int)))) - 0) (s1c - 0)) H18)
 (0 ≤ (s1l : Int) ∧ (s1l : Int) ≤ ((((toNat (wrap .i64 ((s1l : Int) + (v3l : Int)))) - 0) : Nat) : Int) ∧ ∃ xs19, rowOf H13 v3p (min v3l (((toNat (wrap .i64 ((s1l : Int) + (v3l : Int)))) - 0) - (toNat (s1l : Int))) * 19) xs19 ∧ copQ H13 (if (s1c - 0) = (toNat (s1l : Int)) then (if s1c = 0 then s1p else Option.map (fun x => Addr.add x (0 * 19)) s1p) else Option.map (fun x => Addr.add x ((toNat (s1l : Int)) * 19)) (if s1c = 0 then s1p else Option.map (fun x => Addr.add x (0 * 19)) s1p)) xs19 fun H20 => 0 ≤ i2 ∧ i2 ≤ ((((toNat (wrap .i64 ((s1l : Int) + (v3l : Int)))) - 0) : Nat) : Int) ∧ Tryz.C 128 #[.slice (if (s1c - 0) = (toNat i2) then (if s1c = 0 then s1p else Option.map (fun x => Addr.add x (0 * 19)) s1p) else Option.map (fun x => Addr.add x ((toNat i2) * 19)) (if s1c = 0 then s1p else Option.map (fun x => Addr.add x (0 * 19)) s1p)) (((toNat (wrap .i64 ((s1l : Int) + (v3l : Int)))) - 0) - (toNat i2)) ((s1c - 0) - (toNat i2)), .int .i64 (v3l : Int)] H20 fun r21 H22 => r21 = .tuple #[] ∧ R (.slice (if s1c = 0 then s1p else Option.map (fun x => Addr.add x (0 * 19)) s1p) ((toNat (wrap .i64 ((s1l : Int) + (v3l : Int)))) - 0) (s1c - 0)) H22))))
def Tryz.p107 : Plan := (tl (tl (tl (tg (tl (tg (two (tl (two (tl (tl (tl (tl leaf)))) leaf)) (tl (two (tl (two (tl (tl (tl leaf))) leaf)) (tl (tl (tl leaf))))))))))))
theorem Tryz.s107 {s1p : OA} {s1l s1c : Nat} {i2 : Int} {v3p : OA} {v3l v3c : Nat} {H R} (h : Tryz.S107 s1p s1l s1c i2 v3p v3l v3c H R) : Tryz.C 107 #[.slice s1p s1l s1c, .int .i64 i2, .slice v3p v3l v3c] H R := vcs Tryz.tab_ok Tryz.mixed Tryz.func107 Tryz.cal107 Tryz.p107 h (by kernel_rfl)
def Tryz.S108 (s1p : OA) (s1l s1c f2g : Nat) (f2x f2y : AV) (H : Heap) (R : Kv) : Prop :=
 ∀ X3 : Kl, (∀ (i4 : Int) H5, (br (decide (i4 < (s1l : Int)))
 (∃ a6, s1p = some a6 ∧ 0 ≤ i4 ∧ i4 < (s1l : Int) ∧ ∃ v7, cell H5 (.add a6 (toNat i4 * 1)) = some (.int .i64 v7) ∧ Tryz.C f2g (List.toArray (Array.toList f2x ++ [Value.int .i64 v7] ++ Array.toList f2y)) H5 fun r8 H9 => ∃ r10, r8 = .bool r10 ∧ br r10
 (R (.int .i64 i4) H9)
 (X3 [.int .i64 (wrap .i64 (i4 + 1))] H9))
 (R (.int .i64 (-1 : Int)) H5)) → X3 [.int .i64 i4] H5) → X3 [.int .i64 0] H
def Tryz.p108 : Plan := (tl (two (tl (one (loop [(8, 3)] [0, 1, 7] (tl (two (tl leaf) (two (one (tl g0)) leaf)))))) (tl leaf)))
theorem Tryz.s108 {s1p : OA} {s1l s1c f2g : Nat} {f2x f2y : AV} {H R} (h : Tryz.S108 s1p s1l s1c f2g f2x f2y H R) : Tryz.C 108 #[.slice s1p s1l s1c, .func (.func f2g) f2x f2y] H R := vcs Tryz.tab_ok Tryz.mixed Tryz.func108 Tryz.cal108 Tryz.p108 h (by kernel_rfl)
def Tryz.S109 (sh1p : OA) (sh1l sh1c : Nat) (mo2p : OA) (mo2l mo2c : Nat) (H : Heap) (R : Kv) : Prop :=
 ∀ J3 : Kl, (∀ H4, (alc H4 (.cells #[.slice sh1p sh1l sh1c, .slice mo2p mo2l mo2c] 48) fun b5 H6 => ∀ X7 : Kl, (∀ (t8 : Int) H9, (br (decide (t8 < ((2 : Nat) : Int)))
 (∃ a10, (some ⟨b5, 0, none⟩) = some a10 ∧ 0 ≤ t8 ∧ t8 < ((2 : Nat) : Int) ∧ ∃ l11p l11l l11c, cell H9 (.add a10 (toNat t8 * 1)) = some (.slice l11p l11l l11c) ∧ ∀ X12 : Kl, (∀ (t13 : Int) H14, (br (decide (t13 < (l11l : Int)))
 (∃ a15, l11p = some a15 ∧ 0 ≤ t13 ∧ t13 < (l11l : Int) ∧ ∃ v16, v16.size = 2 ∧ rowIn H14 (.add a15 (toNat t13 * 2)) v16 ∧ alc H14 (.cells #[.int .i64 0, .int .i64 0] 105) fun b17 H18 => v16.size = 2 ∧ stAt H18 ⟨b17, 0, none⟩ v16.toList fun H19 => ∃ v20, v20.size = 2 ∧ rowIn H19 ⟨b17, 0, none⟩ v20 ∧ Tryz.C 129 #[.agg v20] H19 fun r21 H22 => ∃ r23, r21 = .bool r23 ∧ br (!r23)
 (R (.int .i64 31) H22)
 (X12 [.int .i64 (wrap .i64 (t13 + 1))] H22))
 (X7 [.int .i64 (wrap .i64 (t8 + 1))] H14)) → X12 [.int .i64 t13] H14) → X12 [.int .i64 0] H9)
 (R (.int .i64 0) H9)) → X7 [.int .i64 t8] H9) → X7 [.int .i64 0] H6) → J3 [] H4) →
 br (decide (((sh1l : Int) : Int) < 3)) (R (.int .i64 31) H) (br (decide (((sh1l : Int) : Int) > 256))
 (R (.int .i64 31) H)
 (J3 [] H))
def Tryz.p109 : Plan := (tl (two (join [] [0, 1] g0) (two (tl (one (loop [(21, 3)] [19, 20] (tl (two (tl leaf) (two (one (tl (tl (one (loop [(27, 3)] [19, 20, 21, 25, 26] (tl (two (tl leaf) (two (one (tl g0)) leaf)))))))) leaf)))))) (tl leaf))))
theorem Tryz.s109 {sh1p : OA} {sh1l sh1c : Nat} {mo2p : OA} {mo2l mo2c : Nat} {H R} (h : Tryz.S109 sh1p sh1l sh1c mo2p mo2l mo2c H R) : Tryz.C 109 #[.slice sh1p sh1l sh1c, .slice mo2p mo2l mo2c] H R := vcs Tryz.tab_ok Tryz.mixed Tryz.func109 Tryz.cal109 Tryz.p109 h (by kernel_rfl)
def Tryz.S110 (sh1p : OA) (sh1l sh1c : Nat) (x2 y3 : Int) (H : Heap) (R : Kv) : Prop :=
 (FloatKind.f64 = FloatKind.f64 ∧ ∃ a4, sh1p = some a4 ∧ 0 ≤ (wrap .i64 ((sh1l : Int) - 1)) ∧ (wrap .i64 ((sh1l : Int) - 1)) < (sh1l : Int) ∧ ∃ v5, v5.size = 2 ∧ rowIn H (.add a4 (toNat (wrap .i64 ((sh1l : Int) - 1)) * 2)) v5 ∧ alc H (.cells #[.int .i64 0, .int .i64 0] 105) fun b6 H7 => v5.size = 2 ∧ stAt H7 ⟨b6, 0, none⟩ v5.toList fun H8 => ∀ X9 : Kl, (∀ (od10 : Bool) (t11 : Int) H12, (br (decide (t11 < (sh1l : Int)))
 (∃ a13, sh1p = some a13 ∧ 0 ≤ t11 ∧ t11 < (sh1l : Int) ∧ ∃ v14, v14.size = 2 ∧ rowIn H12 (.add a13 (toNat t11 * 2)) v14 ∧ alc H12 (.cells #[.int .i64 0, .int .i64 0] 105) fun b15 H16 => v14.size = 2 ∧ stAt H16 ⟨b15, 0, none⟩ v14.toList fun H17 => ∃ v18, v18.size = 2 ∧ rowIn H17 ⟨b6, 0, none⟩ v18 ∧ ∃ v19, v19.size = 2 ∧ rowIn H17 ⟨b15, 0, none⟩ v19 ∧ Tryz.C 130 #[.agg v18] H17 fun r20 H21 => ∃ r22r r22i, r20 = .complex .f64 r22r r22i ∧ (Ext H17 H21 ∨ (∃ v47, v47.size = 2 ∧ rowIn H21 ⟨b15, 0, none⟩ v47 ∧ Value.agg v47 = .agg v19)) ∧ (FloatKind.f64 = FloatKind.f64 ∧ FloatKind.f64 = FloatKind.f64 ∧ ∃ a23 im24 : Nat, cMulBits (4611686018427387904 : Nat) (0 : Nat) r22r r22i = some (a23, im24) ∧ Tryz.C 130 #[.agg v19] H21 fun r25 H26 => ∃ r27r r27i, r25 = .complex .f64 r27r r27i ∧ (FloatKind.f64 = FloatKind.f64 ∧ FloatKind.f64 = FloatKind.f64 ∧ ∃ b28 im29 : Nat, cMulBits (4611686018427387904 : Nat) (0 : Nat) r27r r27i = some (b28, im29) ∧ (FloatKind.f64 = FloatKind.f64 ∧ (FloatKind.f64 = FloatKind.f64 ∧ br (!((Ieee.Format.order (FloatKind.format .f64) im24 (floatOfInt .f64 (wrap .i64 ((wrap .i64 ((2 : Int) * y3)) + 1))) == some Ordering.gt) == (Ieee.Format.order (FloatKind.format .f64) im29 (floatOfInt .f64 (wrap .i64 ((wrap .i64 ((2 : Int) * y3)) + 1))) == some Ordering.gt)))
 (∀ J30 : Kl, (∀ (a31r a31i b32r b32i : Nat) H33, ((FloatKind.f64 = FloatKind.f64 ∧ ∃ re34 im35 : Nat, cSumBits .sub .f64 a31r a31i b32r b32i = some (re34, im35) ∧ (FloatKind.f64 = FloatKind.f64 ∧ ∃ re36 im37 : Nat, cSumBits .sub .f64 (floatOfInt .f64 (wrap .i64 ((wrap .i64 ((2 : Int) * x2)) + 1))) (floatOfInt .f64 (wrap .i64 ((wrap .i64 ((2 : Int) * y3)) + 1))) b32r b32i = some (re36, im37) ∧ Tryz.C 131 #[.complex .f64 re34 im35, .complex .f64 re36 im37] H33 fun r38 H39 => ∃ r40, r38 = .float .f64 r40 ∧ (FloatKind.f64 = FloatKind.f64 ∧ br (Ieee.Format.order (FloatKind.format .f64) r40 (0 : Nat) == some Ordering.gt)
 (∃ v41, v41.size = 2 ∧ rowIn H39 ⟨b15, 0, none⟩ v41 ∧ v41.size = 2 ∧ stAt H39 ⟨b6, 0, none⟩ v41.toList fun H42 => X9 [.bool (!od10), .int .i64 (wrap .i64 (t11 + 1))] H42)
 (∃ v43, v43.size = 2 ∧ rowIn H39 ⟨b15, 0, none⟩ v43 ∧ v43.size = 2 ∧ stAt H39 ⟨b6, 0, none⟩ v43.toList fun H44 => X9 [.bool od10, .int .i64 (wrap .i64 (t11 + 1))] H44))))) → J30 [.complex .f64 a31r a31i, .complex .f64 b32r b32i] H33) →
 br (Ieee.Format.order (FloatKind.format .f64) im29 (floatOfInt .f64 (wrap .i64 ((wrap .i64 ((2 : Int) * y3)) + 1))) == some Ordering.gt)
 (J30 [.complex .f64 b28 im29, .complex .f64 a23 im24] H26)
 (J30 [.complex .f64 a23 im24, .complex .f64 b28 im29] H26))
 (∃ v45, v45.size = 2 ∧ rowIn H26 ⟨b15, 0, none⟩ v45 ∧ v45.size = 2 ∧ stAt H26 ⟨b6, 0, none⟩ v45.toList fun H46 => X9 [.bool od10, .int .i64 (wrap .i64 (t11 + 1))] H46))))))
 (R (.bool od10) H12)) → X9 [.bool od10, .int .i64 t11] H12) → X9 [.bool false, .int .i64 0] H8)
def Tryz.p110 : Plan := (tl (tl (tl (tl (two (tl (one (loop [(8, 4), (33, 3)] [7, 9, 31, 32] (tl (two (tl leaf) (two (one (tl (tl (two (tl (tl (two (two (join [(12, 152), (13, 152)] [7, 8, 9, 11, 31, 32, 33] (tl (tl leaf))) (tl (tl leaf))) leaf))) leaf)))) leaf)))))) (tl leaf))))))
theorem Tryz.s110 {sh1p : OA} {sh1l sh1c : Nat} {x2 y3 : Int} {H R} (h : Tryz.S110 sh1p sh1l sh1c x2 y3 H R) : Tryz.C 110 #[.slice sh1p sh1l sh1c, .int .i64 x2, .int .i64 y3] H R := vcs Tryz.tab_ok Tryz.mixed Tryz.func110 Tryz.cal110 Tryz.p110 h (by kernel_rfl)
def Tryz.S111 (m1 : AV) (H : Heap) (R : Kv) : Prop :=
 alc H (.cells m1 50) fun b2 H3 => ∃ v4, v4.size = 6 ∧ rowIn H3 ⟨b2, 0, none⟩ v4 ∧ ∀ X5 : Kl, (∀ (i6 : Int) H7, (br (decide (i6 < 6))
 (0 ≤ i6 ∧ i6 < ((6 : Nat) : Int) ∧ ∃ v8, v4[(toNat i6 * 1)]? = some (.int .i64 v8) ∧ ∀ J9 : Kl, (∀ (mo10 : Int) H11, (br (decide (v8 < (wrap .i64 (0 - mo10)))) (R (.bool false) H11) (br (decide (v8 > mo10))
 (R (.bool false) H11)
 (X5 [.int .i64 (wrap .i64 (i6 + 1))] H11))) → J9 [.int .i64 mo10] H11) →
 br (decide (i6 ≥ 4))
 (J9 [.int .i64 68719476736] H7)
 (J9 [.int .i64 16777216] H7))
 (R (.bool true) H7)) → X5 [.int .i64 i6] H7) → X5 [.int .i64 0] H3
def Tryz.p111 : Plan := (tl (two (tl (one (loop [(7, 3)] [6] (tl (two (tl leaf) (two (one (tl (tl (two (join [(5, 3)] [4, 6, 7] (tl (tl leaf))) g0)))) leaf)))))) (tl leaf)))
theorem Tryz.s111 {m1 : AV} {H R} (h : Tryz.S111 m1 H R) : Tryz.C 111 #[.agg m1] H R := vcs Tryz.tab_ok Tryz.mixed Tryz.func111 Tryz.cal111 Tryz.p111 h (by kernel_rfl)
def Tryz.S112 (n1 m2 : Int) (H : Heap) (R : Kv) : Prop :=
 ∀ J3 : Kl, (∀ (n4 m5 : Int) H6, (Tryz.C 132 #[.int .i64 (wrap .i64 ((wrap .i64 ((2 : Int) * n4)) + m5)), .int .i64 (wrap .i64 ((2 : Int) * m5))] H6 fun r7 H8 => ∃ r9, r7 = .int .i64 r9 ∧ R (.int .i64 r9) H8) → J3 [.int .i64 n4, .int .i64 m5] H6) →
 br (decide (m2 < 0))
 (J3 [.int .i64 (wrap .i64 (0 - n1)), .int .i64 (wrap .i64 (0 - m2))] H)
 (J3 [.int .i64 n1, .int .i64 m2] H)
def Tryz.p112 : Plan := (tl (two (join [(0, 3), (1, 3)] [] (tl (tl leaf))) (tl leaf)))
theorem Tryz.s112 {n1 m2 : Int} {H R} (h : Tryz.S112 n1 m2 H R) : Tryz.C 112 #[.int .i64 n1, .int .i64 m2] H R := vcs Tryz.tab_ok Tryz.mixed Tryz.func112 Tryz.cal112 Tryz.p112 h (by kernel_rfl)
def Tryz.S113 (n1 : Int) (H : Heap) (R : Kv) : Prop :=
 0 ≤ (16 : Int) ∧ R (.int .i64 (shrI .i64 (wrap .i64 (n1 + 32768)) 16)) H
def Tryz.p113 : Plan := (tl (tl leaf))
theorem Tryz.s113 {n1 : Int} {H R} (h : Tryz.S113 n1 H R) : Tryz.C 113 #[.int .i64 n1] H R := vcs Tryz.tab_ok Tryz.mixed Tryz.func113 Tryz.cal113 Tryz.p113 h (by kernel_rfl)
def Tryz.S114 (ki1 : Int) (pa2p : OA) (pa2l pa2c : Nat) (H : Heap) (R : Kv) : Prop :=
 ∀ X3 : Kl, (∀ (i4 : Int) H5, (br (decide (i4 < (pa2l : Int)))
 (∀ J6 : Kl, (∀ H7, (X3 [.int .i64 (wrap .i64 (i4 + 1))] H7) → J6 [] H7) →
 ∃ a8, pa2p = some a8 ∧ 0 ≤ i4 ∧ i4 < (pa2l : Int) ∧ ∃ p9, cell H5 (.add a8 (toNat i4 * 1)) = some (.int .i64 p9) ∧ br (decide (p9 < 0)) (R (.bool false) H5) (br (decide (p9 > 255)) (R (.bool false) H5) (br (ki1 == 1) ((2 : Int) ≠ 0 ∧ br (((Int.tmod i4 2) : Int) == 0) (br (decide (i4 > 0)) (∃ a10, pa2p = some a10 ∧ 0 ≤ (wrap .i64 (i4 - 2)) ∧ (wrap .i64 (i4 - 2)) < (pa2l : Int) ∧ ∃ v11, cell H5 (.add a10 (toNat (wrap .i64 (i4 - 2)) * 1)) = some (.int .i64 v11) ∧ br (decide (p9 ≤ v11))
 (R (.bool false) H5)
 (J6 [] H5)) (J6 [] H5)) (J6 [] H5)) (J6 [] H5))))
 (br (ki1 == 0)
 (br (((pa2l : Int) : Int) == 2) (∃ a12, pa2p = some a12 ∧ 0 ≤ (0 : Int) ∧ (0 : Int) < (pa2l : Int) ∧ ∃ v13, cell H5 (.add a12 (toNat (0 : Int) * 1)) = some (.int .i64 v13) ∧ ∃ a14, pa2p = some a14 ∧ 0 ≤ (1 : Int) ∧ (1 : Int) < (pa2l : Int) ∧ ∃ v15, cell H5 (.add a14 (toNat (1 : Int) * 1)) = some (.int .i64 v15) ∧ R (.bool (decide (v13 < v15))) H5) (R (.bool false) H5))
 (br (ki1 == 1)
 (br (decide (((pa2l : Int) : Int) ≥ 2)) (br (decide (((pa2l : Int) : Int) ≤ 32)) ((2 : Int) ≠ 0 ∧ R (.bool (((Int.tmod (pa2l : Int) 2) : Int) == 0)) H5) (R (.bool false) H5)) (R (.bool false) H5))
 (br (ki1 == 2)
 (R (.bool (((pa2l : Int) : Int) == 0)) H5)
 (br (ki1 == 3)
 (R (.bool (((pa2l : Int) : Int) == 1)) H5)
 (R (.bool false) H5)))))) → X3 [.int .i64 i4] H5) → X3 [.int .i64 0] H
def Tryz.p114 : Plan := (tl (tl (two (tl (one (loop [(12, 3)] [0, 1, 5, 10, 11] (tl (two (tl leaf) (two (join [] [0, 1, 5, 10, 11, 12] (one (tl g0))) leaf)))))) (two (tl (one (tl (two (tl leaf) (tl (two (tl leaf) (tl (two (tl leaf) g0)))))))) (tl leaf)))))
theorem Tryz.s114 {ki1 : Int} {pa2p : OA} {pa2l pa2c : Nat} {H R} (h : Tryz.S114 ki1 pa2p pa2l pa2c H R) : Tryz.C 114 #[.int .i64 ki1, .slice pa2p pa2l pa2c] H R := vcs Tryz.tab_ok Tryz.mixed Tryz.func114 Tryz.cal114 Tryz.p114 h (by kernel_rfl)
def Tryz.S115 (pa1p : OA) (pa1l pa1c : Nat) (H : Heap) (R : Kv) : Prop :=
 0 ≤ (256 : Int) ∧ (256 : Int) ≤ (256 : Int) ∧ ((8 : Nat) : Int) * (256 : Int) ≤ 281474976710656 ∧ (256 : Int) ≤ 281474976710656 ∧ alc H (.cells (List.toArray (reps (toNat 256) (Array.toList #[.int .i64 0]))) 3) fun b2 H3 => ∀ X4 : Kl, (∀ (v5 : Int) H6, (br (decide (v5 < (((toNat 256) : Nat) : Int)))
 (∃ a7, pa1p = some a7 ∧ 0 ≤ (0 : Int) ∧ (0 : Int) < (pa1l : Int) ∧ ∃ v8, cell H6 (.add a7 (toNat (0 : Int) * 1)) = some (.int .i64 v8) ∧ br (decide (v5 ≤ v8))
 (∃ a9, pa1p = some a9 ∧ 0 ≤ (1 : Int) ∧ (1 : Int) < (pa1l : Int) ∧ ∃ v10, cell H6 (.add a9 (toNat (1 : Int) * 1)) = some (.int .i64 v10) ∧ ∃ a11, (some ⟨b2, 0, none⟩) = some a11 ∧ 0 ≤ v5 ∧ v5 < (((toNat 256) : Nat) : Int) ∧ stAt H6 (.add a11 (toNat v5 * 1)) [.int .i64 v10] fun H12 => X4 [.int .i64 (wrap .i64 (v5 + 1))] H12)
 (∃ a13, pa1p = some a13 ∧ 0 ≤ (wrap .i64 ((pa1l : Int) - 2)) ∧ (wrap .i64 ((pa1l : Int) - 2)) < (pa1l : Int) ∧ ∃ v14, cell H6 (.add a13 (toNat (wrap .i64 ((pa1l : Int) - 2)) * 1)) = some (.int .i64 v14) ∧ br (decide (v5 ≥ v14))
 (∃ a15, pa1p = some a15 ∧ 0 ≤ (wrap .i64 ((pa1l : Int) - 1)) ∧ (wrap .i64 ((pa1l : Int) - 1)) < (pa1l : Int) ∧ ∃ v16, cell H6 (.add a15 (toNat (wrap .i64 ((pa1l : Int) - 1)) * 1)) = some (.int .i64 v16) ∧ ∃ a17, (some ⟨b2, 0, none⟩) = some a17 ∧ 0 ≤ v5 ∧ v5 < (((toNat 256) : Nat) : Int) ∧ stAt H6 (.add a17 (toNat v5 * 1)) [.int .i64 v16] fun H18 => X4 [.int .i64 (wrap .i64 (v5 + 1))] H18)
 (∀ X19 : Kl, (∀ (i20 : Int) H21, (∃ a22, pa1p = some a22 ∧ 0 ≤ (wrap .i64 (i20 + 2)) ∧ (wrap .i64 (i20 + 2)) < (pa1l : Int) ∧ ∃ v23, cell H21 (.add a22 (toNat (wrap .i64 (i20 + 2)) * 1)) = some (.int .i64 v23) ∧ br (decide (v23 ≤ v5))
 (X19 [.int .i64 (wrap .i64 (i20 + 2))] H21)
 (∃ a24, pa1p = some a24 ∧ 0 ≤ (wrap .i64 (i20 + 1)) ∧ (wrap .i64 (i20 + 1)) < (pa1l : Int) ∧ ∃ v25, cell H21 (.add a24 (toNat (wrap .i64 (i20 + 1)) * 1)) = some (.int .i64 v25) ∧ ∃ a26, pa1p = some a26 ∧ 0 ≤ (wrap .i64 (i20 + 3)) ∧ (wrap .i64 (i20 + 3)) < (pa1l : Int) ∧ ∃ v27, cell H21 (.add a26 (toNat (wrap .i64 (i20 + 3)) * 1)) = some (.int .i64 v27) ∧ ∃ a28, pa1p = some a28 ∧ 0 ≤ (wrap .i64 (i20 + 1)) ∧ (wrap .i64 (i20 + 1)) < (pa1l : Int) ∧ ∃ v29, cell H21 (.add a28 (toNat (wrap .i64 (i20 + 1)) * 1)) = some (.int .i64 v29) ∧ ∃ a30, pa1p = some a30 ∧ 0 ≤ i20 ∧ i20 < (pa1l : Int) ∧ ∃ v31, cell H21 (.add a30 (toNat i20 * 1)) = some (.int .i64 v31) ∧ ∃ a32, pa1p = some a32 ∧ 0 ≤ (wrap .i64 (i20 + 2)) ∧ (wrap .i64 (i20 + 2)) < (pa1l : Int) ∧ ∃ v33, cell H21 (.add a32 (toNat (wrap .i64 (i20 + 2)) * 1)) = some (.int .i64 v33) ∧ ∃ a34, pa1p = some a34 ∧ 0 ≤ i20 ∧ i20 < (pa1l : Int) ∧ ∃ v35, cell H21 (.add a34 (toNat i20 * 1)) = some (.int .i64 v35) ∧ (wrap .i64 (v33 - v35)) ≠ 0 ∧ ∃ a36, (some ⟨b2, 0, none⟩) = some a36 ∧ 0 ≤ v5 ∧ v5 < (((toNat 256) : Nat) : Int) ∧ stAt H21 (.add a36 (toNat v5 * 1)) [.int .i64 (wrap .i64 (v25 + (wrap .i64 (Int.tdiv (wrap .i64 ((wrap .i64 (v27 - v29)) * (wrap .i64 (v5 - v31)))) (wrap .i64 (v33 - v35))))))] fun H37 => X4 [.int .i64 (wrap .i64 (v5 + 1))] H37)) → X19 [.int .i64 i20] H21) → X19 [.int .i64 0] H6)))
 (R (.slice (some ⟨b2, 0, none⟩) (toNat 256) (toNat 256)) H6)) → X4 [.int .i64 v5] H6) → X4 [.int .i64 0] H3
def Tryz.p115 : Plan := (tl (tl (tl (two (tl (one (loop [(12, 3)] [0, 3, 4, 11] (tl (two (tl leaf) (two (one (tl (two (one (tl (two (tl leaf) g0))) (tl (two (one (loop [(6, 3)] [0, 3, 4, 5, 11, 12] (two (tl (tl leaf)) (one leaf)))) leaf))))) leaf)))))) (tl leaf)))))
theorem Tryz.s115 {pa1p : OA} {pa1l pa1c : Nat} {H R} (h : Tryz.S115 pa1p pa1l pa1c H R) : Tryz.C 115 #[.slice pa1p pa1l pa1c] H R := vcs Tryz.tab_ok Tryz.mixed Tryz.func115 Tryz.cal115 Tryz.p115 h (by kernel_rfl)
def Tryz.S116 (l1p : OA) (l1l l1c : Nat) (H : Heap) (R : Kv) : Prop :=
 ∀ X2 : Kl, (∀ (i3 : Int) H4, (br (decide (i3 < (l1l : Int)))
 (∃ a5, l1p = some a5 ∧ 0 ≤ i3 ∧ i3 < (l1l : Int) ∧ ∃ v6, v6.size = 2 ∧ rowIn H4 (.add a5 (toNat i3 * 2)) v6 ∧ Tryz.C 133 #[.agg v6] H4 fun r7 H8 => ∃ r9, r7 = .bool r9 ∧ br (!r9)
 (R (.bool false) H8)
 (X2 [.int .i64 (wrap .i64 (i3 + 1))] H8))
 (br (decide (((l1l : Int) : Int) ≥ 3)) (R (.bool (decide (((l1l : Int) : Int) ≤ 256))) H4) (R (.bool false) H4))) → X2 [.int .i64 i3] H4) → X2 [.int .i64 0] H
def Tryz.p116 : Plan := (tl (two (tl (one (loop [(3, 3)] [0] (two (tl (tl leaf)) (two (one g0) leaf))))) (tl leaf)))
theorem Tryz.s116 {l1p : OA} {l1l l1c : Nat} {H R} (h : Tryz.S116 l1p l1l l1c H R) : Tryz.C 116 #[.slice l1p l1l l1c] H R := vcs Tryz.tab_ok Tryz.mixed Tryz.func116 Tryz.cal116 Tryz.p116 h (by kernel_rfl)
def Tryz.S117 (l1p : OA) (l1l l1c : Nat) (x2 y3 : Int) (H : Heap) (R : Kv) : Prop :=
 ∀ X4 : Kl, (∀ (od5 : Bool) (i6 : Int) H7, (br (decide (i6 < (l1l : Int)))
 (∀ J8 : Kl, (∀ (k9 : Int) H10, (∃ a11, l1p = some a11 ∧ 0 ≤ i6 ∧ i6 < (l1l : Int) ∧ ∃ v12, v12.size = 2 ∧ rowIn H10 (.add a11 (toNat i6 * 2)) v12 ∧ ∃ a13, l1p = some a13 ∧ 0 ≤ k9 ∧ k9 < (l1l : Int) ∧ ∃ v14, v14.size = 2 ∧ rowIn H10 (.add a13 (toNat k9 * 2)) v14 ∧ Tryz.C 134 #[.agg v12, .agg v14, .int .i64 x2, .int .i64 y3] H10 fun r15 H16 => ∃ r17, r15 = .bool r17 ∧ br r17
 (X4 [.bool (!od5), .int .i64 (wrap .i64 (i6 + 1))] H16)
 (X4 [.bool od5, .int .i64 (wrap .i64 (i6 + 1))] H16)) → J8 [.int .i64 k9] H10) →
 br (((wrap .i64 (i6 + 1)) : Int) == (l1l : Int))
 (J8 [.int .i64 0] H7)
 (J8 [.int .i64 (wrap .i64 (i6 + 1))] H7))
 (R (.bool od5) H7)) → X4 [.bool od5, .int .i64 i6] H7) → X4 [.bool false, .int .i64 0] H
def Tryz.p117 : Plan := (tl (tl (two (tl (one (loop [(7, 4), (8, 3)] [0, 1, 2] (two (tl (tl leaf)) (two (one (tl (two (join [(9, 3)] [0, 1, 2, 7, 8] (tl (tl leaf))) (tl (tl leaf))))) leaf))))) (tl leaf))))
theorem Tryz.s117 {l1p : OA} {l1l l1c : Nat} {x2 y3 : Int} {H R} (h : Tryz.S117 l1p l1l l1c x2 y3 H R) : Tryz.C 117 #[.slice l1p l1l l1c, .int .i64 x2, .int .i64 y3] H R := vcs Tryz.tab_ok Tryz.mixed Tryz.func117 Tryz.cal117 Tryz.p117 h (by kernel_rfl)
def Tryz.S118 (m1 : AV) (H : Heap) (R : Kv) : Prop :=
 alc H (.cells m1 71) fun b2 H3 => ∀ X4 : Kl, (∀ (i5 : Int) H6, (br (decide (i5 < 4))
 (0 ≤ i5 ∧ i5 < ((6 : Nat) : Int) ∧ ∃ v7, cell H6 (.add ⟨b2, 0, none⟩ (toNat i5 * 1)) = some (.int .i64 v7) ∧ br (decide (v7 < (-16777216 : Int))) (R (.bool false) H6) (0 ≤ i5 ∧ i5 < ((6 : Nat) : Int) ∧ ∃ v8, cell H6 (.add ⟨b2, 0, none⟩ (toNat i5 * 1)) = some (.int .i64 v8) ∧ br (decide (v8 > 16777216))
 (R (.bool false) H6)
 (X4 [.int .i64 (wrap .i64 (i5 + 1))] H6)))
 (∀ X9 : Kl, (∀ (i10 : Int) H11, (br (decide (i10 < 6))
 (0 ≤ i10 ∧ i10 < ((6 : Nat) : Int) ∧ ∃ v12, cell H11 (.add ⟨b2, 0, none⟩ (toNat i10 * 1)) = some (.int .i64 v12) ∧ br (decide (v12 < (-68719476736 : Int))) (R (.bool false) H11) (0 ≤ i10 ∧ i10 < ((6 : Nat) : Int) ∧ ∃ v13, cell H11 (.add ⟨b2, 0, none⟩ (toNat i10 * 1)) = some (.int .i64 v13) ∧ br (decide (v13 > 68719476736))
 (R (.bool false) H11)
 (X9 [.int .i64 (wrap .i64 (i10 + 1))] H11)))
 (R (.bool true) H11)) → X9 [.int .i64 i10] H11) → X9 [.int .i64 4] H6)) → X4 [.int .i64 i5] H6) → X4 [.int .i64 0] H3
def Tryz.p118 : Plan := (tl (two (tl (one (loop [(3, 3)] [1] (two (tl (tl leaf)) (two (one g0) leaf))))) (two (tl (one (loop [(4, 3)] [1] (two (tl (tl leaf)) (two (one g0) leaf))))) (tl leaf))))
theorem Tryz.s118 {m1 : AV} {H R} (h : Tryz.S118 m1 H R) : Tryz.C 118 #[.agg m1] H R := vcs Tryz.tab_ok Tryz.mixed Tryz.func118 Tryz.cal118 Tryz.p118 h (by kernel_rfl)
def Tryz.S119 (n1 m2 : Int) (H : Heap) (R : Kv) : Prop :=
 br (decide (m2 < 0))
 (Tryz.C 94 #[.int .i64 (wrap .i64 ((wrap .i64 ((-2 : Int) * n1)) - m2)), .int .i64 (wrap .i64 ((-2 : Int) * m2))] H fun r3 H4 => ∃ r5, r3 = .int .i64 r5 ∧ R (.int .i64 r5) H4)
 (Tryz.C 94 #[.int .i64 (wrap .i64 ((wrap .i64 ((2 : Int) * n1)) + m2)), .int .i64 (wrap .i64 ((2 : Int) * m2))] H fun r6 H7 => ∃ r8, r6 = .int .i64 r8 ∧ R (.int .i64 r8) H7)
def Tryz.p119 : Plan := (tl (tg (tl leaf)))
theorem Tryz.s119 {n1 m2 : Int} {H R} (h : Tryz.S119 n1 m2 H R) : Tryz.C 119 #[.int .i64 n1, .int .i64 m2] H R := vcs Tryz.tab_ok Tryz.mixed Tryz.func119 Tryz.cal119 Tryz.p119 h (by kernel_rfl)
def Tryz.S120 (n1 : Int) (H : Heap) (R : Kv) : Prop :=
 Tryz.C 94 #[.int .i64 (wrap .i64 (n1 + 32768)), .int .i64 65536] H fun r2 H3 => ∃ r4, r2 = .int .i64 r4 ∧ R (.int .i64 r4) H3
def Tryz.p120 : Plan := (tl (tl leaf))
theorem Tryz.s120 {n1 : Int} {H R} (h : Tryz.S120 n1 H R) : Tryz.C 120 #[.int .i64 n1] H R := vcs Tryz.tab_ok Tryz.mixed Tryz.func120 Tryz.cal120 Tryz.p120 h (by kernel_rfl)
def Tryz.S121 (p1p : OA) (p1l p1c : Nat) (v2 : Int) (H : Heap) (R : Kv) : Prop :=
 ∃ a3, p1p = some a3 ∧ 0 ≤ (0 : Int) ∧ (0 : Int) < (p1l : Int) ∧ ∃ v4, cell H (.add a3 (toNat (0 : Int) * 1)) = some (.int .i64 v4) ∧ br (decide (v2 ≤ v4))
 (∃ a5, p1p = some a5 ∧ 0 ≤ (1 : Int) ∧ (1 : Int) < (p1l : Int) ∧ ∃ v6, cell H (.add a5 (toNat (1 : Int) * 1)) = some (.int .i64 v6) ∧ R (.int .i64 v6) H)
 (∀ X7 : Kl, (∀ (i8 : Int) H9, (br (decide (i8 < (p1l : Int)))
 (∃ a10, p1p = some a10 ∧ 0 ≤ i8 ∧ i8 < (p1l : Int) ∧ ∃ v11, cell H9 (.add a10 (toNat i8 * 1)) = some (.int .i64 v11) ∧ br (decide (v2 < v11))
 (∃ a12, p1p = some a12 ∧ 0 ≤ (wrap .i64 (i8 - 1)) ∧ (wrap .i64 (i8 - 1)) < (p1l : Int) ∧ ∃ v13, cell H9 (.add a12 (toNat (wrap .i64 (i8 - 1)) * 1)) = some (.int .i64 v13) ∧ ∃ a14, p1p = some a14 ∧ 0 ≤ (wrap .i64 (i8 + 1)) ∧ (wrap .i64 (i8 + 1)) < (p1l : Int) ∧ ∃ v15, cell H9 (.add a14 (toNat (wrap .i64 (i8 + 1)) * 1)) = some (.int .i64 v15) ∧ ∃ a16, p1p = some a16 ∧ 0 ≤ (wrap .i64 (i8 - 1)) ∧ (wrap .i64 (i8 - 1)) < (p1l : Int) ∧ ∃ v17, cell H9 (.add a16 (toNat (wrap .i64 (i8 - 1)) * 1)) = some (.int .i64 v17) ∧ ∃ a18, p1p = some a18 ∧ 0 ≤ (wrap .i64 (i8 - 2)) ∧ (wrap .i64 (i8 - 2)) < (p1l : Int) ∧ ∃ v19, cell H9 (.add a18 (toNat (wrap .i64 (i8 - 2)) * 1)) = some (.int .i64 v19) ∧ ∃ a20, p1p = some a20 ∧ 0 ≤ i8 ∧ i8 < (p1l : Int) ∧ ∃ v21, cell H9 (.add a20 (toNat i8 * 1)) = some (.int .i64 v21) ∧ ∃ a22, p1p = some a22 ∧ 0 ≤ (wrap .i64 (i8 - 2)) ∧ (wrap .i64 (i8 - 2)) < (p1l : Int) ∧ ∃ v23, cell H9 (.add a22 (toNat (wrap .i64 (i8 - 2)) * 1)) = some (.int .i64 v23) ∧ (wrap .i64 (v21 - v23)) ≠ 0 ∧ R (.int .i64 (wrap .i64 (v13 + (wrap .i64 (Int.tdiv (wrap .i64 ((wrap .i64 (v15 - v17)) * (wrap .i64 (v2 - v19)))) (wrap .i64 (v21 - v23))))))) H9)
 (X7 [.int .i64 (wrap .i64 (i8 + 2))] H9))
 (∃ a24, p1p = some a24 ∧ 0 ≤ (wrap .i64 ((p1l : Int) - 1)) ∧ (wrap .i64 ((p1l : Int) - 1)) < (p1l : Int) ∧ ∃ v25, cell H9 (.add a24 (toNat (wrap .i64 ((p1l : Int) - 1)) * 1)) = some (.int .i64 v25) ∧ R (.int .i64 v25) H9)) → X7 [.int .i64 i8] H9) → X7 [.int .i64 2] H)
def Tryz.p121 : Plan := (tl (tg (two (tl (one (loop [(5, 3)] [0, 1] (two (tl (tl leaf)) (two (one g0) leaf))))) (tl leaf))))
theorem Tryz.s121 {p1p : OA} {p1l p1c : Nat} {v2 : Int} {H R} (h : Tryz.S121 p1p p1l p1c v2 H R) : Tryz.C 121 #[.slice p1p p1l p1c, .int .i64 v2] H R := vcs Tryz.tab_ok Tryz.mixed Tryz.func121 Tryz.cal121 Tryz.p121 h (by kernel_rfl)
end Go.Proofs
namespace Go.Proofs
open Go.Sh Go.Sh.Plan
open Go.IntKind (wrap)
open Int (toNat)
def Tryz.S123 (p1 : AV) (u2 v3 : Int) (H : Heap) (R : Kv) : Prop :=
 alc H (.cells p1 34) fun b4 H5 => 0 ≤ (16 : Int) ∧ 0 ≤ (16 : Int) ∧ 0 ≤ (8 : Int) ∧ 0 ≤ (8 : Int) ∧ ∀ J6 : Kl, (∀ (fo7 : Addr) H8, (alc H8 (.cells #[.int .i64 0, .int .i64 0, .int .i64 0, .int .i64 0] 94) fun b9 H10 => #[Value.int .i64 (wrap .i64 ((wrap .i64 ((256 : Int) - (andI .i64 (shrI .i64 (wrap .i64 (u2 - 32768)) 8) 255))) * (wrap .i64 ((256 : Int) - (andI .i64 (shrI .i64 (wrap .i64 (v3 - 32768)) 8) 255))))), Value.int .i64 (wrap .i64 ((andI .i64 (shrI .i64 (wrap .i64 (u2 - 32768)) 8) 255) * (wrap .i64 ((256 : Int) - (andI .i64 (shrI .i64 (wrap .i64 (v3 - 32768)) 8) 255))))), Value.int .i64 (wrap .i64 ((wrap .i64 ((256 : Int) - (andI .i64 (shrI .i64 (wrap .i64 (u2 - 32768)) 8) 255))) * (andI .i64 (shrI .i64 (wrap .i64 (v3 - 32768)) 8) 255))), Value.int .i64 (wrap .i64 ((andI .i64 (shrI .i64 (wrap .i64 (u2 - 32768)) 8) 255) * (andI .i64 (shrI .i64 (wrap .i64 (v3 - 32768)) 8) 255)))].size = 4 ∧ stAt H10 ⟨b9, 0, none⟩ (Array.toList #[.int .i64 (wrap .i64 ((wrap .i64 ((256 : Int) - (andI .i64 (shrI .i64 (wrap .i64 (u2 - 32768)) 8) 255))) * (wrap .i64 ((256 : Int) - (andI .i64 (shrI .i64 (wrap .i64 (v3 - 32768)) 8) 255))))), .int .i64 (wrap .i64 ((andI .i64 (shrI .i64 (wrap .i64 (u2 - 32768)) 8) 255) * (wrap .i64 ((256 : Int) - (andI .i64 (shrI .i64 (wrap .i64 (v3 - 32768)) 8) 255))))), .int .i64 (wrap .i64 ((wrap .i64 ((256 : Int) - (andI .i64 (shrI .i64 (wrap .i64 (u2 - 32768)) 8) 255))) * (andI .i64 (shrI .i64 (wrap .i64 (v3 - 32768)) 8) 255))), .int .i64 (wrap .i64 ((andI .i64 (shrI .i64 (wrap .i64 (u2 - 32768)) 8) 255) * (andI .i64 (shrI .i64 (wrap .i64 (v3 - 32768)) 8) 255)))]) fun H11 => alc H11 (.cells #[.int .i64 0, .int .i64 0, .int .i64 0, .int .i64 0] 94) fun b12 H13 => ∀ X14 : Kl, (∀ (c15 : Int) H16, (br (decide (c15 < 4))
 (∃ v17, v17.size = 4 ∧ rowIn H16 ⟨b9, 0, none⟩ v17 ∧ ∀ X18 : Kl, (∀ (su19 k20 : Int) H21, (br (decide (k20 < 4))
 (0 ≤ k20 ∧ k20 < ((4 : Nat) : Int) ∧ ∃ w22, v17[(toNat k20 * 1)]? = some (.int .i64 w22) ∧ 0 ≤ k20 ∧ k20 < ((4 : Nat) : Int) ∧ 0 ≤ c15 ∧ c15 < ((4 : Nat) : Int) ∧ ∃ v23, cell H21 (.add (.add fo7 (toNat k20 * 4)) (toNat c15 * 1)) = some (.int .i64 v23) ∧ X18 [.int .i64 (wrap .i64 (su19 + (wrap .i64 (v23 * w22)))), .int .i64 (wrap .i64 (k20 + 1))] H21)
 (0 ≤ (16 : Int) ∧ 0 ≤ c15 ∧ c15 < ((4 : Nat) : Int) ∧ stAt H21 (.add ⟨b12, 0, none⟩ (toNat c15 * 1)) [.int .i64 (shrI .i64 su19 16)] fun H24 => X14 [.int .i64 (wrap .i64 (c15 + 1))] H24)) → X18 [.int .i64 su19, .int .i64 k20] H21) → X18 [.int .i64 32768, .int .i64 0] H16)
 (∃ v25, v25.size = 4 ∧ rowIn H16 ⟨b12, 0, none⟩ v25 ∧ Tryz.C 66 #[.agg v25] H16 fun r26 H27 => ∃ r28, r26 = .int .i64 r28 ∧ R (.int .i64 r28) H27)) → X14 [.int .i64 c15] H16) → X14 [.int .i64 0] H13) → J6 [.pointer (some fo7)] H8) →
 ∃ v29, v29.size = 3 ∧ rowIn H5 ⟨b4, 0, none⟩ v29 ∧ ∃ v30, v30.size = 3 ∧ rowIn H5 ⟨b4, 0, none⟩ v30 ∧ ∃ v31, v31.size = 3 ∧ rowIn H5 ⟨b4, 0, none⟩ v31 ∧ ∃ v32, v32.size = 3 ∧ rowIn H5 ⟨b4, 0, none⟩ v32 ∧ (Tryz.C 124 #[.agg v29, .int .i64 (shrI .i64 (wrap .i64 (u2 - 32768)) 16), .int .i64 (shrI .i64 (wrap .i64 (v3 - 32768)) 16)] H5 fun r33 H34 => ∃ r35, r33 = .int .i64 r35 ∧ (Ext H5 H34 ∨ (∃ v208, v208.size = 3 ∧ rowIn H34 ⟨b4, 0, none⟩ v208 ∧ Value.agg v208 = .agg v32) ∧ (∃ v209, v209.size = 3 ∧ rowIn H34 ⟨b4, 0, none⟩ v209 ∧ Value.agg v209 = .agg v31) ∧ (∃ v210, v210.size = 3 ∧ rowIn H34 ⟨b4, 0, none⟩ v210 ∧ Value.agg v210 = .agg v30)) ∧ (Tryz.C 45 #[.int .i64 r35] H34 fun r36 H37 => ∃ r38, r36 = .agg r38 ∧ (Ext H34 H37 ∨ (∃ v169, v169.size = 3 ∧ rowIn H37 ⟨b4, 0, none⟩ v169 ∧ Value.agg v169 = .agg v32) ∧ (∃ v170, v170.size = 3 ∧ rowIn H37 ⟨b4, 0, none⟩ v170 ∧ Value.agg v170 = .agg v31) ∧ (∃ v171, v171.size = 3 ∧ rowIn H37 ⟨b4, 0, none⟩ v171 ∧ Value.agg v171 = .agg v30)) ∧ (Tryz.C 124 #[.agg v30, .int .i64 (wrap .i64 ((shrI .i64 (wrap .i64 (u2 - 32768)) 16) + 1)), .int .i64 (shrI .i64 (wrap .i64 (v3 - 32768)) 16)] H37 fun r39 H40 => ∃ r41, r39 = .int .i64 r41 ∧ (Ext H37 H40 ∨ (∃ v137, v137.size = 3 ∧ rowIn H40 ⟨b4, 0, none⟩ v137 ∧ Value.agg v137 = .agg v32) ∧ (∃ v138, v138.size = 3 ∧ rowIn H40 ⟨b4, 0, none⟩ v138 ∧ Value.agg v138 = .agg v31)) ∧ (Tryz.C 45 #[.int .i64 r41] H40 fun r42 H43 => ∃ r44, r42 = .agg r44 ∧ (Ext H40 H43 ∨ (∃ v111, v111.size = 3 ∧ rowIn H43 ⟨b4, 0, none⟩ v111 ∧ Value.agg v111 = .agg v32) ∧ (∃ v112, v112.size = 3 ∧ rowIn H43 ⟨b4, 0, none⟩ v112 ∧ Value.agg v112 = .agg v31)) ∧ (Tryz.C 124 #[.agg v31, .int .i64 (shrI .i64 (wrap .i64 (u2 - 32768)) 16), .int .i64 (wrap .i64 ((shrI .i64 (wrap .i64 (v3 - 32768)) 16) + 1))] H43 fun r45 H46 => ∃ r47, r45 = .int .i64 r47 ∧ (Ext H43 H46 ∨ (∃ v91, v91.size = 3 ∧ rowIn H46 ⟨b4, 0, none⟩ v91 ∧ Value.agg v91 = .agg v32)) ∧ (Tryz.C 45 #[.int .i64 r47] H46 fun r48 H49 => ∃ r50, r48 = .agg r50 ∧ (Ext H46 H49 ∨ (∃ v76, v76.size = 3 ∧ rowIn H49 ⟨b4, 0, none⟩ v76 ∧ Value.agg v76 = .agg v32)) ∧ (Tryz.C 124 #[.agg v32, .int .i64 (wrap .i64 ((shrI .i64 (wrap .i64 (u2 - 32768)) 16) + 1)), .int .i64 (wrap .i64 ((shrI .i64 (wrap .i64 (v3 - 32768)) 16) + 1))] H49 fun r51 H52 => ∃ r53, r51 = .int .i64 r53 ∧ (Tryz.C 45 #[.int .i64 r53] H52 fun r54 H55 => ∃ r56, r54 = .agg r56 ∧ r38.size = 4 ∧ 0 + 4 ≤ 16 ∧ r44.size = 4 ∧ 4 + 4 ≤ 16 ∧ r50.size = 4 ∧ 8 + 4 ≤ 16 ∧ r56.size = 4 ∧ 12 + 4 ≤ 16 ∧ alc H55 (.cells #[.int .i64 0, .int .i64 0, .int .i64 0, .int .i64 0, .int .i64 0, .int .i64 0, .int .i64 0, .int .i64 0, .int .i64 0, .int .i64 0, .int .i64 0, .int .i64 0, .int .i64 0, .int .i64 0, .int .i64 0, .int .i64 0] 157) fun b57 H58 => (List.toArray (setL (setL (setL (setL [.int .i64 0, .int .i64 0, .int .i64 0, .int .i64 0, .int .i64 0, .int .i64 0, .int .i64 0, .int .i64 0, .int .i64 0, .int .i64 0, .int .i64 0, .int .i64 0, .int .i64 0, .int .i64 0, .int .i64 0, .int .i64 0] 0 r38.toList) 4 r44.toList) 8 r50.toList) 12 r56.toList)).size = 16 ∧ stAt H58 ⟨b57, 0, none⟩ (Array.toList (List.toArray (setL (setL (setL (setL [.int .i64 0, .int .i64 0, .int .i64 0, .int .i64 0, .int .i64 0, .int .i64 0, .int .i64 0, .int .i64 0, .int .i64 0, .int .i64 0, .int .i64 0, .int .i64 0, .int .i64 0, .int .i64 0, .int .i64 0, .int .i64 0] 0 r38.toList) 4 r44.toList) 8 r50.toList) 12 r56.toList))) fun H59 => J6 [.pointer (some ⟨b57, 0, none⟩)] H59) ∧ (alc H52 (.cells #[.int .i64 0, .int .i64 0, .int .i64 0, .int .i64 0, .int .i64 0, .int .i64 0, .int .i64 0, .int .i64 0, .int .i64 0, .int .i64 0, .int .i64 0, .int .i64 0, .int .i64 0, .int .i64 0, .int .i64 0, .int .i64 0] 157) fun b60 H61 => Tryz.C 45 #[.int .i64 r53] H61 fun r62 H63 => ∃ r64, r62 = .agg r64 ∧ r38.size = 4 ∧ 0 + 4 ≤ 16 ∧ r44.size = 4 ∧ 4 + 4 ≤ 16 ∧ r50.size = 4 ∧ 8 + 4 ≤ 16 ∧ r64.size = 4 ∧ 12 + 4 ≤ 16 ∧ (List.toArray (setL (setL (setL (setL [.int .i64 0, .int .i64 0, .int .i64 0, .int .i64 0, .int .i64 0, .int .i64 0, .int .i64 0, .int .i64 0, .int .i64 0, .int .i64 0, .int .i64 0, .int .i64 0, .int .i64 0, .int .i64 0, .int .i64 0, .int .i64 0] 0 r38.toList) 4 r44.toList) 8 r50.toList) 12 r64.toList)).size = 16 ∧ stAt H63 ⟨b60, 0, none⟩ (Array.toList (List.toArray (setL (setL (setL (setL [.int .i64 0, .int .i64 0, .int .i64 0, .int .i64 0, .int .i64 0, .int .i64 0, .int .i64 0, .int .i64 0, .int .i64 0, .int .i64 0, .int .i64 0, .int .i64 0, .int .i64 0, .int .i64 0, .int .i64 0, .int .i64 0] 0 r38.toList) 4 r44.toList) 8 r50.toList) 12 r64.toList))) fun H65 => J6 [.pointer (some ⟨b60, 0, none⟩)] H65)) ∧ (alc H49 (.cells #[.int .i64 0, .int .i64 0, .int .i64 0, .int .i64 0, .int .i64 0, .int .i64 0, .int .i64 0, .int .i64 0, .int .i64 0, .int .i64 0, .int .i64 0, .int .i64 0, .int .i64 0, .int .i64 0, .int .i64 0, .int .i64 0] 157) fun b66 H67 => (Ext H49 H67 ∨ (∃ v75, v75.size = 3 ∧ rowIn H67 ⟨b4, 0, none⟩ v75 ∧ Value.agg v75 = .agg v32)) ∧ Tryz.C 124 #[.agg v32, .int .i64 (wrap .i64 ((shrI .i64 (wrap .i64 (u2 - 32768)) 16) + 1)), .int .i64 (wrap .i64 ((shrI .i64 (wrap .i64 (v3 - 32768)) 16) + 1))] H67 fun r68 H69 => ∃ r70, r68 = .int .i64 r70 ∧ Tryz.C 45 #[.int .i64 r70] H69 fun r71 H72 => ∃ r73, r71 = .agg r73 ∧ r38.size = 4 ∧ 0 + 4 ≤ 16 ∧ r44.size = 4 ∧ 4 + 4 ≤ 16 ∧ r50.size = 4 ∧ 8 + 4 ≤ 16 ∧ r73.size = 4 ∧ 12 + 4 ≤ 16 ∧ (List.toArray (setL (setL (setL (setL [.int .i64 0, .int .i64 0, .int .i64 0, .int .i64 0, .int .i64 0, .int .i64 0, .int .i64 0, .int .i64 0, .int .i64 0, .int .i64 0, .int .i64 0, .int .i64 0, .int .i64 0, .int .i64 0, .int .i64 0, .int .i64 0] 0 r38.toList) 4 r44.toList) 8 r50.toList) 12 r73.toList)).size = 16 ∧ stAt H72 ⟨b66, 0, none⟩ (Array.toList (List.toArray (setL (setL (setL (setL [.int .i64 0, .int .i64 0, .int .i64 0, .int .i64 0, .int .i64 0, .int .i64 0, .int .i64 0, .int .i64 0, .int .i64 0, .int .i64 0, .int .i64 0, .int .i64 0, .int .i64 0, .int .i64 0, .int .i64 0, .int .i64 0] 0 r38.toList) 4 r44.toList) 8 r50.toList) 12 r73.toList))) fun H74 => J6 [.pointer (some ⟨b66, 0, none⟩)] H74)) ∧ (alc H46 (.cells #[.int .i64 0, .int .i64 0, .int .i64 0, .int .i64 0, .int .i64 0, .int .i64 0, .int .i64 0, .int .i64 0, .int .i64 0, .int .i64 0, .int .i64 0, .int .i64 0, .int .i64 0, .int .i64 0, .int .i64 0, .int .i64 0] 157) fun b77 H78 => (Ext H46 H78 ∨ (∃ v90, v90.size = 3 ∧ rowIn H78 ⟨b4, 0, none⟩ v90 ∧ Value.agg v90 = .agg v32)) ∧ Tryz.C 45 #[.int .i64 r47] H78 fun r79 H80 => ∃ r81, r79 = .agg r81 ∧ (Ext H78 H80 ∨ (∃ v89, v89.size = 3 ∧ rowIn H80 ⟨b4, 0, none⟩ v89 ∧ Value.agg v89 = .agg v32)) ∧ Tryz.C 124 #[.agg v32, .int .i64 (wrap .i64 ((shrI .i64 (wrap .i64 (u2 - 32768)) 16) + 1)), .int .i64 (wrap .i64 ((shrI .i64 (wrap .i64 (v3 - 32768)) 16) + 1))] H80 fun r82 H83 => ∃ r84, r82 = .int .i64 r84 ∧ Tryz.C 45 #[.int .i64 r84] H83 fun r85 H86 => ∃ r87, r85 = .agg r87 ∧ r38.size = 4 ∧ 0 + 4 ≤ 16 ∧ r44.size = 4 ∧ 4 + 4 ≤ 16 ∧ r81.size = 4 ∧ 8 + 4 ≤ 16 ∧ r87.size = 4 ∧ 12 + 4 ≤ 16 ∧ (List.toArray (setL (setL (setL (setL [.int .i64 0, .int .i64 0, .int .i64 0, .int .i64 0, .int .i64 0, .int .i64 0, .int .i64 0, .int .i64 0, .int .i64 0, .int .i64 0, .int .i64 0, .int .i64 0, .int .i64 0, .int .i64 0, .int .i64 0, .int .i64 0] 0 r38.toList) 4 r44.toList) 8 r81.toList) 12 r87.toList)).size = 16 ∧ stAt H86 ⟨b77, 0, none⟩ (Array.toList (List.toArray (setL (setL (setL (setL [.int .i64 0, .int .i64 0, .int .i64 0, .int .i64 0, .int .i64 0, .int .i64 0, .int .i64 0, .int .i64 0, .int .i64 0, .int .i64 0, .int .i64 0, .int .i64 0, .int .i64 0, .int .i64 0, .int .i64 0, .int .i64 0] 0 r38.toList) 4 r44.toList) 8 r81.toList) 12 r87.toList))) fun H88 => J6 [.pointer (some ⟨b77, 0, none⟩)] H88)) ∧ (alc H43 (.cells #[.int .i64 0, .int .i64 0, .int .i64 0, .int .i64 0, .int .i64 0, .int .i64 0, .int .i64 0, .int .i64 0, .int .i64 0, .int .i64 0, .int .i64 0, .int .i64 0, .int .i64 0, .int .i64 0, .int .i64 0, .int .i64 0] 157) fun b92 H93 => (Ext H43 H93 ∨ (∃ v109, v109.size = 3 ∧ rowIn H93 ⟨b4, 0, none⟩ v109 ∧ Value.agg v109 = .agg v32) ∧ (∃ v110, v110.size = 3 ∧ rowIn H93 ⟨b4, 0, none⟩ v110 ∧ Value.agg v110 = .agg v31)) ∧ Tryz.C 124 #[.agg v31, .int .i64 (shrI .i64 (wrap .i64 (u2 - 32768)) 16), .int .i64 (wrap .i64 ((shrI .i64 (wrap .i64 (v3 - 32768)) 16) + 1))] H93 fun r94 H95 => ∃ r96, r94 = .int .i64 r96 ∧ (Ext H93 H95 ∨ (∃ v108, v108.size = 3 ∧ rowIn H95 ⟨b4, 0, none⟩ v108 ∧ Value.agg v108 = .agg v32)) ∧ Tryz.C 45 #[.int .i64 r96] H95 fun r97 H98 => ∃ r99, r97 = .agg r99 ∧ (Ext H95 H98 ∨ (∃ v107, v107.size = 3 ∧ rowIn H98 ⟨b4, 0, none⟩ v107 ∧ Value.agg v107 = .agg v32)) ∧ Tryz.C 124 #[.agg v32, .int .i64 (wrap .i64 ((shrI .i64 (wrap .i64 (u2 - 32768)) 16) + 1)), .int .i64 (wrap .i64 ((shrI .i64 (wrap .i64 (v3 - 32768)) 16) + 1))] H98 fun r100 H101 => ∃ r102, r100 = .int .i64 r102 ∧ Tryz.C 45 #[.int .i64 r102] H101 fun r103 H104 => ∃ r105, r103 = .agg r105 ∧ r38.size = 4 ∧ 0 + 4 ≤ 16 ∧ r44.size = 4 ∧ 4 + 4 ≤ 16 ∧ r99.size = 4 ∧ 8 + 4 ≤ 16 ∧ r105.size = 4 ∧ 12 + 4 ≤ 16 ∧ (List.toArray (setL (setL (setL (setL [.int .i64 0, .int .i64 0, .int .i64 0, .int .i64 0, .int .i64 0, .int .i64 0, .int .i64 0, .int .i64 0, .int .i64 0, .int .i64 0, .int .i64 0, .int .i64 0, .int .i64 0, .int .i64 0, .int .i64 0, .int .i64 0] 0 r38.toList) 4 r44.toList) 8 r99.toList) 12 r105.toList)).size = 16 ∧ stAt H104 ⟨b92, 0, none⟩ (Array.toList (List.toArray (setL (setL (setL (setL [.int .i64 0, .int .i64 0, .int .i64 0, .int .i64 0, .int .i64 0, .int .i64 0, .int .i64 0, .int .i64 0, .int .i64 0, .int .i64 0, .int .i64 0, .int .i64 0, .int .i64 0, .int .i64 0, .int .i64 0, .int .i64 0] 0 r38.toList) 4 r44.toList) 8 r99.toList) 12 r105.toList))) fun H106 => J6 [.pointer (some ⟨b92, 0, none⟩)] H106)) ∧ (alc H40 (.cells #[.int .i64 0, .int .i64 0, .int .i64 0, .int .i64 0, .int .i64 0, .int .i64 0, .int .i64 0, .int .i64 0, .int .i64 0, .int .i64 0, .int .i64 0, .int .i64 0, .int .i64 0, .int .i64 0, .int .i64 0, .int .i64 0] 157) fun b113 H114 => (Ext H40 H114 ∨ (∃ v135, v135.size = 3 ∧ rowIn H114 ⟨b4, 0, none⟩ v135 ∧ Value.agg v135 = .agg v32) ∧ (∃ v136, v136.size = 3 ∧ rowIn H114 ⟨b4, 0, none⟩ v136 ∧ Value.agg v136 = .agg v31)) ∧ Tryz.C 45 #[.int .i64 r41] H114 fun r115 H116 => ∃ r117, r115 = .agg r117 ∧ (Ext H114 H116 ∨ (∃ v133, v133.size = 3 ∧ rowIn H116 ⟨b4, 0, none⟩ v133 ∧ Value.agg v133 = .agg v32) ∧ (∃ v134, v134.size = 3 ∧ rowIn H116 ⟨b4, 0, none⟩ v134 ∧ Value.agg v134 = .agg v31)) ∧ Tryz.C 124 #[.agg v31, .int .i64 (shrI .i64 (wrap .i64 (u2 - 32768)) 16), .int .i64 (wrap .i64 ((shrI .i64 (wrap .i64 (v3 - 32768)) 16) + 1))] H116 fun r118 H119 => ∃ r120, r118 = .int .i64 r120 ∧ (Ext H116 H119 ∨ (∃ v132, v132.size = 3 ∧ rowIn H119 ⟨b4, 0, none⟩ v132 ∧ Value.agg v132 = .agg v32)) ∧ Tryz.C 45 #[.int .i64 r120] H119 fun r121 H122 => ∃ r123, r121 = .agg r123 ∧ (Ext H119 H122 ∨ (∃ v131, v131.size = 3 ∧ rowIn H122 ⟨b4, 0, none⟩ v131 ∧ Value.agg v131 = .agg v32)) ∧ Tryz.C 124 #[.agg v32, .int .i64 (wrap .i64 ((shrI .i64 (wrap .i64 (u2 - 32768)) 16) + 1)), .int .i64 (wrap .i64 ((shrI .i64 (wrap .i64 (v3 - 32768)) 16) + 1))] H122 fun r124 H125 => ∃ r126, r124 = .int .i64 r126 ∧ Tryz.C 45 #[.int .i64 r126] H125 fun r127 H128 => ∃ r129, r127 = .agg r129 ∧ r38.size = 4 ∧ 0 + 4 ≤ 16 ∧ r117.size = 4 ∧ 4 + 4 ≤ 16 ∧ r123.size = 4 ∧ 8 + 4 ≤ 16 ∧ r129.size = 4 ∧ 12 + 4 ≤ 16 ∧ (List.toArray (setL (setL (setL (setL [.int .i64 0, .int .i64 0, .int .i64 0, .int .i64 0, .int .i64 0, .int .i64 0, .int .i64 0, .int .i64 0, .int .i64 0, .int .i64 0, .int .i64 0, .int .i64 0, .int .i64 0, .int .i64 0, .int .i64 0, .int .i64 0] 0 r38.toList) 4 r117.toList) 8 r123.toList) 12 r129.toList)).size = 16 ∧ stAt H128 ⟨b113, 0, none⟩ (Array.toList (List.toArray (setL (setL (setL (setL [.int .i64 0, .int .i64 0, .int .i64 0, .int .i64 0, .int .i64 0, .int .i64 0, .int .i64 0, .int .i64 0, .int .i64 0, .int .i64 0, .int .i64 0, .int .i64 0, .int .i64 0, .int .i64 0, .int .i64 0, .int .i64 0] 0 r38.toList) 4 r117.toList) 8 r123.toList) 12 r129.toList))) fun H130 => J6 [.pointer (some ⟨b113, 0, none⟩)] H130)) ∧ (alc H37 (.cells #[.int .i64 0, .int .i64 0, .int .i64 0, .int .i64 0, .int .i64 0, .int .i64 0, .int .i64 0, .int .i64 0, .int .i64 0, .int .i64 0, .int .i64 0, .int .i64 0, .int .i64 0, .int .i64 0, .int .i64 0, .int .i64 0] 157) fun b139 H140 => (Ext H37 H140 ∨ (∃ v166, v166.size = 3 ∧ rowIn H140 ⟨b4, 0, none⟩ v166 ∧ Value.agg v166 = .agg v32) ∧ (∃ v167, v167.size = 3 ∧ rowIn H140 ⟨b4, 0, none⟩ v167 ∧ Value.agg v167 = .agg v31) ∧ (∃ v168, v168.size = 3 ∧ rowIn H140 ⟨b4, 0, none⟩ v168 ∧ Value.agg v168 = .agg v30)) ∧ Tryz.C 124 #[.agg v30, .int .i64 (wrap .i64 ((shrI .i64 (wrap .i64 (u2 - 32768)) 16) + 1)), .int .i64 (shrI .i64 (wrap .i64 (v3 - 32768)) 16)] H140 fun r141 H142 => ∃ r143, r141 = .int .i64 r143 ∧ (Ext H140 H142 ∨ (∃ v164, v164.size = 3 ∧ rowIn H142 ⟨b4, 0, none⟩ v164 ∧ Value.agg v164 = .agg v32) ∧ (∃ v165, v165.size = 3 ∧ rowIn H142 ⟨b4, 0, none⟩ v165 ∧ Value.agg v165 = .agg v31)) ∧ Tryz.C 45 #[.int .i64 r143] H142 fun r144 H145 => ∃ r146, r144 = .agg r146 ∧ (Ext H142 H145 ∨ (∃ v162, v162.size = 3 ∧ rowIn H145 ⟨b4, 0, none⟩ v162 ∧ Value.agg v162 = .agg v32) ∧ (∃ v163, v163.size = 3 ∧ rowIn H145 ⟨b4, 0, none⟩ v163 ∧ Value.agg v163 = .agg v31)) ∧ Tryz.C 124 #[.agg v31, .int .i64 (shrI .i64 (wrap .i64 (u2 - 32768)) 16), .int .i64 (wrap .i64 ((shrI .i64 (wrap .i64 (v3 - 32768)) 16) + 1))] H145 fun r147 H148 => ∃ r149, r147 = .int .i64 r149 ∧ (Ext H145 H148 ∨ (∃ v161, v161.size = 3 ∧ rowIn H148 ⟨b4, 0, none⟩ v161 ∧ Value.agg v161 = .agg v32)) ∧ Tryz.C 45 #[.int .i64 r149] H148 fun r150 H151 => ∃ r152, r150 = .agg r152 ∧ (Ext H148 H151 ∨ (∃ v160, v160.size = 3 ∧ rowIn H151 ⟨b4, 0, none⟩ v160 ∧ Value.agg v160 = .agg v32)) ∧ Tryz.C 124 #[.agg v32, .int .i64 (wrap .i64 ((shrI .i64 (wrap .i64 (u2 - 32768)) 16) + 1)), .int .i64 (wrap .i64 ((shrI .i64 (wrap .i64 (v3 - 32768)) 16) + 1))] H151 fun r153 H154 => ∃ r155, r153 = .int .i64 r155 ∧ Tryz.C 45 #[.int .i64 r155] H154 fun r156 H157 => ∃ r158, r156 = .agg r158 ∧ r38.size = 4 ∧ 0 + 4 ≤ 16 ∧ r146.size = 4 ∧ 4 + 4 ≤ 16 ∧ r152.size = 4 ∧ 8 + 4 ≤ 16 ∧ r158.size = 4 ∧ 12 + 4 ≤ 16 ∧ (List.toArray (setL (setL (setL (setL [.int .i64 0, .int .i64 0, .int .i64 0, .int .i64 0, .int .i64 0, .int .i64 0, .int .i64 0, .int .i64 0, .int .i64 0, .int .i64 0, .int .i64 0, .int .i64 0, .int .i64 0, .int .i64 0, .int .i64 0, .int .i64 0] 0 r38.toList) 4 r146.toList) 8 r152.toList) 12 r158.toList)).size = 16 ∧ stAt H157 ⟨b139, 0, none⟩ (Array.toList (List.toArray (setL (setL (setL (setL [.int .i64 0, .int .i64 0, .int .i64 0, .int .i64 0, .int .i64 0, .int .i64 0, .int .i64 0, .int .i64 0, .int .i64 0, .int .i64 0, .int .i64 0, .int .i64 0, .int .i64 0, .int .i64 0, .int .i64 0, .int .i64 0] 0 r38.toList) 4 r146.toList) 8 r152.toList) 12 r158.toList))) fun H159 => J6 [.pointer (some ⟨b139, 0, none⟩)] H159)) ∧ (alc H34 (.cells #[.int .i64 0, .int .i64 0, .int .i64 0, .int .i64 0, .int .i64 0, .int .i64 0, .int .i64 0, .int .i64 0, .int .i64 0, .int .i64 0, .int .i64 0, .int .i64 0, .int .i64 0, .int .i64 0, .int .i64 0, .int .i64 0] 157) fun b172 H173 => (Ext H34 H173 ∨ (∃ v205, v205.size = 3 ∧ rowIn H173 ⟨b4, 0, none⟩ v205 ∧ Value.agg v205 = .agg v32) ∧ (∃ v206, v206.size = 3 ∧ rowIn H173 ⟨b4, 0, none⟩ v206 ∧ Value.agg v206 = .agg v31) ∧ (∃ v207, v207.size = 3 ∧ rowIn H173 ⟨b4, 0, none⟩ v207 ∧ Value.agg v207 = .agg v30)) ∧ Tryz.C 45 #[.int .i64 r35] H173 fun r174 H175 => ∃ r176, r174 = .agg r176 ∧ (Ext H173 H175 ∨ (∃ v202, v202.size = 3 ∧ rowIn H175 ⟨b4, 0, none⟩ v202 ∧ Value.agg v202 = .agg v32) ∧ (∃ v203, v203.size = 3 ∧ rowIn H175 ⟨b4, 0, none⟩ v203 ∧ Value.agg v203 = .agg v31) ∧ (∃ v204, v204.size = 3 ∧ rowIn H175 ⟨b4, 0, none⟩ v204 ∧ Value.agg v204 = .agg v30)) ∧ Tryz.C 124 #[.agg v30, .int .i64 (wrap .i64 ((shrI .i64 (wrap .i64 (u2 - 32768)) 16) + 1)), .int .i64 (shrI .i64 (wrap .i64 (v3 - 32768)) 16)] H175 fun r177 H178 => ∃ r179, r177 = .int .i64 r179 ∧ (Ext H175 H178 ∨ (∃ v200, v200.size = 3 ∧ rowIn H178 ⟨b4, 0, none⟩ v200 ∧ Value.agg v200 = .agg v32) ∧ (∃ v201, v201.size = 3 ∧ rowIn H178 ⟨b4, 0, none⟩ v201 ∧ Value.agg v201 = .agg v31)) ∧ Tryz.C 45 #[.int .i64 r179] H178 fun r180 H181 => ∃ r182, r180 = .agg r182 ∧ (Ext H178 H181 ∨ (∃ v198, v198.size = 3 ∧ rowIn H181 ⟨b4, 0, none⟩ v198 ∧ Value.agg v198 = .agg v32) ∧ (∃ v199, v199.size = 3 ∧ rowIn H181 ⟨b4, 0, none⟩ v199 ∧ Value.agg v199 = .agg v31)) ∧ Tryz.C 124 #[.agg v31, .int .i64 (shrI .i64 (wrap .i64 (u2 - 32768)) 16), .int .i64 (wrap .i64 ((shrI .i64 (wrap .i64 (v3 - 32768)) 16) + 1))] H181 fun r183 H184 => ∃ r185, r183 = .int .i64 r185 ∧ (Ext H181 H184 ∨ (∃ v197, v197.size = 3 ∧ rowIn H184 ⟨b4, 0, none⟩ v197 ∧ Value.agg v197 = .agg v32)) ∧ Tryz.C 45 #[.int .i64 r185] H184 fun r186 H187 => ∃ r188, r186 = .agg r188 ∧ (Ext H184 H187 ∨ (∃ v196, v196.size = 3 ∧ rowIn H187 ⟨b4, 0, none⟩ v196 ∧ Value.agg v196 = .agg v32)) ∧ Tryz.C 124 #[.agg v32, .int .i64 (wrap .i64 ((shrI .i64 (wrap .i64 (u2 - 32768)) 16) + 1)), .int .i64 (wrap .i64 ((shrI .i64 (wrap .i64 (v3 - 32768)) 16) + 1))] H187 fun r189 H190 => ∃ r191, r189 = .int .i64 r191 ∧ Tryz.C 45 #[.int .i64 r191] H190 fun r192 H193 => ∃ r194, r192 = .agg r194 ∧ r176.size = 4 ∧ 0 + 4 ≤ 16 ∧ r182.size = 4 ∧ 4 + 4 ≤ 16 ∧ r188.size = 4 ∧ 8 + 4 ≤ 16 ∧ r194.size = 4 ∧ 12 + 4 ≤ 16 ∧ (List.toArray (setL (setL (setL (setL [.int .i64 0, .int .i64 0, .int .i64 0, .int .i64 0, .int .i64 0, .int .i64 0, .int .i64 0, .int .i64 0, .int .i64 0, .int .i64 0, .int .i64 0, .int .i64 0, .int .i64 0, .int .i64 0, .int .i64 0, .int .i64 0] 0 r176.toList) 4 r182.toList) 8 r188.toList) 12 r194.toList)).size = 16 ∧ stAt H193 ⟨b172, 0, none⟩ (Array.toList (List.toArray (setL (setL (setL (setL [.int .i64 0, .int .i64 0, .int .i64 0, .int .i64 0, .int .i64 0, .int .i64 0, .int .i64 0, .int .i64 0, .int .i64 0, .int .i64 0, .int .i64 0, .int .i64 0, .int .i64 0, .int .i64 0, .int .i64 0, .int .i64 0] 0 r176.toList) 4 r182.toList) 8 r188.toList) 12 r194.toList))) fun H195 => J6 [.pointer (some ⟨b172, 0, none⟩)] H195)) ∧ (alc H5 (.cells #[.int .i64 0, .int .i64 0, .int .i64 0, .int .i64 0, .int .i64 0, .int .i64 0, .int .i64 0, .int .i64 0, .int .i64 0, .int .i64 0, .int .i64 0, .int .i64 0, .int .i64 0, .int .i64 0, .int .i64 0, .int .i64 0] 157) fun b211 H212 => (Ext H5 H212 ∨ (∃ v250, v250.size = 3 ∧ rowIn H212 ⟨b4, 0, none⟩ v250 ∧ Value.agg v250 = .agg v32) ∧ (∃ v251, v251.size = 3 ∧ rowIn H212 ⟨b4, 0, none⟩ v251 ∧ Value.agg v251 = .agg v31) ∧ (∃ v252, v252.size = 3 ∧ rowIn H212 ⟨b4, 0, none⟩ v252 ∧ Value.agg v252 = .agg v30) ∧ (∃ v253, v253.size = 3 ∧ rowIn H212 ⟨b4, 0, none⟩ v253 ∧ Value.agg v253 = .agg v29)) ∧ Tryz.C 124 #[.agg v29, .int .i64 (shrI .i64 (wrap .i64 (u2 - 32768)) 16), .int .i64 (shrI .i64 (wrap .i64 (v3 - 32768)) 16)] H212 fun r213 H214 => ∃ r215, r213 = .int .i64 r215 ∧ (Ext H212 H214 ∨ (∃ v247, v247.size = 3 ∧ rowIn H214 ⟨b4, 0, none⟩ v247 ∧ Value.agg v247 = .agg v32) ∧ (∃ v248, v248.size = 3 ∧ rowIn H214 ⟨b4, 0, none⟩ v248 ∧ Value.agg v248 = .agg v31) ∧ (∃ v249, v249.size = 3 ∧ rowIn H214 ⟨b4, 0, none⟩ v249 ∧ Value.agg v249 = .agg v30)) ∧ Tryz.C 45 #[.int .i64 r215] H214 fun r216 H217 => ∃ r218, r216 = .agg r218 ∧ (Ext H214 H217 ∨ (∃ v244, v244.size = 3 ∧ rowIn H217 ⟨b4, 0, none⟩ v244 ∧ Value.agg v244 = .agg v32) ∧ (∃ v245, v245.size = 3 ∧ rowIn H217 ⟨b4, 0, none⟩ v245 ∧ Value.agg v245 = .agg v31) ∧ (∃ v246, v246.size = 3 ∧ rowIn H217 ⟨b4, 0, none⟩ v246 ∧ Value.agg v246 = .agg v30)) ∧ Tryz.C 124 #[.agg v30, .int .i64 (wrap .i64 ((shrI .i64 (wrap .i64 (u2 - 32768)) 16) + 1)), .int .i64 (shrI .i64 (wrap .i64 (v3 - 32768)) 16)] H217 fun r219 H220 => ∃ r221, r219 = .int .i64 r221 ∧ (Ext H217 H220 ∨ (∃ v242, v242.size = 3 ∧ rowIn H220 ⟨b4, 0, none⟩ v242 ∧ Value.agg v242 = .agg v32) ∧ (∃ v243, v243.size = 3 ∧ rowIn H220 ⟨b4, 0, none⟩ v243 ∧ Value.agg v243 = .agg v31)) ∧ Tryz.C 45 #[.int .i64 r221] H220 fun r222 H223 => ∃ r224, r222 = .agg r224 ∧ (Ext H220 H223 ∨ (∃ v240, v240.size = 3 ∧ rowIn H223 ⟨b4, 0, none⟩ v240 ∧ Value.agg v240 = .agg v32) ∧ (∃ v241, v241.size = 3 ∧ rowIn H223 ⟨b4, 0, none⟩ v241 ∧ Value.agg v241 = .agg v31)) ∧ Tryz.C 124 #[.agg v31, .int .i64 (shrI .i64 (wrap .i64 (u2 - 32768)) 16), .int .i64 (wrap .i64 ((shrI .i64 (wrap .i64 (v3 - 32768)) 16) + 1))] H223 fun r225 H226 => ∃ r227, r225 = .int .i64 r227 ∧ (Ext H223 H226 ∨ (∃ v239, v239.size = 3 ∧ rowIn H226 ⟨b4, 0, none⟩ v239 ∧ Value.agg v239 = .agg v32)) ∧ Tryz.C 45 #[.int .i64 r227] H226 fun r228 H229 => ∃ r230, r228 = .agg r230 ∧ (Ext H226 H229 ∨ (∃ v238, v238.size = 3 ∧ rowIn H229 ⟨b4, 0, none⟩ v238 ∧ Value.agg v238 = .agg v32)) ∧ Tryz.C 124 #[.agg v32, .int .i64 (wrap .i64 ((shrI .i64 (wrap .i64 (u2 - 32768)) 16) + 1)), .int .i64 (wrap .i64 ((shrI .i64 (wrap .i64 (v3 - 32768)) 16) + 1))] H229 fun r231 H232 => ∃ r233, r231 = .int .i64 r233 ∧ Tryz.C 45 #[.int .i64 r233] H232 fun r234 H235 => ∃ r236, r234 = .agg r236 ∧ r218.size = 4 ∧ 0 + 4 ≤ 16 ∧ r224.size = 4 ∧ 4 + 4 ≤ 16 ∧ r230.size = 4 ∧ 8 + 4 ≤ 16 ∧ r236.size = 4 ∧ 12 + 4 ≤ 16 ∧ (List.toArray (setL (setL (setL (setL [.int .i64 0, .int .i64 0, .int .i64 0, .int .i64 0, .int .i64 0, .int .i64 0, .int .i64 0, .int .i64 0, .int .i64 0, .int .i64 0, .int .i64 0, .int .i64 0, .int .i64 0, .int .i64 0, .int .i64 0, .int .i64 0] 0 r218.toList) 4 r224.toList) 8 r230.toList) 12 r236.toList)).size = 16 ∧ stAt H235 ⟨b211, 0, none⟩ (Array.toList (List.toArray (setL (setL (setL (setL [.int .i64 0, .int .i64 0, .int .i64 0, .int .i64 0, .int .i64 0, .int .i64 0, .int .i64 0, .int .i64 0, .int .i64 0, .int .i64 0, .int .i64 0, .int .i64 0, .int .i64 0, .int .i64 0, .int .i64 0, .int .i64 0] 0 r218.toList) 4 r224.toList) 8 r230.toList) 12 r236.toList))) fun H237 => J6 [.pointer (some ⟨b211, 0, none⟩)] H237)
def Tryz.p123 : Plan := (tl (tl (tl (two (join [(11, 999999)] [9, 10] leaf) (tl (tl (two (tl (one (loop [(74, 3)] [11, 12, 13] (tl (two (tl leaf) (two (one (tl (tl (two (tl (one (loop [(15, 3), (78, 3)] [11, 12, 13, 14, 74, 77] (tl (two (tl leaf) (two (one (tl leaf)) leaf)))))) leaf)))) leaf)))))) (tl leaf))))))))
theorem Tryz.s123 {p1 : AV} {u2 v3 : Int} {H R} (h : Tryz.S123 p1 u2 v3 H R) : Tryz.C 123 #[.agg p1, .int .i64 u2, .int .i64 v3] H R := vcs Tryz.tab_ok Tryz.mixed Tryz.func123 Tryz.cal123 Tryz.p123 h (by kernel_rfl)
def Tryz.S124 (p1 : AV) (x2 y3 : Int) (H : Heap) (R : Kv) : Prop :=
 alc H (.cells p1 34) fun b4 H5 => ∀ J6 : Kl, (∀ H7, (∃ P8p P8l P8c, cell H7 (.add ⟨b4, 0, none⟩ 2) = some (.slice P8p P8l P8c) ∧ ∃ W9, cell H7 (.add ⟨b4, 0, none⟩ 0) = some (.int .i64 W9) ∧ ∃ a10, P8p = some a10 ∧ 0 ≤ (wrap .i64 ((wrap .i64 (y3 * W9)) + x2)) ∧ (wrap .i64 ((wrap .i64 (y3 * W9)) + x2)) < (P8l : Int) ∧ ∃ v11, cell H7 (.add a10 (toNat (wrap .i64 ((wrap .i64 (y3 * W9)) + x2)) * 1)) = some (.int .i64 v11) ∧ R (.int .i64 v11) H7) → J6 [] H7) →
 br (decide (x2 < 0)) (R (.int .i64 0) H5) (∃ W12, cell H5 (.add ⟨b4, 0, none⟩ 0) = some (.int .i64 W12) ∧ br (decide (x2 ≥ W12)) (R (.int .i64 0) H5) (br (decide (y3 < 0)) (R (.int .i64 0) H5) (∃ H13, cell H5 (.add ⟨b4, 0, none⟩ 1) = some (.int .i64 H13) ∧ br (decide (y3 ≥ H13))
 (R (.int .i64 0) H5)
 (J6 [] H5))))
def Tryz.p124 : Plan := (tl (two (join [] [1, 2, 3] g0) (tl leaf)))
theorem Tryz.s124 {p1 : AV} {x2 y3 : Int} {H R} (h : Tryz.S124 p1 x2 y3 H R) : Tryz.C 124 #[.agg p1, .int .i64 x2, .int .i64 y3] H R := vcs Tryz.tab_ok Tryz.mixed Tryz.func124 Tryz.cal124 Tryz.p124 h (by kernel_rfl)
def Tryz.S125 (x1 y2 : Int) (H : Heap) (R : Kv) : Prop :=
 Tryz.C 102 #[.int .i64 x1, .int .i64 y2] H fun r3 H4 => ∃ r5, r3 = .int .i64 r5 ∧ R (.int .i64 (wrap .i64 ((wrap .i64 (x1 + y2)) - r5))) H4
def Tryz.p125 : Plan := (tl (tl leaf))
theorem Tryz.s125 {x1 y2 : Int} {H R} (h : Tryz.S125 x1 y2 H R) : Tryz.C 125 #[.int .i64 x1, .int .i64 y2] H R := vcs Tryz.tab_ok Tryz.mixed Tryz.func125 Tryz.cal125 Tryz.p125 h (by kernel_rfl)
def Tryz.S126 (x1 y2 : Int) (H : Heap) (R : Kv) : Prop :=
 br (decide (y2 < 128))
 (Tryz.C 102 #[.int .i64 x1, .int .i64 (wrap .i64 ((2 : Int) * y2))] H fun r3 H4 => ∃ r5, r3 = .int .i64 r5 ∧ R (.int .i64 r5) H4)
 (Tryz.C 125 #[.int .i64 x1, .int .i64 (wrap .i64 ((wrap .i64 ((2 : Int) * y2)) - 255))] H fun r6 H7 => ∃ r8, r6 = .int .i64 r8 ∧ R (.int .i64 r8) H7)
def Tryz.p126 : Plan := (tl (tg (tl leaf)))
theorem Tryz.s126 {x1 y2 : Int} {H R} (h : Tryz.S126 x1 y2 H R) : Tryz.C 126 #[.int .i64 x1, .int .i64 y2] H R := vcs Tryz.tab_ok Tryz.mixed Tryz.func126 Tryz.cal126 Tryz.p126 h (by kernel_rfl)
def Tryz.S129 (p1 : AV) (H : Heap) (R : Kv) : Prop :=
 alc H (.cells p1 105) fun b2 H3 => ∃ X4, cell H3 (.add ⟨b2, 0, none⟩ 0) = some (.int .i64 X4) ∧ br (decide (X4 ≥ (-1048576 : Int))) (∃ X5, cell H3 (.add ⟨b2, 0, none⟩ 0) = some (.int .i64 X5) ∧ br (decide (X5 ≤ 1048576)) (∃ Y6, cell H3 (.add ⟨b2, 0, none⟩ 1) = some (.int .i64 Y6) ∧ br (decide (Y6 ≥ (-1048576 : Int))) (∃ Y7, cell H3 (.add ⟨b2, 0, none⟩ 1) = some (.int .i64 Y7) ∧ R (.bool (decide (Y7 ≤ 1048576))) H3) (R (.bool false) H3)) (R (.bool false) H3)) (R (.bool false) H3)
def Tryz.p129 : Plan := (tl (tl leaf))
theorem Tryz.s129 {p1 : AV} {H R} (h : Tryz.S129 p1 H R) : Tryz.C 129 #[.agg p1] H R := vcs Tryz.tab_ok Tryz.mixed Tryz.func129 Tryz.cal129 Tryz.p129 h (by kernel_rfl)
def Tryz.S130 (p1 : AV) (H : Heap) (R : Kv) : Prop :=
 alc H (.cells p1 105) fun b2 H3 => ∃ X4, cell H3 (.add ⟨b2, 0, none⟩ 0) = some (.int .i64 X4) ∧ ∃ Y5, cell H3 (.add ⟨b2, 0, none⟩ 1) = some (.int .i64 Y5) ∧ (FloatKind.f64 = FloatKind.f64 ∧ R (.complex .f64 (floatOfInt .f64 X4) (floatOfInt .f64 Y5)) H3)
def Tryz.p130 : Plan := (tl (tl leaf))
theorem Tryz.s130 {p1 : AV} {H R} (h : Tryz.S130 p1 H R) : Tryz.C 130 #[.agg p1] H R := vcs Tryz.tab_ok Tryz.mixed Tryz.func130 Tryz.cal130 Tryz.p130 h (by kernel_rfl)
def Tryz.S131 (a1r a1i b2r b2i : Nat) (H : Heap) (R : Kv) : Prop :=
 (FloatKind.f64 = FloatKind.f64 ∧ (FloatKind.f64 = FloatKind.f64 ∧ FloatKind.f64 = FloatKind.f64 ∧ ∃ re3 im4 : Nat, cMulBits a1r (Op.negFloat .f64 a1i) b2r b2i = some (re3, im4) ∧ R (.float .f64 im4) H))
def Tryz.p131 : Plan := (tl (tl leaf))
theorem Tryz.s131 {a1r a1i b2r b2i : Nat} {H R} (h : Tryz.S131 a1r a1i b2r b2i H R) : Tryz.C 131 #[.complex .f64 a1r a1i, .complex .f64 b2r b2i] H R := vcs Tryz.tab_ok Tryz.mixed Tryz.func131 Tryz.cal131 Tryz.p131 h (by kernel_rfl)
def Tryz.S132 (n1 m2 : Int) (H : Heap) (R : Kv) : Prop :=
 m2 ≠ 0 ∧ ∀ J3 : Kl, (∀ (q4 : Int) H5, (R (.int .i64 q4) H5) → J3 [.int .i64 q4] H5) →
 m2 ≠ 0 ∧ br (((Int.tmod n1 m2) : Int) != 0) (br (!((decide (n1 < 0)) == (decide (m2 < 0))))
 (J3 [.int .i64 (wrap .i64 ((wrap .i64 (Int.tdiv n1 m2)) - 1))] H)
 (J3 [.int .i64 (wrap .i64 (Int.tdiv n1 m2))] H)) (J3 [.int .i64 (wrap .i64 (Int.tdiv n1 m2))] H)
def Tryz.p132 : Plan := (tl (tl (two (join [(5, 3)] [] (tl (tl leaf))) (tl leaf))))
theorem Tryz.s132 {n1 m2 : Int} {H R} (h : Tryz.S132 n1 m2 H R) : Tryz.C 132 #[.int .i64 n1, .int .i64 m2] H R := vcs Tryz.tab_ok Tryz.mixed Tryz.func132 Tryz.cal132 Tryz.p132 h (by kernel_rfl)
def Tryz.S133 (p1 : AV) (H : Heap) (R : Kv) : Prop :=
 alc H (.cells p1 106) fun b2 H3 => ∃ X4, cell H3 (.add ⟨b2, 0, none⟩ 0) = some (.int .i64 X4) ∧ br (decide (X4 ≥ (-1048576 : Int))) (∃ X5, cell H3 (.add ⟨b2, 0, none⟩ 0) = some (.int .i64 X5) ∧ br (decide (X5 ≤ 1048576)) (∃ Y6, cell H3 (.add ⟨b2, 0, none⟩ 1) = some (.int .i64 Y6) ∧ br (decide (Y6 ≥ (-1048576 : Int))) (∃ Y7, cell H3 (.add ⟨b2, 0, none⟩ 1) = some (.int .i64 Y7) ∧ R (.bool (decide (Y7 ≤ 1048576))) H3) (R (.bool false) H3)) (R (.bool false) H3)) (R (.bool false) H3)
def Tryz.p133 : Plan := (tl (tl leaf))
theorem Tryz.s133 {p1 : AV} {H R} (h : Tryz.S133 p1 H R) : Tryz.C 133 #[.agg p1] H R := vcs Tryz.tab_ok Tryz.mixed Tryz.func133 Tryz.cal133 Tryz.p133 h (by kernel_rfl)
def Tryz.S134 (a1 b2 : AV) (x3 y4 : Int) (H : Heap) (R : Kv) : Prop :=
 alc H (.cells a1 106) fun b5 H6 => alc H6 (.cells b2 106) fun b7 H8 => ∃ Y9, cell H8 (.add ⟨b5, 0, none⟩ 1) = some (.int .i64 Y9) ∧ ∃ Y10, cell H8 (.add ⟨b7, 0, none⟩ 1) = some (.int .i64 Y10) ∧ br ((decide (((wrap .i64 ((2 : Int) * Y9)) : Int) > (wrap .i64 ((wrap .i64 ((2 : Int) * y4)) + 1)))) == (decide (((wrap .i64 ((2 : Int) * Y10)) : Int) > (wrap .i64 ((wrap .i64 ((2 : Int) * y4)) + 1)))))
 (R (.bool false) H8)
 (∃ Y11, cell H8 (.add ⟨b7, 0, none⟩ 1) = some (.int .i64 Y11) ∧ ∃ Y12, cell H8 (.add ⟨b5, 0, none⟩ 1) = some (.int .i64 Y12) ∧ ∃ X13, cell H8 (.add ⟨b7, 0, none⟩ 0) = some (.int .i64 X13) ∧ ∃ X14, cell H8 (.add ⟨b5, 0, none⟩ 0) = some (.int .i64 X14) ∧ ∃ Y15, cell H8 (.add ⟨b5, 0, none⟩ 1) = some (.int .i64 Y15) ∧ ∃ X16, cell H8 (.add ⟨b5, 0, none⟩ 0) = some (.int .i64 X16) ∧ br (decide (((wrap .i64 ((wrap .i64 ((2 : Int) * Y11)) - (wrap .i64 ((2 : Int) * Y12)))) : Int) < 0))
 (R (.bool (decide (((wrap .i64 ((wrap .i64 ((wrap .i64 ((wrap .i64 ((2 : Int) * X13)) - (wrap .i64 ((2 : Int) * X14)))) * (wrap .i64 ((wrap .i64 ((wrap .i64 ((2 : Int) * y4)) + 1)) - (wrap .i64 ((2 : Int) * Y15)))))) + (wrap .i64 ((wrap .i64 ((wrap .i64 ((2 : Int) * X16)) - (wrap .i64 ((wrap .i64 ((2 : Int) * x3)) + 1)))) * (wrap .i64 ((wrap .i64 ((2 : Int) * Y11)) - (wrap .i64 ((2 : Int) * Y12)))))))) : Int) < 0))) H8)
 (R (.bool (decide (((wrap .i64 ((wrap .i64 ((wrap .i64 ((wrap .i64 ((2 : Int) * X13)) - (wrap .i64 ((2 : Int) * X14)))) * (wrap .i64 ((wrap .i64 ((wrap .i64 ((2 : Int) * y4)) + 1)) - (wrap .i64 ((2 : Int) * Y15)))))) + (wrap .i64 ((wrap .i64 ((wrap .i64 ((2 : Int) * X16)) - (wrap .i64 ((wrap .i64 ((2 : Int) * x3)) + 1)))) * (wrap .i64 ((wrap .i64 ((2 : Int) * Y11)) - (wrap .i64 ((2 : Int) * Y12)))))))) : Int) > 0))) H8))
def Tryz.p134 : Plan := (tl (tl (tl (tg (tl (tl (tg (tl leaf))))))))
theorem Tryz.s134 {a1 b2 : AV} {x3 y4 : Int} {H R} (h : Tryz.S134 a1 b2 x3 y4 H R) : Tryz.C 134 #[.agg a1, .agg b2, .int .i64 x3, .int .i64 y4] H R := vcs Tryz.tab_ok Tryz.mixed Tryz.func134 Tryz.cal134 Tryz.p134 h (by kernel_rfl)
end Go.Proofs
namespace Go.Proofs
open Go.Sh
mutual
def okL : Lay → Prop
 | .mk f ks => f.p.length ≤ 1000000000 ∧ f.mask.length ≤ 1000000000 ∧ f.params.length ≤ 1000000000 ∧ ks.length ≤ 1000000000 ∧ okKs ks
def okKs : List Lay → Prop
 | [] => True
 | t :: ts => okL t ∧ okKs ts
end
mutual
def cntL : Lay → Nat
 | .mk _ ks => 1 + cntKs ks
def cntKs : List Lay → Nat
 | [] => 0
 | t :: ts => cntL t + cntKs ts
end
mutual
def depL : Lay → Nat
 | .mk _ ks => 1 + depKs ks
def depKs : List Lay → Nat
 | [] => 0
 | t :: ts => max (depL t) (depKs ts)
end
theorem okKs_iff : ∀ {ts : List Lay}, okKs ts ↔ ∀ t ∈ ts, okL t
 | [] => ⟨fun _ _ h => (by cases h), fun _ => trivial⟩
 | t :: ts => by
  rw [okKs, okKs_iff]
  simp only [List.forall_mem_cons]
theorem okL.kids {t : Lay} (h : okL t) : okKs t.kids ∧ t.kids.length ≤ 1000000000 := by
 cases t; rw [okL] at h; exact ⟨h.2.2.2.2, h.2.2.2.1⟩
theorem cntL_pos (t : Lay) : 1 ≤ cntL t := by cases t; rw [cntL]; omega
theorem len_cnt : ∀ ts : List Lay, ts.length ≤ cntKs ts
 | [] => Nat.le_refl _
 | t :: ts => by have := len_cnt ts; have := cntL_pos t; rw [cntKs, List.length_cons]; omega
theorem dep_cntKs : ∀ {ts : List Lay}, (∀ t ∈ ts, depL t ≤ cntL t) → depKs ts ≤ cntKs ts
 | [], _ => Nat.le_refl _
 | t :: ts, h => by
  have h1 := h t List.mem_cons_self
  have h2 := dep_cntKs fun u hu => h u (List.mem_cons_of_mem _ hu)
  rw [depKs, cntKs]; omega
theorem dep_cntL : ∀ t, depL t ≤ cntL t := Lay.ind fun f ks ih => by
 have := dep_cntKs ih
 rw [depL, cntL]; omega
theorem dep_cnt (ts : List Lay) : depKs ts ≤ cntKs ts := dep_cntKs fun t _ => dep_cntL t
theorem cnt_mem : ∀ {ts : List Lay} {t : Lay}, t ∈ ts → cntL t ≤ cntKs ts
 | u :: ts, t, h => by
  rw [cntKs]
  rcases List.mem_cons.1 h with rfl | h
  ·omega
  ·have := cnt_mem h; omega
theorem cntKs_app (a b : List Lay) : cntKs (a ++ b) = cntKs a + cntKs b := by
 induction a with
 | nil => simp [cntKs]
 | cons t a ih => rw [List.cons_append, cntKs, ih, cntKs]; omega
theorem depKs_app (a b : List Lay) : depKs (a ++ b) = max (depKs a) (depKs b) := by
 induction a with
 | nil => simp [depKs]
 | cons t a ih => rw [List.cons_append, depKs, ih, depKs]; omega
theorem setL_all {cs l : List Value} (h : l.length = cs.length) : setL cs 0 l = l := by simp [setL, h]
variable {H0 H : Heap} {R : Value → Heap → Prop}
theorem c81 {p : Option Addr} {l c : Nat} {xs : List Int} (h : IS H p l (ints xs)) (hl : xs.length ≤ 1000000000) (hR : ∀ (q : Sl3) H', St H H' [.sl q.p q.l q.c 3 1 (ints xs)] → R q.v H') :
    CallsH Tryz.prog 81 #[.slice p l c] H R := by
  have hlen := h.length
  refine Tryz.s81 (br_none (fun hp => ?_) fun a hp => ?_)
  · subst hp
    have : xs = [] := List.eq_nil_iff_forall_not_mem.2 fun v hv => by
      obtain ⟨i, hi⟩ := List.getElem?_of_mem hv
      obtain ⟨a, h1, _⟩ := h.get i _ (ints_get hi)
      cases h1
    subst this
    exact hR .nil H ((St.nil H).nilSl _ _)
  · refine (St.nil H).alcE fun b2 H3 he hs => ?_
    have hs := hs.toSl 0 (l := 0) (k := 1) (fs := []) rfl rfl rfl (by simp)
    refine hs.appI 0 rfl (h.ext he) (ints_one xs) rfl (by omega) (by omega) fun p' c' H' hs' => ?_
    rw [Nat.zero_add] at hs' ⊢
    exact hR ⟨p', l, c'⟩ H' hs'
theorem c82 {p : Option Addr} {l c : Nat} {xs : List Int} (h : IS H p l (kints .u8 xs)) (hl : xs.length ≤ 1000000000) (hR : ∀ (q : Sl3) H', St H H' [.sl q.p q.l q.c 5 1 (kints .u8 xs)] → R q.v H') :
    CallsH Tryz.prog 82 #[.slice p l c] H R := by
  have hlen := h.length
  refine Tryz.s82 (br_none (fun hp => ?_) fun a hp => ?_)
  · subst hp
    have : xs = [] := List.eq_nil_iff_forall_not_mem.2 fun v hv => by
      obtain ⟨i, hi⟩ := List.getElem?_of_mem hv
      obtain ⟨a, h1, _⟩ := h.get i _ (kints_get hi)
      cases h1
    subst this
    exact hR .nil H ((St.nil H).nilSl _ _)
  · refine (St.nil H).alcE fun b2 H3 he hs => ?_
    have hs := hs.toSl 0 (l := 0) (k := 1) (fs := []) rfl rfl rfl (by simp)
    refine hs.appI 0 rfl (h.ext he) (kints_one .u8 xs) rfl (by omega) (by omega) fun p' c' H' hs' => ?_
    rw [Nat.zero_add] at hs' ⊢
    exact hR ⟨p', l, c'⟩ H' hs'
def CopyOk (t : T) : Prop := ∀ {H : Heap} {R : Value → Heap → Prop}, rdT H t → okL (layT t) → (∀ t' H', layT t' = layT t → St H H' (resT t') → R (.agg (cellsT t').toArray) H') → CallsH Tryz.prog 44 #[.agg (cellsT t).toArray] H R
theorem all_of {ks : List T} (ih : ∀ t ∈ ks, CopyOk t) {K : Sl3} (hg : grp H K ks) (ho : okKs (layKs ks)) (hl : ks.length ≤ 1000000000) (hR : ∀ (K' : Sl3) ks' H', layKs ks' = layKs ks → St H H' (resG K' ks') → R K'.v H') :
    CallsH Tryz.prog 31 #[K.v] H R := by
  show CallsH Tryz.prog 31 #[.slice K.p K.l K.c] H R
  refine Tryz.s31 ?_
  unfold Tryz.S31
  intro X hX
  have hKl := hg.1.1
  have go : ∀ k, k ≤ ks.length → ∀ p c H1 (built : List T), layKs built = (layKs ks).take k → St H H1 (.sl p k c 58 19 (cellsKs built) :: resKs built) → X [.slice p k c, .int .i64 k] H1 := by
    refine upto fun k hk ihk p c H1 built hb hs => hX _ _ _ _ _ (br_dec (fun hlt => ?_) fun hge => ?_)
    · have hk' : k < ks.length := by omega
      have ht := List.getElem?_eq_getElem hk'
      obtain ⟨a, h1, h2, h3⟩ := (hg.ext hs.ext).get ht
      refine ⟨a, h1, by omega, hlt, (cellsT ks[k]).toArray, by simp [cellsT_len], h2, hs.alcE fun b8 H9 he9 hs9 => ⟨by simp [cellsT_len], hs9.putAll 0 rfl (by simp [cellsT_len]) (by simpa using cellsT_one _) fun H10 hs10 => ?_⟩⟩
      refine ⟨_, ?_, rowIn_whole (hs10.block 0 rfl), ?_⟩
      · simp [cellsT_len]
      refine ih ks[k] (List.getElem_mem hk') (rdT.ext (hs10.ext) _ (rdKs_iff.1 hg.2 _ (List.getElem_mem hk'))) (okKs_iff.1 ho _ (by rw [layKs_map]; exact List.mem_map_of_mem (List.getElem_mem hk'))) fun t' H13 hlay hs13 => ?_
      refine ⟨_, rfl, by simp [cellsT_len], by decide, ?_⟩
      rw [setL_all (by simp [cellsT_len])]
      refine (hs10.callR hs13).alc fun b15 H16 hs16 => ?_
      refine hs16.appC 2 0 rfl rfl (by simp [cellsT_len]) (by simpa using cellsT_one _) (by decide) rfl (by omega) (by omega) fun p' c' H18 hs18 => ?_
      rw [wrap_id (by omega) (by omega)]
      refine ihk hk' p' c' H18 (built ++ [t']) ?_ ?_
      · rw [layKs_app, hb, layKs_map [t'], List.take_add_one]
        have : (layKs ks)[k]? = some (layT ks[k]) := by rw [layKs_map, List.getElem?_map, ht]; rfl
        rw [this, ← hlay]; rfl
      · rw [cellsKs_app, cellsKs_one, resKs_app, resKs_one]
        exact hs18.drop 2
    · have : k = ks.length := by omega
      subst this
      rw [List.take_of_length_le (by rw [layKs_len]; exact Nat.le_refl _)] at hb
      exact hR ⟨p, ks.length, c⟩ built H1 hb hs
  exact go 0 (by omega) none 0 H [] rfl ((St.nil H).nilSl _ _)
theorem c44 : ∀ t, CopyOk t := by
 refine T.ind fun f P M A K ks ih => ?_
 intro H R hr ho hR
 rw [rdT] at hr
 obtain ⟨hP, hM, hA, hK, hks⟩ := hr
 have ho' := ho
 rw [layT, okL] at ho'
 obtain ⟨o1, o2, o3, o4, o5⟩ := ho'
 refine Tryz.s44 ?_
 unfold Tryz.S44
 refine (St.nil H).alcE fun b2 H1 he1 hs1 => hs1.alcE fun b4 H2 he2 hs2 => ?_
 refine ⟨_, _, _, hs2.get 1 rfl rfl, _, _, _, hs2.get 1 rfl rfl, _, _, _, hs2.get 1 rfl rfl, ?_⟩
 refine c81 (hP.ext hs2.ext) o1 fun P' H3 hp3 => ⟨_, _, _, rfl, .inl hp3.ext, ?_⟩
 have hs3 := hs2.callR hp3
 refine c82 (hM.ext hs3.ext) o2 fun M' H4 hp4 => ⟨_, _, _, rfl, .inl hp4.ext, ?_⟩
 have hs4 := hs3.callR hp4
 refine c81 (hA.ext hs4.ext) o3 fun A' H5 hp5 => ⟨_, _, _, rfl, ?_⟩
 have hs5 := hs4.callR hp5
 refine hs5.put 1 rfl (j := 7) (Nat.le_of_ble_eq_true rfl) rfl fun H6 hs6 => hs6.put 1 rfl (j := 8) (Nat.le_of_ble_eq_true rfl) rfl fun H7 hs7 => hs7.put 1 rfl (j := 17) (Nat.le_of_ble_eq_true rfl) rfl fun H8 hs8 => ?_
 refine ⟨_, _, _, hs8.get 1 rfl (j := 18) rfl, ?_⟩
 refine all_of ih (K := K) (grp.ext ⟨hK, hks⟩ hs8.ext) o5 (by rw [layKs_len] at o4; exact o4) fun K' ks' H9 hlay hp9 => ⟨_, _, _, rfl, ?_⟩
 have hs9 := hs8.callR hp9
 refine hs9.put 1 rfl (j := 18) (Nat.le_of_ble_eq_true rfl) rfl fun H10 hs10 => ?_
 refine ⟨_, ?_, rowIn_whole (hs10.block 1 rfl), ?_, ?_⟩
 ·rfl
 ·rfl
 refine hs10.putAll 0 rfl rfl (cellsL_one f P' M' A' K') fun H11 hs11 => ⟨_, rfl, rowIn_whole (hs11.block 0 rfl), ?_⟩
 refine hR (.mk f P' M' A' K' ks') H11 (by rw [layT, layT, hlay]) ?_
 rw [resT_mk]
 exact hs11.drop 2
theorem c31 {K : Sl3} {ks : List T} (hg : grp H K ks) (ho : okKs (layKs ks)) (hl : ks.length ≤ 1000000000) (hR : ∀ (K' : Sl3) ks' H', layKs ks' = layKs ks → St H H' (resG K' ks') → R K'.v H') :
 CallsH Tryz.prog 31 #[K.v] H R := all_of (fun t _ => c44 t) hg ho hl hR
end Go.Proofs
namespace Go.Proofs
open Go.Sh
variable {H0 H : Heap} {R : Value → Heap → Prop}
theorem cellsT_0 (t : T) : (cellsT t).toArray[0]? = some (.int .i64 t.f.id) := by cases t; rfl
theorem cellsT_18 (t : T) : (cellsT t).toArray[18]? = some (.slice t.K.p t.K.l t.K.c) := by cases t; rfl
def CntOk (t : T) : Prop := ∀ {H : Heap} {R : Value → Heap → Prop}, rdT H t → cntKs (layKs t.kids) ≤ 1000000000000 → (∀ H', Ext H H' → R (.int .i64 (cntKs (layKs t.kids))) H') → CallsH Tryz.prog 71 #[t.K.v] H R
theorem take_succ {α : Type} {l : List α} {k : Nat} {x : α} (h : l[k]? = some x) : l.take (k + 1) = l.take k ++ [x] := by rw [List.take_add_one, h]; rfl
theorem layKs_get {ks : List T} {k : Nat} {t : T} (h : ks[k]? = some t) : (layKs ks)[k]? = some (layT t) := by rw [layKs_map, List.getElem?_map, h]; rfl
theorem cntL_T (t : T) : cntL (layT t) = 1 + cntKs (layKs t.kids) := by cases t; rfl
theorem depL_T (t : T) : depL (layT t) = 1 + depKs (layKs t.kids) := by cases t; rfl
theorem cnt_take (ts : List Lay) (k : Nat) : cntKs (ts.take k) ≤ cntKs ts := by
 have := cntKs_app (ts.take k) (ts.drop k)
 rw [List.take_append_drop] at this; omega
theorem cnt_of {ks : List T} (ih : ∀ t ∈ ks, CntOk t) {K : Sl3} (hg : grp H K ks) (ho : cntKs (layKs ks) ≤ 1000000000000) (hR : ∀ H', Ext H H' → R (.int .i64 (cntKs (layKs ks))) H') :
    CallsH Tryz.prog 71 #[K.v] H R := by
  show CallsH Tryz.prog 71 #[.slice K.p K.l K.c] H R
  refine Tryz.s71 ?_
  unfold Tryz.S71
  intro X hX
  have hKl := hg.1.1
  have hlc := len_cnt (layKs ks)
  rw [layKs_len] at hlc
  have go : ∀ k, k ≤ ks.length → ∀ (n : Int) H1, n + k = ks.length + cntKs ((layKs ks).take k) → Ext H H1 → X [.int .i64 n, .int .i64 k] H1 := by
    refine upto fun k hk ihk n H1 hn he => hX _ _ _ (br_dec (fun hlt => ?_) fun hge => ?_)
    · have hk' : k < ks.length := by omega
      have ht := List.getElem?_eq_getElem hk'
      have htm := List.getElem_mem hk'
      generalize ks[k] = t at ht htm
      obtain ⟨a, h1, h2, h3⟩ := (hg.ext he).get ht
      have hcm := cnt_mem (List.mem_of_getElem? (layKs_get ht))
      rw [cntL_T] at hcm
      refine ⟨a, h1, by omega, hlt, (cellsT t).toArray, by simp [cellsT_len], h2, (St.nil H1).alc fun b8 H9 hs9 => ⟨by simp [cellsT_len], hs9.putAll 0 rfl (by simp [cellsT_len]) (by simpa using cellsT_one _) fun H10 hs10 => ?_⟩⟩
      refine ⟨_, _, _, hs10.get 0 rfl (j := 18) (cellsT_18 t), ?_⟩
      refine ih t htm (rdT.ext (he.trans hs10.ext) _ (rdKs_iff.1 hg.2 _ htm)) (by omega) fun H13 he13 => ⟨_, rfl, ?_⟩
      have hts := cntKs_app ((layKs ks).take k) [layT t]
      rw [← take_succ (layKs_get ht), cntKs, cntKs, Nat.add_zero, cntL_T] at hts
      have hle := cnt_take (layKs ks) (k + 1)
      rw [wrap_id (n := n + _) (by omega) (by omega), wrap_id (n := (k : Int) + 1) (by omega) (by omega)]
      exact ihk hk' _ _ (by omega) (he.trans (hs10.ext.trans he13))
    · have : k = ks.length := by omega
      subst this
      rw [List.take_of_length_le (by rw [layKs_len]; exact Nat.le_refl _)] at hn
      have : n = cntKs (layKs ks) := by omega
      subst this
      exact hR H1 he
  have h0 := go 0 (by omega) ks.length H (by simp [cntKs]) (Ext.refl H)
  rw [← hKl] at h0
  exact h0
theorem cnt_all : ∀ t, CntOk t := T.ind fun f P M A K ks ih => fun {H R} hr ho hR => cnt_of ih (rdT.grp hr) ho hR
theorem c71 {K : Sl3} {ks : List T} (hg : grp H K ks) (ho : cntKs (layKs ks) ≤ 1000000000000) (hR : ∀ H', Ext H H' → R (.int .i64 (cntKs (layKs ks))) H') :
 CallsH Tryz.prog 71 #[K.v] H R := cnt_of (fun t _ => cnt_all t) hg ho hR
def DepOk (t : T) : Prop := ∀ {H : Heap} {R : Value → Heap → Prop}, rdT H t → cntKs (layKs t.kids) ≤ 1000000000000 → (∀ H', Ext H H' → R (.int .i64 (depKs (layKs t.kids))) H') → CallsH Tryz.prog 42 #[t.K.v] H R
theorem dep_of {ks : List T} (ih : ∀ t ∈ ks, DepOk t) {K : Sl3} (hg : grp H K ks) (ho : cntKs (layKs ks) ≤ 1000000000000) (hR : ∀ H', Ext H H' → R (.int .i64 (depKs (layKs ks))) H') :
    CallsH Tryz.prog 42 #[K.v] H R := by
  show CallsH Tryz.prog 42 #[.slice K.p K.l K.c] H R
  refine Tryz.s42 ?_
  unfold Tryz.S42
  intro X hX
  have hKl := hg.1.1
  have hlc := len_cnt (layKs ks)
  rw [layKs_len] at hlc
  have go : ∀ k, k ≤ ks.length → ∀ H1, Ext H H1 → X [.int .i64 (depKs ((layKs ks).take k)), .int .i64 k] H1 := by
    refine upto fun k hk ihk H1 he => hX _ _ _ (br_dec (fun hlt => ?_) fun hge => ?_)
    · have hk' : k < ks.length := by omega
      have ht := List.getElem?_eq_getElem hk'
      have htm := List.getElem_mem hk'
      generalize ks[k] = t at ht htm
      obtain ⟨a, h1, h2, h3⟩ := (hg.ext he).get ht
      have hcm := cnt_mem (List.mem_of_getElem? (layKs_get ht))
      rw [cntL_T] at hcm
      refine ⟨a, h1, by omega, hlt, (cellsT t).toArray, by simp [cellsT_len], h2, (St.nil H1).alc fun b8 H9 hs9 => ⟨by simp [cellsT_len], hs9.putAll 0 rfl (by simp [cellsT_len]) (by simpa using cellsT_one _) fun H10 hs10 => ?_⟩⟩
      refine ⟨_, _, _, hs10.get 0 rfl (j := 18) (cellsT_18 t), ?_⟩
      refine ih t htm (rdT.ext (he.trans hs10.ext) _ (rdKs_iff.1 hg.2 _ htm)) (by omega) fun H13 he13 => ⟨_, rfl, ?_⟩
      have hts := depKs_app ((layKs ks).take k) [layT t]
      rw [← take_succ (layKs_get ht), depKs, depKs, depL_T] at hts
      have hd := dep_cnt (layKs t.kids)
      rw [wrap_id (n := 1 + _) (by omega) (by omega), wrap_id (n := (k : Int) + 1) (by omega) (by omega)]
      have := ihk hk' _ (he.trans (hs10.ext.trans he13))
      rw [hts] at this
      have e : ((max (depKs ((layKs ks).take k)) (max (1 + depKs (layKs t.kids)) 0) : Nat) : Int) = max (depKs ((layKs ks).take k) : Int) (1 + (depKs (layKs t.kids) : Int)) := by omega
      rw [e] at this
      exact this
    · have : k = ks.length := by omega
      subst this
      rw [List.take_of_length_le (by rw [layKs_len]; exact Nat.le_refl _)]
      exact hR H1 he
  exact go 0 (by omega) H (Ext.refl H)
theorem dep_all : ∀ t, DepOk t := T.ind fun f P M A K ks ih => fun {H R} hr ho hR => dep_of ih (rdT.grp hr) ho hR
theorem c42 {K : Sl3} {ks : List T} (hg : grp H K ks) (ho : cntKs (layKs ks) ≤ 1000000000000) (hR : ∀ H', Ext H H' → R (.int .i64 (depKs (layKs ks))) H') :
 CallsH Tryz.prog 42 #[K.v] H R := dep_of (fun t _ => dep_all t) hg ho hR
def sizedB (w h : Int) : Bool := decide (1 ≤ w ∧ 1 ≤ h ∧ w ≤ 32768 ∧ h ≤ 32768 ∧ w * h ≤ 4194304)
def docA (w h next : Int) (K : Sl3) : Array Value := #[.int .i64 w, .int .i64 h, .int .i64 next, K.v]
theorem wrap_area {w h : Int} (h1 : 1 ≤ w) (h2 : 1 ≤ h) (h3 : w ≤ 32768) (h4 : h ≤ 32768) : IntKind.wrap .i64 (w * h) = w * h := by
 have := mul_bd (x := w) (y := h) (A := 32768) (B := 32768) (by omega) (by omega)
 exact wrap_id (by omega) (by omega)
theorem c21 {w h : Int} (hR1 : sizedB w h = true → ∀ H', Ext H H' → R (.tuple #[.agg (docA w h 1 .nil), .int .i64 0]) H') (hR2 : sizedB w h = false → ∀ H', Ext H H' → R (.tuple #[.agg (docA 0 0 0 .nil), .int .i64 31]) H') :
    CallsH Tryz.prog 21 #[.int .i64 w, .int .i64 h] H R := by
  refine Tryz.s21 ?_
  unfold Tryz.S21
  refine (St.nil H).alc fun b3 H4 hs4 => ?_
  intro J hJ
  have bad : sizedB w h = false → (#[Value.int .i64 0, Value.int .i64 0, Value.int .i64 0, Value.slice none 0 0].size = 4 ∧ stAt H4 ⟨b3, 0, none⟩ (Array.toList #[Value.int .i64 0, Value.int .i64 0, Value.int .i64 0, Value.slice none 0 0]) fun H_9 => ∃ res10 : Array Value, res10.size = 4 ∧ rowIn H_9 ⟨b3, 0, none⟩ res10 ∧ R (Value.tuple #[Value.agg res10, Value.int .i64 (31 : Int)]) H_9) := fun hb =>
    ⟨rfl, hs4.putAll 0 rfl rfl (by simp [Value.oneCell']) fun H5 hs5 => ⟨_, rfl, rowIn_whole (hs5.block 0 rfl), hR2 hb H5 hs5.ext⟩⟩
  refine br_dec (fun c1 => bad ?_) fun c1 => br_dec (fun c2 => bad ?_) fun c2 => br_dec (fun c3 => bad ?_) fun c3 => br_dec (fun c4 => bad ?_) fun c4 => ?_
  · exact decide_eq_false (by omega)
  · exact decide_eq_false (by omega)
  · exact decide_eq_false (by omega)
  · exact decide_eq_false (by omega)
  rw [wrap_area (by omega) (by omega) (by omega) (by omega)]
  refine br_dec (fun c5 => bad ?_) fun c5 => hJ _ ?_
  · exact decide_eq_false (by omega)
  refine ⟨rfl, hs4.putAll 0 rfl rfl (by simp [Value.oneCell']) fun H5 hs5 => ⟨_, rfl, rowIn_whole (hs5.block 0 rfl), hR1 ?_ H5 hs5.ext⟩⟩
  exact decide_eq_true ⟨by omega, by omega, by omega, by omega, by omega⟩
structure Fr where
 hdr : Sl3
 pre : List T
 f : LayF
 P : Sl3
 M : Sl3
 A : Sl3
 post : List T
def Fr.ad (fr : Fr) : Option Addr := fr.hdr.p.map fun a => a.add (fr.pre.length * 19)
abbrev Z := List Fr × Sl3 × List T
mutual
def fzT (up : List Fr) (K : Sl3) (pre post : List T) (id : Int) : T → Option Z
 | .mk f P M A K' ks => if f.id = id then some (⟨K, pre, f, P, M, A, post⟩ :: up, K', ks) else fzK (⟨K, pre, f, P, M, A, post⟩ :: up) K' [] id ks
def fzK (up : List Fr) (K : Sl3) (pre : List T) (id : Int) : List T → Option Z
 | [] => none
 | t :: ts => match fzT up K pre ts id t with
  | some z => some z
  | none => fzK up K (pre ++ [t]) id ts
end
def resZ : Option Z → Option Addr × Option Addr × Int
 | some (fr1 :: fr2 :: _, _, _) => (fr1.ad, fr2.ad, fr1.pre.length)
 | _ => (none, none, 0)
def FindOk (id : Int) (t : T) : Prop := ∀ {H : Heap} {R : Value → Heap → Prop} {fr : Fr} {up : List Fr} {a : Addr}, fr.ad = some a → rowIn H a (cellsT t).toArray → rdT H t → cntKs (layKs t.kids) ≤ 1000000000000 →
 (∀ H', Ext H H' → (∀ z, fzK (fr :: up) t.K [] id t.kids = some z → (resZ (some z)).1 ≠ none) →
  R (.tuple #[.pointer (resZ (fzK (fr :: up) t.K [] id t.kids)).1, .pointer (resZ (fzK (fr :: up) t.K [] id t.kids)).2.1, .int .i64 (resZ (fzK (fr :: up) t.K [] id t.kids)).2.2]) H') → CallsH Tryz.prog 43 #[.pointer (some a), .int .i64 id] H R
theorem c43 {id : Int} : ∀ t, FindOk id t := by
 refine T.ind fun f P M A K ks ih => ?_
 intro H R fr up a hfa hrow hr ho hR
 have hg := rdT.grp hr
 have hKl := hg.1.1
 have hlc := len_cnt (layKs ks)
 rw [layKs_len] at hlc
 simp only [T.K, T.kids] at hg hKl ho hR
 refine Tryz.s43 ?_
 unfold Tryz.S43
 have hcell : ∀ {H1 : Heap}, Ext H H1 → Sh.cell H1 (a.add 18) = some (.slice K.p K.l K.c) := fun he => he.cell (hrow 18 _ rfl)
 refine ⟨a, rfl, _, _, _, hcell (Ext.refl H), ?_⟩
 intro X hX
 have go : ∀ k, k ≤ ks.length → ∀ H1, Ext H H1 → fzK (fr :: up) K [] id ks = fzK (fr :: up) K (ks.take k) id (ks.drop k) → X [.int .i64 k] H1 := by
  refine upto fun k hk ihk H1 he hz => hX _ _ (br_dec (fun hlt => ?_) fun hge => ?_)
  ·have hk' : k < ks.length := by omega
   have ht := List.getElem?_eq_getElem hk'
   have htm := List.getElem_mem hk'
   rw [List.drop_eq_getElem_cons hk'] at hz
   generalize ks[k] = t at ht htm hz
   obtain ⟨b, h1, h2, h3⟩ := (hg.ext he).get ht
   have hcm := cnt_mem (List.mem_of_getElem? (layKs_get ht))
   rw [cntL_T] at hcm
   have hlen : (ks.take k).length = k := by rw [List.length_take]; omega
   refine ⟨a, rfl, _, _, _, hcell he, b, h1, by omega, hlt, _, rfl, t.f.id, h2 0 _ (cellsT_0 t), br_eq (fun hid => ?_) fun hid => ?_⟩
   ·have e : fzK (fr :: up) K [] id ks = some (⟨K, ks.take k, t.f, t.P', t.M', t.A', ks.drop (k + 1)⟩ :: fr :: up, t.K, t.kids) := by
     rw [hz, fzK]
     cases t with | mk f2 P2 M2 A2 K2 ks2 =>
     rw [fzT, if_pos (show f2.id = id from hid)]
     rfl
    have := hR H1 he fun z hz => by rw [e] at hz; cases hz; simp [resZ, Fr.ad, h1]
    rw [e] at this
    simp only [resZ, Fr.ad, h1, hfa, Option.map_some, hlen] at this
    have hfa' := hfa
    unfold Fr.ad at hfa'
    rw [hfa'] at this
    exact this
   ·have e : ∀ (o : Option Z), fzK (⟨K, ks.take k, t.f, t.P', t.M', t.A', ks.drop (k + 1)⟩ :: fr :: up) t.K [] id t.kids = o → fzK (fr :: up) K [] id ks = (match o with | some z => some z | none => fzK (fr :: up) K (ks.take (k + 1)) id (ks.drop (k + 1))) := fun o ho => by
     rw [hz, fzK, take_succ ht, ← ho]
     cases t with | mk f2 P2 M2 A2 K2 ks2 =>
     rw [fzT, if_neg (show ¬ f2.id = id from hid)]
     rfl
    refine ih t htm (fr := ⟨K, ks.take k, t.f, t.P', t.M', t.A', ks.drop (k + 1)⟩) (up := fr :: up) (by unfold Fr.ad; rw [h1, hlen]; rfl) h2 h3 (by omega) fun H2 he2 hne => ?_
    refine ⟨_, _, _, rfl, ?_⟩
    cases hq : fzK (⟨K, ks.take k, t.f, t.P', t.M', t.A', ks.drop (k + 1)⟩ :: fr :: up) t.K [] id t.kids with
    | none =>
     refine br_f rfl ?_
     rw [wrap_id (by omega) (by omega)]
     exact ihk hk' H2 (he.trans he2) (e _ hq)
    | some z =>
     have hs : fzK (fr :: up) K [] id ks = some z := e _ hq
     have hn := hne z hq
     have := hR H2 (he.trans he2) fun z' hz' => by rw [hs] at hz'; cases hz'; exact hn
     rw [hs] at this
     refine br_t ?_ this
     cases h4 : (resZ (some z)).1 with
     | none => exact absurd h4 hn
     | some _ => rfl
  ·have : k = ks.length := by omega
   subst this
   rw [List.drop_of_length_le (Nat.le_refl _), fzK] at hz
   have := hR H1 he fun z hz' => by rw [hz] at hz'; cases hz'
   rw [hz] at this
   exact this
 exact go 0 (by omega) H (Ext.refl H) rfl
end Go.Proofs
