/-
  OWN WORK. Several texts in one: GFunC, GFunD, GFunE, GFunF, GFun, TrB, TrC, TrD, TrE, TrF.
-/
import Derived.Test.YtgmhjfnnhfjgkaaGreatMgHistOwnB
import Derived.Lib.Overlaps

set_option linter.unusedVariables false
set_option maxRecDepth 100000
set_option linter.unusedSimpArgs false
namespace Go.Proofs
open Go.Sh Go.Sh.Plan
open Go.IntKind (wrap)
open Int (toNat)
def Tryz.S35 (d1 e2 : AV) (H : Heap) (R : Kv) : Prop :=
 alc H (.cells d1 33) fun b3 H4 => alc H4 (.cells e2 80) fun b5 H6 => alc H6 (.cells #[.int .i64 0, .int .i64 0, .int .i64 0, .slice none 0 0] 33) fun b7 H8 => ∃ v9, v9.size = 4 ∧ rowIn H8 ⟨b3, 0, none⟩ v9 ∧ ∃ ID10, cell H8 (.add ⟨b5, 0, none⟩ 1) = some (.int .i64 ID10) ∧ Tryz.C 33 #[.agg v9, .int .i64 ID10] H8 fun r11 H12 => ∃ i13, r11 = .int .i64 i13 ∧ br (decide (i13 < 0))
 (∃ v14, v14.size = 4 ∧ rowIn H12 ⟨b3, 0, none⟩ v14 ∧ v14.size = 4 ∧ stAt H12 ⟨b7, 0, none⟩ v14.toList fun H15 => ∃ re16, re16.size = 4 ∧ rowIn H15 ⟨b7, 0, none⟩ re16 ∧ R (.tuple #[.agg re16, .int .i64 40]) H15)
 (∃ v17, v17.size = 4 ∧ rowIn H12 ⟨b3, 0, none⟩ v17 ∧ ∃ To18, cell H12 (.add ⟨b5, 0, none⟩ 2) = some (.int .i64 To18) ∧ Tryz.C 53 #[.agg v17, .int .i64 To18] H12 fun r19 H20 => ∃ f21, r19 = .int .i64 f21 ∧ br (f21 != 0)
 (∃ v22, v22.size = 4 ∧ rowIn H20 ⟨b3, 0, none⟩ v22 ∧ v22.size = 4 ∧ stAt H20 ⟨b7, 0, none⟩ v22.toList fun H23 => ∃ re24, re24.size = 4 ∧ rowIn H23 ⟨b7, 0, none⟩ re24 ∧ R (.tuple #[.agg re24, .int .i64 f21]) H23)
 (∃ v25, v25.size = 4 ∧ rowIn H20 ⟨b3, 0, none⟩ v25 ∧ ∃ To26, cell H20 (.add ⟨b5, 0, none⟩ 2) = some (.int .i64 To26) ∧ ∃ ID27, cell H20 (.add ⟨b5, 0, none⟩ 1) = some (.int .i64 ID27) ∧ Tryz.C 56 #[.agg v25, .int .i64 To26, .int .i64 ID27] H20 fun r28 H29 => ∃ r30, r28 = .bool r30 ∧ br r30
 (∃ v31, v31.size = 4 ∧ rowIn H29 ⟨b3, 0, none⟩ v31 ∧ v31.size = 4 ∧ stAt H29 ⟨b7, 0, none⟩ v31.toList fun H32 => ∃ re33, re33.size = 4 ∧ rowIn H32 ⟨b7, 0, none⟩ re33 ∧ R (.tuple #[.agg re33, .int .i64 42]) H32)
 (∃ L34p L34l L34c, cell H29 (.add ⟨b3, 0, none⟩ 3) = some (.slice L34p L34l L34c) ∧ ∃ a35, L34p = some a35 ∧ 0 ≤ i13 ∧ i13 < (L34l : Int) ∧ ∃ v36, v36.size = 19 ∧ rowIn H29 (.add a35 (toNat i13 * 19)) v36 ∧ alc H29 (.cells #[.int .i64 0, .int .i64 0, .int .i64 0, .bool false, .int .i64 0, .int .i64 0, .int .i64 0, .int .i64 0, .slice none 0 0, .slice none 0 0, .int .i64 0, .int .i64 0, .int .i64 0, .int .i64 0, .int .i64 0, .int .i64 0, .bool false, .int .i64 0, .slice none 0 0] 95) fun b37 H38 => v36.size = 19 ∧ stAt H38 ⟨b37, 0, none⟩ v36.toList fun H39 => ∃ v40, v40.size = 4 ∧ rowIn H39 ⟨b3, 0, none⟩ v40 ∧ ∃ ID41, cell H39 (.add ⟨b5, 0, none⟩ 1) = some (.int .i64 ID41) ∧ Tryz.C 34 #[.agg v40, .int .i64 ID41] H39 fun r42 H43 => ∃ r44p r44l r44c r45p r45l r45c, r42 = .tuple #[.slice r44p r44l r44c, .slice r45p r45l r45c] ∧ ∃ v46, v46.size = 4 ∧ rowIn H43 ⟨b3, 0, none⟩ v46 ∧ alc H43 (.cells #[.int .i64 0, .int .i64 0, .int .i64 0, .slice none 0 0] 33) fun b47 H48 => v46.size = 4 ∧ stAt H48 ⟨b47, 0, none⟩ v46.toList fun H49 => stAt H49 (.add ⟨b47, 0, none⟩ 3) [.slice r44p r44l r44c] fun H50 => ∃ To51, cell H50 (.add ⟨b5, 0, none⟩ 2) = some (.int .i64 To51) ∧ stAt H50 (.add ⟨b37, 0, none⟩ 2) [.int .i64 To51] fun H52 => ∃ v53, v53.size = 4 ∧ rowIn H52 ⟨b47, 0, none⟩ v53 ∧ ∃ v54, v54.size = 19 ∧ rowIn H52 ⟨b37, 0, none⟩ v54 ∧ ∃ At55, cell H52 (.add ⟨b5, 0, none⟩ 3) = some (.int .i64 At55) ∧ Tryz.C 54 #[.agg v53, .agg v54, .int .i64 At55] H52 fun r56 H57 => ∃ r58 r59, r56 = .tuple #[.agg r58, .int .i64 r59] ∧ alc H57 (.cells #[.int .i64 0, .int .i64 0, .int .i64 0, .slice none 0 0] 33) fun b60 H61 => r58.size = 4 ∧ stAt H61 ⟨b60, 0, none⟩ r58.toList fun H62 => br (r59 != 0)
 (∃ v63, v63.size = 4 ∧ rowIn H62 ⟨b3, 0, none⟩ v63 ∧ v63.size = 4 ∧ stAt H62 ⟨b7, 0, none⟩ v63.toList fun H64 => ∃ re65, re65.size = 4 ∧ rowIn H64 ⟨b7, 0, none⟩ re65 ∧ R (.tuple #[.agg re65, .int .i64 r59]) H64)
 (∀ X66 : Kl, (∀ (k67 : Int) H68, (br (decide (k67 < (r45l : Int)))
 (∃ a69, r45p = some a69 ∧ 0 ≤ k67 ∧ k67 < (r45l : Int) ∧ ∃ ID70, cell H68 (.add (.add a69 (toNat k67 * 19)) 0) = some (.int .i64 ID70) ∧ ∃ ID71, cell H68 (.add ⟨b5, 0, none⟩ 1) = some (.int .i64 ID71) ∧ br (ID70 != ID71)
 (∃ L72p L72l L72c, cell H68 (.add ⟨b60, 0, none⟩ 3) = some (.slice L72p L72l L72c) ∧ ∃ a73, r45p = some a73 ∧ 0 ≤ k67 ∧ k67 < (r45l : Int) ∧ ∃ v74, v74.size = 19 ∧ rowIn H68 (.add a73 (toNat k67 * 19)) v74 ∧ v74.size = 19 ∧ 0 + 19 ≤ 19 ∧ alc H68 (.cells (List.toArray (setL [.int .i64 0, .int .i64 0, .int .i64 0, .bool false, .int .i64 0, .int .i64 0, .int .i64 0, .int .i64 0, .slice none 0 0, .slice none 0 0, .int .i64 0, .int .i64 0, .int .i64 0, .int .i64 0, .int .i64 0, .int .i64 0, .bool false, .int .i64 0, .slice none 0 0] 0 v74.toList)) 95) fun b75 H76 => (Ext H68 H76 ∨ (∃ L80p L80l L80c, cell H76 (.add ⟨b60, 0, none⟩ 3) = some (.slice L80p L80l L80c) ∧ Value.slice L80p L80l L80c = .slice L72p L72l L72c)) ∧ appQ 19 200 #[.int .i64 0, .int .i64 0, .int .i64 0, .bool false, .int .i64 0, .int .i64 0, .int .i64 0, .int .i64 0, .slice none 0 0, .slice none 0 0, .int .i64 0, .int .i64 0, .int .i64 0, .int .i64 0, .int .i64 0, .int .i64 0, .bool false, .int .i64 0, .slice none 0 0] H76 L72p L72l L72c (some ⟨b75, 0, none⟩) 1 95 fun ap77p ap77l ap77c H78 => stAt H78 (.add ⟨b60, 0, none⟩ 3) [.slice ap77p ap77l ap77c] fun H79 => X66 [.int .i64 (wrap .i64 (k67 + 1))] H79)
 (X66 [.int .i64 (wrap .i64 (k67 + 1))] H68))
 (∃ v81, v81.size = 4 ∧ rowIn H68 ⟨b60, 0, none⟩ v81 ∧ Tryz.C 57 #[.agg v81] H68 fun r82 H83 => ∃ r84, r82 = .int .i64 r84 ∧ br (decide (r84 > 64))
 (∃ v85, v85.size = 4 ∧ rowIn H83 ⟨b3, 0, none⟩ v85 ∧ v85.size = 4 ∧ stAt H83 ⟨b7, 0, none⟩ v85.toList fun H86 => ∃ re87, re87.size = 4 ∧ rowIn H86 ⟨b7, 0, none⟩ re87 ∧ R (.tuple #[.agg re87, .int .i64 31]) H86)
 (∃ v88, v88.size = 4 ∧ rowIn H83 ⟨b60, 0, none⟩ v88 ∧ v88.size = 4 ∧ stAt H83 ⟨b7, 0, none⟩ v88.toList fun H89 => ∃ re90, re90.size = 4 ∧ rowIn H89 ⟨b7, 0, none⟩ re90 ∧ R (.tuple #[.agg re90, .int .i64 0]) H89))) → X66 [.int .i64 k67] H68) → X66 [.int .i64 0] H62))))
def Tryz.p35 : Plan := (tl (tl (tg (tl (tg (tg (tl (tl (tl (tl (tl (tl (tg (two (tl (one (loop [(14, 3)] [2, 3, 4, 10, 12] (two (tl (tl leaf)) (two (one (tl (tl leaf))) leaf))))) (tg (tl leaf))))))))))))))))
theorem Tryz.s35 {d1 e2 : AV} {H R} (h : Tryz.S35 d1 e2 H R) : Tryz.C 35 #[.agg d1, .agg e2] H R := vcs Tryz.tab_ok Tryz.mixed Tryz.func35 Tryz.cal35 Tryz.p35 h (by kernel_rfl)
def Tryz.S36 (d1 l2 e3 : AV) (H : Heap) (R : Kv) : Prop :=
 alc H (.cells d1 33) fun b4 H5 => alc H5 (.cells l2 95) fun b6 H7 => alc H7 (.cells e3 80) fun b8 H9 => alc H9 (.cells #[.int .i64 0, .int .i64 0, .int .i64 0, .bool false, .int .i64 0, .int .i64 0, .int .i64 0, .int .i64 0, .slice none 0 0, .slice none 0 0, .int .i64 0, .int .i64 0, .int .i64 0, .int .i64 0, .int .i64 0, .int .i64 0, .bool false, .int .i64 0, .slice none 0 0] 95) fun b10 H11 => ∀ J12 : Kl, (∀ H13, (∃ v14, v14.size = 19 ∧ rowIn H13 ⟨b6, 0, none⟩ v14 ∧ v14.size = 19 ∧ stAt H13 ⟨b10, 0, none⟩ v14.toList fun H15 => ∃ re16, re16.size = 19 ∧ rowIn H15 ⟨b10, 0, none⟩ re16 ∧ R (.tuple #[.agg re16, .int .i64 0]) H15) → J12 [] H13) →
 ∃ Ki17, cell H11 (.add ⟨b8, 0, none⟩ 0) = some (.int .i64 Ki17) ∧ br (Ki17 == 4)
 (∃ v18, v18.size = 4 ∧ rowIn H11 ⟨b4, 0, none⟩ v18 ∧ ∃ v19, v19.size = 19 ∧ rowIn H11 ⟨b6, 0, none⟩ v19 ∧ ∃ v20, v20.size = 19 ∧ rowIn H11 ⟨b8, 0, none⟩ v20 ∧ Tryz.C 58 #[.agg v18, .agg v19, .agg v20] H11 fun r21 H22 => ∃ r23 r24, r21 = .tuple #[.agg r23, .int .i64 r24] ∧ r23.size = 19 ∧ stAt H22 ⟨b10, 0, none⟩ r23.toList fun H25 => ∃ re26, re26.size = 19 ∧ rowIn H25 ⟨b10, 0, none⟩ re26 ∧ R (.tuple #[.agg re26, .int .i64 r24]) H25)
 (br (Ki17 == 5)
 (∀ J27 : Kl, (∀ H28, (∀ J29 : Kl, (∀ H30, (∃ N31, cell H30 (.add ⟨b8, 0, none⟩ 4) = some (.int .i64 N31) ∧ stAt H30 (.add ⟨b6, 0, none⟩ 4) [.int .i64 N31] fun H32 => ∃ M33, cell H32 (.add ⟨b8, 0, none⟩ 5) = some (.int .i64 M33) ∧ stAt H32 (.add ⟨b6, 0, none⟩ 5) [.int .i64 M33] fun H34 => J12 [] H34) → J29 [] H30) →
 ∃ Ki35, cell H28 (.add ⟨b6, 0, none⟩ 1) = some (.int .i64 Ki35) ∧ br (Ki35 == 2) (∃ M36, cell H28 (.add ⟨b8, 0, none⟩ 5) = some (.int .i64 M36) ∧ br (M36 != 0)
 (∃ v37, v37.size = 19 ∧ rowIn H28 ⟨b6, 0, none⟩ v37 ∧ v37.size = 19 ∧ stAt H28 ⟨b10, 0, none⟩ v37.toList fun H38 => ∃ re39, re39.size = 19 ∧ rowIn H38 ⟨b10, 0, none⟩ re39 ∧ R (.tuple #[.agg re39, .int .i64 41]) H38)
 (J29 [] H28)) (J29 [] H28)) → J27 [] H28) →
 ∃ N40, cell H11 (.add ⟨b8, 0, none⟩ 4) = some (.int .i64 N40) ∧ br (decide (N40 < 0)) (∃ v41, v41.size = 19 ∧ rowIn H11 ⟨b6, 0, none⟩ v41 ∧ v41.size = 19 ∧ stAt H11 ⟨b10, 0, none⟩ v41.toList fun H42 => ∃ re43, re43.size = 19 ∧ rowIn H42 ⟨b10, 0, none⟩ re43 ∧ R (.tuple #[.agg re43, .int .i64 32]) H42) (∃ N44, cell H11 (.add ⟨b8, 0, none⟩ 4) = some (.int .i64 N44) ∧ br (decide (N44 > 255)) (∃ v45, v45.size = 19 ∧ rowIn H11 ⟨b6, 0, none⟩ v45 ∧ v45.size = 19 ∧ stAt H11 ⟨b10, 0, none⟩ v45.toList fun H46 => ∃ re47, re47.size = 19 ∧ rowIn H46 ⟨b10, 0, none⟩ re47 ∧ R (.tuple #[.agg re47, .int .i64 32]) H46) (∃ M48, cell H11 (.add ⟨b8, 0, none⟩ 5) = some (.int .i64 M48) ∧ br (decide (M48 < 0)) (∃ v49, v49.size = 19 ∧ rowIn H11 ⟨b6, 0, none⟩ v49 ∧ v49.size = 19 ∧ stAt H11 ⟨b10, 0, none⟩ v49.toList fun H50 => ∃ re51, re51.size = 19 ∧ rowIn H50 ⟨b10, 0, none⟩ re51 ∧ R (.tuple #[.agg re51, .int .i64 32]) H50) (∃ M52, cell H11 (.add ⟨b8, 0, none⟩ 5) = some (.int .i64 M52) ∧ br (decide (M52 > 11))
 (∃ v53, v53.size = 19 ∧ rowIn H11 ⟨b6, 0, none⟩ v53 ∧ v53.size = 19 ∧ stAt H11 ⟨b10, 0, none⟩ v53.toList fun H54 => ∃ re55, re55.size = 19 ∧ rowIn H54 ⟨b10, 0, none⟩ re55 ∧ R (.tuple #[.agg re55, .int .i64 32]) H54)
 (J27 [] H11)))))
 (br (Ki17 == 6)
 (∀ J56 : Kl, (∀ H57, (∃ N58, cell H57 (.add ⟨b8, 0, none⟩ 4) = some (.int .i64 N58) ∧ stAt H57 (.add ⟨b6, 0, none⟩ 3) [.bool (N58 == 1)] fun H59 => J12 [] H59) → J56 [] H57) →
 ∃ N60, cell H11 (.add ⟨b8, 0, none⟩ 4) = some (.int .i64 N60) ∧ br (N60 != 0) (∃ N61, cell H11 (.add ⟨b8, 0, none⟩ 4) = some (.int .i64 N61) ∧ br (N61 != 1)
 (∃ v62, v62.size = 19 ∧ rowIn H11 ⟨b6, 0, none⟩ v62 ∧ v62.size = 19 ∧ stAt H11 ⟨b10, 0, none⟩ v62.toList fun H63 => ∃ re64, re64.size = 19 ∧ rowIn H63 ⟨b10, 0, none⟩ re64 ∧ R (.tuple #[.agg re64, .int .i64 32]) H63)
 (J56 [] H11)) (J56 [] H11))
 (br (Ki17 == 7)
 (∃ v65, v65.size = 4 ∧ rowIn H11 ⟨b4, 0, none⟩ v65 ∧ ∃ v66, v66.size = 19 ∧ rowIn H11 ⟨b6, 0, none⟩ v66 ∧ ∃ v67, v67.size = 19 ∧ rowIn H11 ⟨b8, 0, none⟩ v67 ∧ Tryz.C 59 #[.agg v65, .agg v66, .agg v67] H11 fun r68 H69 => ∃ r70 r71, r68 = .tuple #[.agg r70, .int .i64 r71] ∧ r70.size = 19 ∧ stAt H69 ⟨b10, 0, none⟩ r70.toList fun H72 => ∃ re73, re73.size = 19 ∧ rowIn H72 ⟨b10, 0, none⟩ re73 ∧ R (.tuple #[.agg re73, .int .i64 r71]) H72)
 (br (Ki17 == 8)
 (∃ Ki74, cell H11 (.add ⟨b6, 0, none⟩ 1) = some (.int .i64 Ki74) ∧ br (Ki74 != 0)
 (∃ v75, v75.size = 19 ∧ rowIn H11 ⟨b6, 0, none⟩ v75 ∧ v75.size = 19 ∧ stAt H11 ⟨b10, 0, none⟩ v75.toList fun H76 => ∃ re77, re77.size = 19 ∧ rowIn H76 ⟨b10, 0, none⟩ re77 ∧ R (.tuple #[.agg re77, .int .i64 41]) H76)
 (∀ J78 : Kl, (∀ H79, (∃ Ma80, Ma80.size = 6 ∧ rowIn H79 (.add ⟨b8, 0, none⟩ 12) Ma80 ∧ Tryz.C 60 #[.agg Ma80] H79 fun r81 H82 => ∃ r83 r84, r81 = .tuple #[.agg r83, .int .i64 r84] ∧ alc H82 (.cells #[.int .i64 0, .int .i64 0, .int .i64 0, .int .i64 0, .int .i64 0, .int .i64 0] 78) fun b85 H86 => r83.size = 6 ∧ stAt H86 ⟨b85, 0, none⟩ r83.toList fun H87 => br (r84 != 0)
 (∃ v88, v88.size = 19 ∧ rowIn H87 ⟨b6, 0, none⟩ v88 ∧ v88.size = 19 ∧ stAt H87 ⟨b10, 0, none⟩ v88.toList fun H89 => ∃ re90, re90.size = 19 ∧ rowIn H89 ⟨b10, 0, none⟩ re90 ∧ R (.tuple #[.agg re90, .int .i64 r84]) H89)
 (∃ Ma91, Ma91.size = 6 ∧ rowIn H87 (.add ⟨b8, 0, none⟩ 12) Ma91 ∧ Ma91.size = 6 ∧ stAt H87 (.add ⟨b6, 0, none⟩ 10) Ma91.toList fun H92 => ∃ N93, cell H92 (.add ⟨b8, 0, none⟩ 4) = some (.int .i64 N93) ∧ stAt H92 (.add ⟨b6, 0, none⟩ 16) [.bool (N93 == 1)] fun H94 => J12 [] H94)) → J78 [] H79) →
 ∃ N95, cell H11 (.add ⟨b8, 0, none⟩ 4) = some (.int .i64 N95) ∧ br (N95 != 0) (∃ N96, cell H11 (.add ⟨b8, 0, none⟩ 4) = some (.int .i64 N96) ∧ br (N96 != 1)
 (∃ v97, v97.size = 19 ∧ rowIn H11 ⟨b6, 0, none⟩ v97 ∧ v97.size = 19 ∧ stAt H11 ⟨b10, 0, none⟩ v97.toList fun H98 => ∃ re99, re99.size = 19 ∧ rowIn H98 ⟨b10, 0, none⟩ re99 ∧ R (.tuple #[.agg re99, .int .i64 32]) H98)
 (J78 [] H11)) (J78 [] H11)))
 (br (Ki17 == 9)
 (∃ Ki100, cell H11 (.add ⟨b6, 0, none⟩ 1) = some (.int .i64 Ki100) ∧ br (Ki100 != 2)
 (∃ v101, v101.size = 19 ∧ rowIn H11 ⟨b6, 0, none⟩ v101 ∧ v101.size = 19 ∧ stAt H11 ⟨b10, 0, none⟩ v101.toList fun H102 => ∃ re103, re103.size = 19 ∧ rowIn H102 ⟨b10, 0, none⟩ re103 ∧ R (.tuple #[.agg re103, .int .i64 41]) H102)
 (∃ N104, cell H11 (.add ⟨b8, 0, none⟩ 4) = some (.int .i64 N104) ∧ ∃ Pa105p Pa105l Pa105c, cell H11 (.add ⟨b8, 0, none⟩ 18) = some (.slice Pa105p Pa105l Pa105c) ∧ Tryz.C 61 #[.int .i64 N104, .slice Pa105p Pa105l Pa105c] H11 fun r106 H107 => ∃ r108p r108l r108c r109, r106 = .tuple #[.slice r108p r108l r108c, .bool r109] ∧ br (!r109)
 (∃ v110, v110.size = 19 ∧ rowIn H107 ⟨b6, 0, none⟩ v110 ∧ v110.size = 19 ∧ stAt H107 ⟨b10, 0, none⟩ v110.toList fun H111 => ∃ re112, re112.size = 19 ∧ rowIn H111 ⟨b10, 0, none⟩ re112 ∧ R (.tuple #[.agg re112, .int .i64 32]) H111)
 (∃ N113, cell H107 (.add ⟨b8, 0, none⟩ 4) = some (.int .i64 N113) ∧ stAt H107 (.add ⟨b6, 0, none⟩ 17) [.int .i64 N113] fun H114 => alc H114 (.cells #[] 3) fun b115 H116 => ∃ Pa117p Pa117l Pa117c, cell H116 (.add ⟨b8, 0, none⟩ 18) = some (.slice Pa117p Pa117l Pa117c) ∧ appQ 1 8 #[.int .i64 0] H116 (some ⟨b115, 0, none⟩) 0 0 Pa117p Pa117l 3 fun ap118p ap118l ap118c H119 => stAt H119 (.add ⟨b6, 0, none⟩ 18) [.slice ap118p ap118l ap118c] fun H120 => J12 [] H120)))
 (J12 [] H11))))))
def Tryz.p36 : Plan := (tl (two (join [] [4, 6] (tl (one (tl (two (tl leaf) (tl (two (two (join [] [4, 5, 6] g0) (two (join [] [4, 5, 6] g0) (tl leaf))) (tl (two (two (join [] [4, 5, 6] g0) leaf) (tl (two (tl leaf) (tl (two (tg (two (join [] [4, 5, 6] g0) (tl (tg (tl leaf))))) (tl (two (tg (tl (tg (tl leaf)))) leaf))))))))))))))) (tl leaf)))
theorem Tryz.s36 {d1 l2 e3 : AV} {H R} (h : Tryz.S36 d1 l2 e3 H R) : Tryz.C 36 #[.agg d1, .agg l2, .agg e3] H R := vcs Tryz.tab_ok Tryz.mixed Tryz.func36 Tryz.cal36 Tryz.p36 h (by kernel_rfl)
def Tryz.S37 (li1p : OA) (li1l li1c : Nat) (H : Heap) (R : Kv) : Prop :=
 ∀ X2 : Kl, (∀ (ou3p : OA) (ou3l ou3c : Nat) (t4 : Int) H5, (br (decide (t4 < (li1l : Int)))
 (∃ a6, li1p = some a6 ∧ 0 ≤ t4 ∧ t4 < (li1l : Int) ∧ ∃ v7, v7.size = 19 ∧ rowIn H5 (.add a6 (toNat t4 * 19)) v7 ∧ alc H5 (.cells #[.int .i64 0, .int .i64 0, .bool false, .int .i64 0, .int .i64 0, .int .i64 0, .int .i64 0, .slice none 0 0, .slice none 0 0, .int .i64 0, .int .i64 0, .int .i64 0, .int .i64 0, .int .i64 0, .int .i64 0, .bool false, .int .i64 0, .slice none 0 0, .slice none 0 0] 61) fun b8 H9 => v7.size = 19 ∧ stAt H9 ⟨b8, 0, none⟩ v7.toList fun H10 => ∃ v11, v11.size = 19 ∧ rowIn H10 ⟨b8, 0, none⟩ v11 ∧ Tryz.C 52 #[.agg v11] H10 fun r12 H13 => ∃ r14, r12 = .agg r14 ∧ r14.size = 19 ∧ 0 + 19 ≤ 19 ∧ alc H13 (.cells (List.toArray (setL [.int .i64 0, .int .i64 0, .bool false, .int .i64 0, .int .i64 0, .int .i64 0, .int .i64 0, .slice none 0 0, .slice none 0 0, .int .i64 0, .int .i64 0, .int .i64 0, .int .i64 0, .int .i64 0, .int .i64 0, .bool false, .int .i64 0, .slice none 0 0, .slice none 0 0] 0 r14.toList)) 61) fun b15 H16 => appQ 19 216 #[.int .i64 0, .int .i64 0, .bool false, .int .i64 0, .int .i64 0, .int .i64 0, .int .i64 0, .slice none 0 0, .slice none 0 0, .int .i64 0, .int .i64 0, .int .i64 0, .int .i64 0, .int .i64 0, .int .i64 0, .bool false, .int .i64 0, .slice none 0 0, .slice none 0 0] H16 ou3p ou3l ou3c (some ⟨b15, 0, none⟩) 1 61 fun ou17p ou17l ou17c H18 => X2 [.slice ou17p ou17l ou17c, .int .i64 (wrap .i64 (t4 + 1))] H18)
 (R (.slice ou3p ou3l ou3c) H5)) → X2 [.slice ou3p ou3l ou3c, .int .i64 t4] H5) → X2 [.slice none 0 0, .int .i64 0] H
def Tryz.p37 : Plan := (tl (tl (two (tl (one (loop [(3, 25), (8, 3)] [6, 7] (tl (two (tl leaf) (two (one (tl leaf)) leaf)))))) (tl leaf))))
theorem Tryz.s37 {li1p : OA} {li1l li1c : Nat} {H R} (h : Tryz.S37 li1p li1l li1c H R) : Tryz.C 37 #[.slice li1p li1l li1c] H R := vcs Tryz.tab_ok Tryz.mixed Tryz.func37 Tryz.cal37 Tryz.p37 h (by kernel_rfl)
def Tryz.S38 (d1 : OA) (H : Heap) (R : Kv) : Prop :=
 ∃ a2, d1 = some a2 ∧ ∃ Ki3p Ki3l Ki3c, cell H (.add a2 3) = some (.slice Ki3p Ki3l Ki3c) ∧ alc H (.cells #[.int .i64 0, .int .i64 1, .bool false, .int .i64 0, .int .i64 0, .int .i64 0, .int .i64 0, .slice none 0 0, .slice none 0 0, .int .i64 0, .int .i64 0, .int .i64 0, .int .i64 0, .int .i64 0, .int .i64 0, .bool false, .int .i64 0, .slice none 0 0, .slice Ki3p Ki3l Ki3c] 61) fun b4 H5 => R (.pointer (some ⟨b4, 0, none⟩)) H5
def Tryz.p38 : Plan := (tl (tl leaf))
theorem Tryz.s38 {d1 : OA} {H R} (h : Tryz.S38 d1 H R) : Tryz.C 38 #[.pointer d1] H R := vcs Tryz.tab_ok Tryz.mixed Tryz.func38 Tryz.cal38 Tryz.p38 h (by kernel_rfl)
def Tryz.S39 (w1 : AV) (H : Heap) (R : Kv) : Prop :=
 alc H (.cells w1 106) fun b2 H3 => ∀ J4 : Kl, (∀ (l5 : Addr) H6, (∀ J7 : Kl, (∀ H8, (∀ J9 : Kl, (∀ H10, (∃ v11, v11.size = 21 ∧ rowIn H10 ⟨b2, 0, none⟩ v11 ∧ Tryz.C 63 #[.agg v11] H10 fun r12 H13 => ∃ r14 r15, r12 = .tuple #[.pointer r14, .int .i64 r15] ∧ br (r15 != 0)
 (R (.int .i64 r15) H13)
 (∃ ro16, cell H13 (.add ⟨b2, 0, none⟩ 0) = some (.pointer ro16) ∧ ∃ a17, ro16 = some a17 ∧ ∃ Ki18p Ki18l Ki18c, cell H13 (.add a17 18) = some (.slice Ki18p Ki18l Ki18c) ∧ Tryz.C 30 #[.slice Ki18p Ki18l Ki18c] H13 fun r19 H20 => ∃ n21, r19 = .int .i64 n21 ∧ ∃ v22, v22.size = 21 ∧ rowIn H20 ⟨b2, 0, none⟩ v22 ∧ ∃ v23, v23.size = 19 ∧ rowIn H20 l5 v23 ∧ Tryz.C 64 #[.agg v22, .pointer r14, .agg v23] H20 fun r24 H25 => ∃ e26, r24 = .int .i64 e26 ∧ br (e26 != 0)
 (R (.int .i64 e26) H25)
 (br (decide (n21 ≥ 4096))
 (R (.int .i64 31) H25)
 (∃ d27, cell H25 (.add ⟨b2, 0, none⟩ 1) = some (.pointer d27) ∧ ∃ a28, d27 = some a28 ∧ ∃ Ne29, cell H25 (.add a28 2) = some (.int .i64 Ne29) ∧ ∃ a30, d27 = some a30 ∧ stAt H25 (.add a30 2) [.int .i64 (wrap .i64 (Ne29 + 1))] fun H31 => R (.int .i64 0) H31)))) → J9 [] H10) →
 ∃ Ki32, cell H8 (.add l5 1) = some (.int .i64 Ki32) ∧ br (Ki32 == 0)
 (∃ W33, cell H8 (.add (.add ⟨b2, 0, none⟩ 2) 8) = some (.int .i64 W33) ∧ ∃ H34, cell H8 (.add (.add ⟨b2, 0, none⟩ 2) 9) = some (.int .i64 H34) ∧ Tryz.C 7 #[.int .i64 W33, .int .i64 H34] H8 fun r35 H36 => ∃ r37 r38, r35 = .tuple #[.agg r37, .int .i64 r38] ∧ alc H36 (.cells #[.int .i64 0, .int .i64 0, .int .i64 0, .slice none 0 0] 27) fun b39 H40 => r37.size = 4 ∧ stAt H40 ⟨b39, 0, none⟩ r37.toList fun H41 => br (r38 != 0)
 (R (.int .i64 r38) H41)
 (∃ W42, cell H41 (.add ⟨b39, 0, none⟩ 0) = some (.int .i64 W42) ∧ ∃ H43, cell H41 (.add ⟨b39, 0, none⟩ 1) = some (.int .i64 H43) ∧ ∃ W44, cell H41 (.add ⟨b39, 0, none⟩ 0) = some (.int .i64 W44) ∧ ∃ H45, cell H41 (.add ⟨b39, 0, none⟩ 1) = some (.int .i64 H45) ∧ (0 ≤ (wrap .i64 (W44 * H45)) ∧ (wrap .i64 (W44 * H45)) ≤ (wrap .i64 (W44 * H45)) ∧ ((8 : Nat) : Int) * (wrap .i64 (W44 * H45)) ≤ 281474976710656 ∧ (wrap .i64 (W44 * H45)) ≤ 281474976710656 ∧ alc H41 (.cells (List.toArray (reps (toNat (wrap .i64 (W44 * H45))) (Array.toList #[.int .i64 0]))) 3) fun b46 H47 => (Ext H41 H47 ∨ (∃ H52, cell H47 (.add ⟨b39, 0, none⟩ 1) = some (.int .i64 H52) ∧ Value.int .i64 H52 = .int .i64 H43) ∧ (∃ W53, cell H47 (.add ⟨b39, 0, none⟩ 0) = some (.int .i64 W53) ∧ Value.int .i64 W53 = .int .i64 W42)) ∧ stAt H47 (.add l5 5) [.int .i64 W42] fun H48 => (Ext H47 H48 ∨ (∃ H51, cell H48 (.add ⟨b39, 0, none⟩ 1) = some (.int .i64 H51) ∧ Value.int .i64 H51 = .int .i64 H43)) ∧ stAt H48 (.add l5 6) [.int .i64 H43] fun H49 => stAt H49 (.add l5 7) [.slice (some ⟨b46, 0, none⟩) (toNat (wrap .i64 (W44 * H45))) (toNat (wrap .i64 (W44 * H45)))] fun H50 => J9 [] H50) ∧ (stAt H41 (.add l5 5) [.int .i64 W42] fun H54 => (Ext H41 H54 ∨ (∃ H66, cell H54 (.add ⟨b39, 0, none⟩ 1) = some (.int .i64 H66) ∧ Value.int .i64 H66 = .int .i64 H45) ∧ (∃ W67, cell H54 (.add ⟨b39, 0, none⟩ 0) = some (.int .i64 W67) ∧ Value.int .i64 W67 = .int .i64 W44) ∧ (∃ H68, cell H54 (.add ⟨b39, 0, none⟩ 1) = some (.int .i64 H68) ∧ Value.int .i64 H68 = .int .i64 H43)) ∧ (0 ≤ (wrap .i64 (W44 * H45)) ∧ (wrap .i64 (W44 * H45)) ≤ (wrap .i64 (W44 * H45)) ∧ ((8 : Nat) : Int) * (wrap .i64 (W44 * H45)) ≤ 281474976710656 ∧ (wrap .i64 (W44 * H45)) ≤ 281474976710656 ∧ alc H54 (.cells (List.toArray (reps (toNat (wrap .i64 (W44 * H45))) (Array.toList #[.int .i64 0]))) 3) fun b55 H56 => (Ext H54 H56 ∨ (∃ H59, cell H56 (.add ⟨b39, 0, none⟩ 1) = some (.int .i64 H59) ∧ Value.int .i64 H59 = .int .i64 H43)) ∧ stAt H56 (.add l5 6) [.int .i64 H43] fun H57 => stAt H57 (.add l5 7) [.slice (some ⟨b55, 0, none⟩) (toNat (wrap .i64 (W44 * H45))) (toNat (wrap .i64 (W44 * H45)))] fun H58 => J9 [] H58) ∧ (stAt H54 (.add l5 6) [.int .i64 H43] fun H60 => (Ext H54 H60 ∨ (∃ H64, cell H60 (.add ⟨b39, 0, none⟩ 1) = some (.int .i64 H64) ∧ Value.int .i64 H64 = .int .i64 H45) ∧ (∃ W65, cell H60 (.add ⟨b39, 0, none⟩ 0) = some (.int .i64 W65) ∧ Value.int .i64 W65 = .int .i64 W44)) ∧ 0 ≤ (wrap .i64 (W44 * H45)) ∧ (wrap .i64 (W44 * H45)) ≤ (wrap .i64 (W44 * H45)) ∧ ((8 : Nat) : Int) * (wrap .i64 (W44 * H45)) ≤ 281474976710656 ∧ (wrap .i64 (W44 * H45)) ≤ 281474976710656 ∧ alc H60 (.cells (List.toArray (reps (toNat (wrap .i64 (W44 * H45))) (Array.toList #[.int .i64 0]))) 3) fun b61 H62 => stAt H62 (.add l5 7) [.slice (some ⟨b61, 0, none⟩) (toNat (wrap .i64 (W44 * H45))) (toNat (wrap .i64 (W44 * H45)))] fun H63 => J9 [] H63))))
 (J9 [] H8)) → J7 [] H8) →
 ∃ Ki69, cell H6 (.add l5 1) = some (.int .i64 Ki69) ∧ br (decide (Ki69 < 0)) (R (.int .i64 41) H6) (∃ Ki70, cell H6 (.add l5 1) = some (.int .i64 Ki70) ∧ br (decide (Ki70 > 2))
 (R (.int .i64 41) H6)
 (J7 [] H6))) → J4 [.pointer (some l5)] H6) →
 ∃ d71, cell H3 (.add ⟨b2, 0, none⟩ 1) = some (.pointer d71) ∧ ∃ a72, d71 = some a72 ∧ ∃ Ne73, cell H3 (.add a72 2) = some (.int .i64 Ne73) ∧ ∃ N74, cell H3 (.add (.add ⟨b2, 0, none⟩ 2) 4) = some (.int .i64 N74) ∧ (Tryz.C 62 #[] H3 fun r75 H76 => ∃ r77, r75 = .agg r77 ∧ (Ext H3 H76 ∨ (∃ N84, cell H76 (.add (.add ⟨b2, 0, none⟩ 2) 4) = some (.int .i64 N84) ∧ Value.int .i64 N84 = .int .i64 N74) ∧ (∃ Ne85, cell H76 (.add a72 2) = some (.int .i64 Ne85) ∧ Value.int .i64 Ne85 = .int .i64 Ne73) ∧ (∃ d86, cell H76 (.add ⟨b2, 0, none⟩ 1) = some (.pointer d86) ∧ Value.pointer d86 = .pointer d71)) ∧ r77.size = 6 ∧ 9 + 6 ≤ 19 ∧ alc H76 (.cells #[.int .i64 0, .int .i64 0, .bool false, .int .i64 0, .int .i64 0, .int .i64 0, .int .i64 0, .slice none 0 0, .slice none 0 0, .int .i64 0, .int .i64 0, .int .i64 0, .int .i64 0, .int .i64 0, .int .i64 0, .bool false, .int .i64 0, .slice none 0 0, .slice none 0 0] 61) fun b78 H79 => (Ext H76 H79 ∨ (∃ N81, cell H79 (.add (.add ⟨b2, 0, none⟩ 2) 4) = some (.int .i64 N81) ∧ Value.int .i64 N81 = .int .i64 N74) ∧ (∃ Ne82, cell H79 (.add a72 2) = some (.int .i64 Ne82) ∧ Value.int .i64 Ne82 = .int .i64 Ne73) ∧ (∃ d83, cell H79 (.add ⟨b2, 0, none⟩ 1) = some (.pointer d83) ∧ Value.pointer d83 = .pointer d71)) ∧ (List.toArray (List.set (setL [.int .i64 Ne73, .int .i64 N74, .bool false, .int .i64 255, .int .i64 0, .int .i64 0, .int .i64 0, .slice none 0 0, .slice none 0 0, .int .i64 0, .int .i64 0, .int .i64 0, .int .i64 0, .int .i64 0, .int .i64 0, .bool false, .int .i64 0, .slice none 0 0, .slice none 0 0] 9 r77.toList) 16 (.int .i64 2))).size = 19 ∧ stAt H79 ⟨b78, 0, none⟩ (Array.toList (List.toArray (List.set (setL [.int .i64 Ne73, .int .i64 N74, .bool false, .int .i64 255, .int .i64 0, .int .i64 0, .int .i64 0, .slice none 0 0, .slice none 0 0, .int .i64 0, .int .i64 0, .int .i64 0, .int .i64 0, .int .i64 0, .int .i64 0, .bool false, .int .i64 0, .slice none 0 0, .slice none 0 0] 9 r77.toList) 16 (.int .i64 2)))) fun H80 => J4 [.pointer (some ⟨b78, 0, none⟩)] H80) ∧ (alc H3 (.cells #[.int .i64 0, .int .i64 0, .bool false, .int .i64 0, .int .i64 0, .int .i64 0, .int .i64 0, .slice none 0 0, .slice none 0 0, .int .i64 0, .int .i64 0, .int .i64 0, .int .i64 0, .int .i64 0, .int .i64 0, .bool false, .int .i64 0, .slice none 0 0, .slice none 0 0] 61) fun b87 H88 => (Ext H3 H88 ∨ (∃ N96, cell H88 (.add (.add ⟨b2, 0, none⟩ 2) 4) = some (.int .i64 N96) ∧ Value.int .i64 N96 = .int .i64 N74) ∧ (∃ Ne97, cell H88 (.add a72 2) = some (.int .i64 Ne97) ∧ Value.int .i64 Ne97 = .int .i64 Ne73) ∧ (∃ d98, cell H88 (.add ⟨b2, 0, none⟩ 1) = some (.pointer d98) ∧ Value.pointer d98 = .pointer d71)) ∧ Tryz.C 62 #[] H88 fun r89 H90 => ∃ r91, r89 = .agg r91 ∧ (Ext H88 H90 ∨ (∃ N93, cell H90 (.add (.add ⟨b2, 0, none⟩ 2) 4) = some (.int .i64 N93) ∧ Value.int .i64 N93 = .int .i64 N74) ∧ (∃ Ne94, cell H90 (.add a72 2) = some (.int .i64 Ne94) ∧ Value.int .i64 Ne94 = .int .i64 Ne73) ∧ (∃ d95, cell H90 (.add ⟨b2, 0, none⟩ 1) = some (.pointer d95) ∧ Value.pointer d95 = .pointer d71)) ∧ r91.size = 6 ∧ 9 + 6 ≤ 19 ∧ (List.toArray (List.set (setL [.int .i64 Ne73, .int .i64 N74, .bool false, .int .i64 255, .int .i64 0, .int .i64 0, .int .i64 0, .slice none 0 0, .slice none 0 0, .int .i64 0, .int .i64 0, .int .i64 0, .int .i64 0, .int .i64 0, .int .i64 0, .bool false, .int .i64 0, .slice none 0 0, .slice none 0 0] 9 r91.toList) 16 (.int .i64 2))).size = 19 ∧ stAt H90 ⟨b87, 0, none⟩ (Array.toList (List.toArray (List.set (setL [.int .i64 Ne73, .int .i64 N74, .bool false, .int .i64 255, .int .i64 0, .int .i64 0, .int .i64 0, .slice none 0 0, .slice none 0 0, .int .i64 0, .int .i64 0, .int .i64 0, .int .i64 0, .int .i64 0, .int .i64 0, .bool false, .int .i64 0, .slice none 0 0, .slice none 0 0] 9 r91.toList) 16 (.int .i64 2)))) fun H92 => J4 [.pointer (some ⟨b87, 0, none⟩)] H92)
def Tryz.p39 : Plan := (tl (two (join [(3, 999999)] [1] leaf) (two (join [] [1, 3] g0) (two (join [] [1, 3] (tl (two (tl (tg leaf)) leaf))) (tl (tg (tl (two (tl g0) (tg (tl (tl leaf)))))))))))
theorem Tryz.s39 {w1 : AV} {H R} (h : Tryz.S39 w1 H R) : Tryz.C 39 #[.agg w1] H R := vcs Tryz.tab_ok Tryz.mixed Tryz.func39 Tryz.cal39 Tryz.p39 h (by kernel_rfl)
def Tryz.S40 (w1 : AV) (H : Heap) (R : Kv) : Prop :=
 alc H (.cells w1 106) fun b2 H3 => ∃ ro4, cell H3 (.add ⟨b2, 0, none⟩ 0) = some (.pointer ro4) ∧ ∃ ID5, cell H3 (.add (.add ⟨b2, 0, none⟩ 2) 1) = some (.int .i64 ID5) ∧ Tryz.C 51 #[.pointer ro4, .int .i64 ID5] H3 fun r6 H7 => ∃ r8 r9 r10, r6 = .tuple #[.pointer r8, .pointer r9, .int .i64 r10] ∧ br (Option.isNone r8)
 (R (.int .i64 40) H7)
 (∃ a11, r9 = some a11 ∧ ∃ Ki12p Ki12l Ki12c, cell H7 (.add a11 18) = some (.slice Ki12p Ki12l Ki12c) ∧ Tryz.C 65 #[.slice Ki12p Ki12l Ki12c, .int .i64 r10, .int .i64 (wrap .i64 (r10 + 1))] H7 fun r13 H14 => ∃ r15p r15l r15c, r13 = .slice r15p r15l r15c ∧ ∃ a16, r9 = some a16 ∧ stAt H14 (.add a16 18) [.slice r15p r15l r15c] fun H17 => R (.int .i64 0) H17)
def Tryz.p40 : Plan := (tl (tl (tg (tl (tl leaf)))))
theorem Tryz.s40 {w1 : AV} {H R} (h : Tryz.S40 w1 H R) : Tryz.C 40 #[.agg w1] H R := vcs Tryz.tab_ok Tryz.mixed Tryz.func40 Tryz.cal40 Tryz.p40 h (by kernel_rfl)
def Tryz.S41 (w1 : AV) (H : Heap) (R : Kv) : Prop :=
 alc H (.cells w1 106) fun b2 H3 => ∃ ro4, cell H3 (.add ⟨b2, 0, none⟩ 0) = some (.pointer ro4) ∧ ∃ ID5, cell H3 (.add (.add ⟨b2, 0, none⟩ 2) 1) = some (.int .i64 ID5) ∧ Tryz.C 51 #[.pointer ro4, .int .i64 ID5] H3 fun r6 H7 => ∃ r8 r9 r10, r6 = .tuple #[.pointer r8, .pointer r9, .int .i64 r10] ∧ br (Option.isNone r8)
 (R (.int .i64 40) H7)
 (∃ v11, v11.size = 21 ∧ rowIn H7 ⟨b2, 0, none⟩ v11 ∧ Tryz.C 63 #[.agg v11] H7 fun r12 H13 => ∃ r14 r15, r12 = .tuple #[.pointer r14, .int .i64 r15] ∧ br (r15 != 0)
 (R (.int .i64 r15) H13)
 (∀ J16 : Kl, (∀ H17, (∃ a18, r8 = some a18 ∧ ∃ v19, v19.size = 19 ∧ rowIn H17 a18 v19 ∧ alc H17 (.cells #[.int .i64 0, .int .i64 0, .bool false, .int .i64 0, .int .i64 0, .int .i64 0, .int .i64 0, .slice none 0 0, .slice none 0 0, .int .i64 0, .int .i64 0, .int .i64 0, .int .i64 0, .int .i64 0, .int .i64 0, .bool false, .int .i64 0, .slice none 0 0, .slice none 0 0] 61) fun b20 H21 => v19.size = 19 ∧ stAt H21 ⟨b20, 0, none⟩ v19.toList fun H22 => ∃ v23, v23.size = 21 ∧ rowIn H22 ⟨b2, 0, none⟩ v23 ∧ Tryz.C 40 #[.agg v23] H22 fun r24 H25 => ∃ r26, r24 = .int .i64 r26 ∧ ∃ v27, v27.size = 21 ∧ rowIn H25 ⟨b2, 0, none⟩ v27 ∧ Tryz.C 63 #[.agg v27] H25 fun r28 H29 => ∃ r30 r31, r28 = .tuple #[.pointer r30, .int .i64 r31] ∧ br (r31 != 0)
 (R (.int .i64 r31) H29)
 (∃ v32, v32.size = 21 ∧ rowIn H29 ⟨b2, 0, none⟩ v32 ∧ ∃ v33, v33.size = 19 ∧ rowIn H29 ⟨b20, 0, none⟩ v33 ∧ Tryz.C 64 #[.agg v32, .pointer r30, .agg v33] H29 fun r34 H35 => ∃ r36, r34 = .int .i64 r36 ∧ R (.int .i64 r36) H35)) → J16 [] H17) →
 ∃ To37, cell H13 (.add (.add ⟨b2, 0, none⟩ 2) 2) = some (.int .i64 To37) ∧ Tryz.C 51 #[.pointer r8, .int .i64 To37] H13 fun r38 H39 => ∃ r40 r41 r42, r38 = .tuple #[.pointer r40, .pointer r41, .int .i64 r42] ∧ ∃ To43, cell H39 (.add (.add ⟨b2, 0, none⟩ 2) 2) = some (.int .i64 To43) ∧ ∃ ID44, cell H39 (.add (.add ⟨b2, 0, none⟩ 2) 1) = some (.int .i64 ID44) ∧ br (To43 == ID44) (R (.int .i64 42) H39) (br (!(Option.isNone r40))
 (R (.int .i64 42) H39)
 (J16 [] H39))))
def Tryz.p41 : Plan := (tl (tl (tg (tl (tg (two (join [] [1, 3] (tl g0)) (tl (tl (two (tl g0) (tl leaf))))))))))
theorem Tryz.s41 {w1 : AV} {H R} (h : Tryz.S41 w1 H R) : Tryz.C 41 #[.agg w1] H R := vcs Tryz.tab_ok Tryz.mixed Tryz.func41 Tryz.cal41 Tryz.p41 h (by kernel_rfl)
def Tryz.S42 (w1 : AV) (H : Heap) (R : Kv) : Prop :=
 alc H (.cells w1 106) fun b2 H3 => ∃ v4, v4.size = 21 ∧ rowIn H3 ⟨b2, 0, none⟩ v4 ∧ Tryz.C 66 #[.agg v4] H3 fun r5 H6 => ∃ r7 r8, r5 = .tuple #[.pointer r7, .int .i64 r8] ∧ ∀ J9 : Kl, (∀ H10, (∃ P11p P11l P11c, cell H10 (.add (.add ⟨b2, 0, none⟩ 2) 10) = some (.slice P11p P11l P11c) ∧ Tryz.C 67 #[.slice P11p P11l P11c, .func (.func 68) #[] #[]] H10 fun r12 H13 => ∃ r14, r12 = .bool r14 ∧ br r14
 (R (.int .i64 25) H13)
 (∀ J15 : Kl, (∀ H16, (∃ P17p P17l P17c, cell H16 (.add (.add ⟨b2, 0, none⟩ 2) 10) = some (.slice P17p P17l P17c) ∧ ∀ X18 : Kl, (∀ (i19 : Int) H20, (br (decide (i19 < (P17l : Int)))
 (∀ J21 : Kl, (∀ H22, (X18 [.int .i64 (wrap .i64 (i19 + 1))] H22) → J21 [] H22) →
 ∃ a23, P17p = some a23 ∧ 0 ≤ i19 ∧ i19 < (P17l : Int) ∧ ∃ v24, cell H20 (.add a23 (toNat i19 * 1)) = some (.int .i64 v24) ∧ ∃ X25, cell H20 (.add (.add ⟨b2, 0, none⟩ 2) 6) = some (.int .i64 X25) ∧ ∃ W26, cell H20 (.add (.add ⟨b2, 0, none⟩ 2) 8) = some (.int .i64 W26) ∧ W26 ≠ 0 ∧ ∃ Y27, cell H20 (.add (.add ⟨b2, 0, none⟩ 2) 7) = some (.int .i64 Y27) ∧ ∃ W28, cell H20 (.add (.add ⟨b2, 0, none⟩ 2) 8) = some (.int .i64 W28) ∧ W28 ≠ 0 ∧ br (decide (((wrap .i64 (X25 + (Int.tmod i19 W26))) : Int) ≥ 0)) (∃ a29, r7 = some a29 ∧ ∃ W30, cell H20 (.add a29 5) = some (.int .i64 W30) ∧ br (decide (((wrap .i64 (X25 + (Int.tmod i19 W26))) : Int) < W30)) (br (decide (((wrap .i64 (Y27 + (wrap .i64 (Int.tdiv i19 W28)))) : Int) ≥ 0)) (∃ a31, r7 = some a31 ∧ ∃ H32, cell H20 (.add a31 6) = some (.int .i64 H32) ∧ br (decide (((wrap .i64 (Y27 + (wrap .i64 (Int.tdiv i19 W28)))) : Int) < H32))
 (∃ a33, r7 = some a33 ∧ ∃ P34p P34l P34c, cell H20 (.add a33 7) = some (.slice P34p P34l P34c) ∧ ∃ a35, r7 = some a35 ∧ ∃ W36, cell H20 (.add a35 5) = some (.int .i64 W36) ∧ ∃ a37, P34p = some a37 ∧ 0 ≤ (wrap .i64 ((wrap .i64 ((wrap .i64 (Y27 + (wrap .i64 (Int.tdiv i19 W28)))) * W36)) + (wrap .i64 (X25 + (Int.tmod i19 W26))))) ∧ (wrap .i64 ((wrap .i64 ((wrap .i64 (Y27 + (wrap .i64 (Int.tdiv i19 W28)))) * W36)) + (wrap .i64 (X25 + (Int.tmod i19 W26))))) < (P34l : Int) ∧ stAt H20 (.add a37 (toNat (wrap .i64 ((wrap .i64 ((wrap .i64 (Y27 + (wrap .i64 (Int.tdiv i19 W28)))) * W36)) + (wrap .i64 (X25 + (Int.tmod i19 W26))))) * 1)) [.int .i64 v24] fun H38 => J21 [] H38)
 (J21 [] H20)) (J21 [] H20)) (J21 [] H20)) (J21 [] H20))
 (R (.int .i64 0) H20)) → X18 [.int .i64 i19] H20) → X18 [.int .i64 0] H16) → J15 [] H16) →
 ∃ X39, cell H13 (.add (.add ⟨b2, 0, none⟩ 2) 6) = some (.int .i64 X39) ∧ br (decide (X39 < (-32768 : Int))) (R (.int .i64 31) H13) (∃ X40, cell H13 (.add (.add ⟨b2, 0, none⟩ 2) 6) = some (.int .i64 X40) ∧ br (decide (X40 > 32768)) (R (.int .i64 31) H13) (∃ Y41, cell H13 (.add (.add ⟨b2, 0, none⟩ 2) 7) = some (.int .i64 Y41) ∧ br (decide (Y41 < (-32768 : Int))) (R (.int .i64 31) H13) (∃ Y42, cell H13 (.add (.add ⟨b2, 0, none⟩ 2) 7) = some (.int .i64 Y42) ∧ br (decide (Y42 > 32768))
 (R (.int .i64 31) H13)
 (J15 [] H13)))))) → J9 [] H10) →
 br (r8 != 0)
 (R (.int .i64 r8) H6)
 (∃ a43, r7 = some a43 ∧ ∃ Ki44, cell H6 (.add a43 1) = some (.int .i64 Ki44) ∧ br (Ki44 != 0)
 (R (.int .i64 41) H6)
 (∃ W45, cell H6 (.add (.add ⟨b2, 0, none⟩ 2) 8) = some (.int .i64 W45) ∧ br (decide (W45 < 1)) (R (.int .i64 25) H6) (∃ H46, cell H6 (.add (.add ⟨b2, 0, none⟩ 2) 9) = some (.int .i64 H46) ∧ br (decide (H46 < 1)) (R (.int .i64 25) H6) (∃ W47, cell H6 (.add (.add ⟨b2, 0, none⟩ 2) 8) = some (.int .i64 W47) ∧ br (decide (W47 > 32768)) (R (.int .i64 25) H6) (∃ H48, cell H6 (.add (.add ⟨b2, 0, none⟩ 2) 9) = some (.int .i64 H48) ∧ br (decide (H48 > 32768)) (R (.int .i64 25) H6) (∃ P49p P49l P49c, cell H6 (.add (.add ⟨b2, 0, none⟩ 2) 10) = some (.slice P49p P49l P49c) ∧ ∃ W50, cell H6 (.add (.add ⟨b2, 0, none⟩ 2) 8) = some (.int .i64 W50) ∧ ∃ H51, cell H6 (.add (.add ⟨b2, 0, none⟩ 2) 9) = some (.int .i64 H51) ∧ br (((P49l : Int) : Int) != (wrap .i64 (W50 * H51)))
 (R (.int .i64 25) H6)
 (J9 [] H6)))))))
def Tryz.p42 : Plan := (tl (tl (two (join [] [1, 3] (one (tl (two (tl leaf) (tl (two (tl leaf) g0)))))) (tg (two (join [] [1, 3] g0) (two (tl (one (loop [(91, 3)] [1, 3, 89, 90] (tl (two (tl leaf) (two (join [] [1, 3, 89, 90, 91] (one (tl (tl (tl (tl leaf)))))) leaf)))))) (tl leaf)))))))
theorem Tryz.s42 {w1 : AV} {H R} (h : Tryz.S42 w1 H R) : Tryz.C 42 #[.agg w1] H R := vcs Tryz.tab_ok Tryz.mixed Tryz.func42 Tryz.cal42 Tryz.p42 h (by kernel_rfl)
def Tryz.S43 (w1 : AV) (H : Heap) (R : Kv) : Prop :=
 alc H (.cells w1 106) fun b2 H3 => ∃ v4, v4.size = 21 ∧ rowIn H3 ⟨b2, 0, none⟩ v4 ∧ Tryz.C 66 #[.agg v4] H3 fun r5 H6 => ∃ r7 r8, r5 = .tuple #[.pointer r7, .int .i64 r8] ∧ ∀ J9 : Kl, (∀ H10, (∃ N11, cell H10 (.add (.add ⟨b2, 0, none⟩ 2) 4) = some (.int .i64 N11) ∧ ∃ M12, cell H10 (.add (.add ⟨b2, 0, none⟩ 2) 5) = some (.int .i64 M12) ∧ ∃ a13, r7 = some a13 ∧ stAt H10 (.add a13 3) [.int .i64 N11] fun H14 => (Ext H10 H14 ∨ (∃ M17, cell H14 (.add (.add ⟨b2, 0, none⟩ 2) 5) = some (.int .i64 M17) ∧ Value.int .i64 M17 = .int .i64 M12)) ∧ ∃ a15, r7 = some a15 ∧ stAt H14 (.add a15 4) [.int .i64 M12] fun H16 => R (.int .i64 0) H16) → J9 [] H10) →
 br (r8 != 0)
 (R (.int .i64 r8) H6)
 (∃ N18, cell H6 (.add (.add ⟨b2, 0, none⟩ 2) 4) = some (.int .i64 N18) ∧ br (decide (N18 < 0)) (R (.int .i64 32) H6) (∃ N19, cell H6 (.add (.add ⟨b2, 0, none⟩ 2) 4) = some (.int .i64 N19) ∧ br (decide (N19 > 255)) (R (.int .i64 32) H6) (∃ M20, cell H6 (.add (.add ⟨b2, 0, none⟩ 2) 5) = some (.int .i64 M20) ∧ br (decide (M20 < 0)) (R (.int .i64 32) H6) (∃ M21, cell H6 (.add (.add ⟨b2, 0, none⟩ 2) 5) = some (.int .i64 M21) ∧ br (decide (M21 > 11))
 (R (.int .i64 32) H6)
 (∃ a22, r7 = some a22 ∧ ∃ Ki23, cell H6 (.add a22 1) = some (.int .i64 Ki23) ∧ br (Ki23 == 2) (∃ M24, cell H6 (.add (.add ⟨b2, 0, none⟩ 2) 5) = some (.int .i64 M24) ∧ br (M24 != 0)
 (R (.int .i64 41) H6)
 (J9 [] H6)) (J9 [] H6))))))
def Tryz.p43 : Plan := (tl (tl (two (join [] [1, 3] (one (tl (two (tl leaf) (tl (two (tl leaf) g0)))))) (tl (tl leaf)))))
theorem Tryz.s43 {w1 : AV} {H R} (h : Tryz.S43 w1 H R) : Tryz.C 43 #[.agg w1] H R := vcs Tryz.tab_ok Tryz.mixed Tryz.func43 Tryz.cal43 Tryz.p43 h (by kernel_rfl)
def Tryz.S44 (w1 : AV) (H : Heap) (R : Kv) : Prop :=
 alc H (.cells w1 106) fun b2 H3 => ∃ v4, v4.size = 21 ∧ rowIn H3 ⟨b2, 0, none⟩ v4 ∧ Tryz.C 66 #[.agg v4] H3 fun r5 H6 => ∃ r7 r8, r5 = .tuple #[.pointer r7, .int .i64 r8] ∧ ∀ J9 : Kl, (∀ H10, (∃ N11, cell H10 (.add (.add ⟨b2, 0, none⟩ 2) 4) = some (.int .i64 N11) ∧ ∃ a12, r7 = some a12 ∧ stAt H10 (.add a12 2) [.bool (N11 == 1)] fun H13 => R (.int .i64 0) H13) → J9 [] H10) →
 br (r8 != 0)
 (R (.int .i64 r8) H6)
 (∃ N14, cell H6 (.add (.add ⟨b2, 0, none⟩ 2) 4) = some (.int .i64 N14) ∧ br (N14 != 0) (∃ N15, cell H6 (.add (.add ⟨b2, 0, none⟩ 2) 4) = some (.int .i64 N15) ∧ br (N15 != 1)
 (R (.int .i64 32) H6)
 (J9 [] H6)) (J9 [] H6))
def Tryz.p44 : Plan := (tl (tl (two (join [] [1, 3] (one (tl (two (tl leaf) g0)))) (tl (tl leaf)))))
theorem Tryz.s44 {w1 : AV} {H R} (h : Tryz.S44 w1 H R) : Tryz.C 44 #[.agg w1] H R := vcs Tryz.tab_ok Tryz.mixed Tryz.func44 Tryz.cal44 Tryz.p44 h (by kernel_rfl)
def Tryz.S45 (w1 : AV) (H : Heap) (R : Kv) : Prop :=
 alc H (.cells w1 106) fun b2 H3 => ∃ v4, v4.size = 21 ∧ rowIn H3 ⟨b2, 0, none⟩ v4 ∧ Tryz.C 66 #[.agg v4] H3 fun r5 H6 => ∃ r7 r8, r5 = .tuple #[.pointer r7, .int .i64 r8] ∧ ∀ J9 : Kl, (∀ H10, (∃ Sh11p Sh11l Sh11c, cell H10 (.add (.add ⟨b2, 0, none⟩ 2) 11) = some (.slice Sh11p Sh11l Sh11c) ∧ ∃ d12, cell H10 (.add ⟨b2, 0, none⟩ 1) = some (.pointer d12) ∧ ∃ a13, d12 = some a13 ∧ ∃ W14, cell H10 (.add a13 0) = some (.int .i64 W14) ∧ ∃ d15, cell H10 (.add ⟨b2, 0, none⟩ 1) = some (.pointer d15) ∧ ∃ a16, d15 = some a16 ∧ ∃ H17, cell H10 (.add a16 1) = some (.int .i64 H17) ∧ Tryz.C 70 #[.slice Sh11p Sh11l Sh11c, .int .i64 W14, .int .i64 H17] H10 fun r18 H19 => ∃ r20p r20l r20c r21, r18 = .tuple #[.slice r20p r20l r20c, .int .i64 r21] ∧ br (r21 != 0)
 (R (.int .i64 r21) H19)
 (∀ J22 : Kl, (∀ H23, (∃ a24, r7 = some a24 ∧ stAt H23 (.add a24 8) [.slice r20p r20l r20c] fun H25 => R (.int .i64 0) H25) → J22 [] H23) →
 ∃ N26, cell H19 (.add (.add ⟨b2, 0, none⟩ 2) 4) = some (.int .i64 N26) ∧ br (N26 == 1)
 (∀ X27 : Kl, (∀ (i28 : Int) H29, (br (decide (i28 < (r20l : Int)))
 (∃ a30, r20p = some a30 ∧ 0 ≤ i28 ∧ i28 < (r20l : Int) ∧ ∃ v31, cell H29 (.add a30 (toNat i28 * 1)) = some (.int .u8 v31) ∧ ∃ a32, r20p = some a32 ∧ 0 ≤ i28 ∧ i28 < (r20l : Int) ∧ stAt H29 (.add a32 (toNat i28 * 1)) [.int .u8 (wrap .u8 ((255 : Int) - v31))] fun H33 => X27 [.int .i64 (wrap .i64 (i28 + 1))] H33)
 (J22 [] H29)) → X27 [.int .i64 i28] H29) → X27 [.int .i64 0] H19)
 (J22 [] H19))) → J9 [] H10) →
 br (r8 != 0)
 (R (.int .i64 r8) H6)
 (∃ N34, cell H6 (.add (.add ⟨b2, 0, none⟩ 2) 4) = some (.int .i64 N34) ∧ br (decide (N34 < 0)) (R (.int .i64 32) H6) (∃ N35, cell H6 (.add (.add ⟨b2, 0, none⟩ 2) 4) = some (.int .i64 N35) ∧ br (decide (N35 > 2))
 (R (.int .i64 32) H6)
 (∃ N36, cell H6 (.add (.add ⟨b2, 0, none⟩ 2) 4) = some (.int .i64 N36) ∧ br (N36 == 2)
 (∃ a37, r7 = some a37 ∧ stAt H6 (.add a37 8) [.slice none 0 0] fun H38 => R (.int .i64 0) H38)
 (J9 [] H6))))
def Tryz.p45 : Plan := (tl (tl (two (join [] [1, 3] (one (tl (two (tl leaf) (tl (two (tl leaf) (tl (two (tl (tl leaf)) leaf)))))))) (tl (tg (two (join [] [3, 5] (tl (two (tl (one (loop [(61, 3)] [3, 5, 60] (tl (two (tl leaf) (two (one (tl leaf)) leaf)))))) leaf))) (tl (tl leaf))))))))
theorem Tryz.s45 {w1 : AV} {H R} (h : Tryz.S45 w1 H R) : Tryz.C 45 #[.agg w1] H R := vcs Tryz.tab_ok Tryz.mixed Tryz.func45 Tryz.cal45 Tryz.p45 h (by kernel_rfl)
def Tryz.S46 (w1 : AV) (H : Heap) (R : Kv) : Prop :=
 alc H (.cells w1 106) fun b2 H3 => ∃ v4, v4.size = 21 ∧ rowIn H3 ⟨b2, 0, none⟩ v4 ∧ Tryz.C 66 #[.agg v4] H3 fun r5 H6 => ∃ r7 r8, r5 = .tuple #[.pointer r7, .int .i64 r8] ∧ ∀ J9 : Kl, (∀ H10, (∃ Ma11, Ma11.size = 6 ∧ rowIn H10 (.add (.add ⟨b2, 0, none⟩ 2) 12) Ma11 ∧ Tryz.C 71 #[.agg Ma11] H10 fun r12 H13 => ∃ r14 r15, r12 = .tuple #[.agg r14, .int .i64 r15] ∧ alc H13 (.cells #[.int .i64 0, .int .i64 0, .int .i64 0, .int .i64 0, .int .i64 0, .int .i64 0] 45) fun b16 H17 => r14.size = 6 ∧ stAt H17 ⟨b16, 0, none⟩ r14.toList fun H18 => br (r15 != 0)
 (R (.int .i64 r15) H18)
 (∃ Ma19, Ma19.size = 6 ∧ rowIn H18 (.add (.add ⟨b2, 0, none⟩ 2) 12) Ma19 ∧ ∃ N20, cell H18 (.add (.add ⟨b2, 0, none⟩ 2) 4) = some (.int .i64 N20) ∧ ∃ a21, r7 = some a21 ∧ Ma19.size = 6 ∧ stAt H18 (.add a21 9) Ma19.toList fun H22 => (Ext H18 H22 ∨ (∃ N25, cell H22 (.add (.add ⟨b2, 0, none⟩ 2) 4) = some (.int .i64 N25) ∧ Value.int .i64 N25 = .int .i64 N20)) ∧ ∃ a23, r7 = some a23 ∧ stAt H22 (.add a23 15) [.bool (N20 == 1)] fun H24 => R (.int .i64 0) H24)) → J9 [] H10) →
 br (r8 != 0)
 (R (.int .i64 r8) H6)
 (∃ a26, r7 = some a26 ∧ ∃ Ki27, cell H6 (.add a26 1) = some (.int .i64 Ki27) ∧ br (Ki27 != 0)
 (R (.int .i64 41) H6)
 (∃ N28, cell H6 (.add (.add ⟨b2, 0, none⟩ 2) 4) = some (.int .i64 N28) ∧ br (N28 != 0) (∃ N29, cell H6 (.add (.add ⟨b2, 0, none⟩ 2) 4) = some (.int .i64 N29) ∧ br (N29 != 1)
 (R (.int .i64 32) H6)
 (J9 [] H6)) (J9 [] H6)))
def Tryz.p46 : Plan := (tl (tl (two (join [] [1, 3] (one (tl (two (tl leaf) (tl (two (tl leaf) g0)))))) (two (tl g0) (tl (tl leaf))))))
theorem Tryz.s46 {w1 : AV} {H R} (h : Tryz.S46 w1 H R) : Tryz.C 46 #[.agg w1] H R := vcs Tryz.tab_ok Tryz.mixed Tryz.func46 Tryz.cal46 Tryz.p46 h (by kernel_rfl)
def Tryz.S47 (w1 : AV) (H : Heap) (R : Kv) : Prop :=
 alc H (.cells w1 106) fun b2 H3 => ∃ v4, v4.size = 21 ∧ rowIn H3 ⟨b2, 0, none⟩ v4 ∧ Tryz.C 66 #[.agg v4] H3 fun r5 H6 => ∃ r7 r8, r5 = .tuple #[.pointer r7, .int .i64 r8] ∧ br (r8 != 0)
 (R (.int .i64 r8) H6)
 (∃ a9, r7 = some a9 ∧ ∃ Ki10, cell H6 (.add a9 1) = some (.int .i64 Ki10) ∧ br (Ki10 != 2)
 (R (.int .i64 41) H6)
 (∃ N11, cell H6 (.add (.add ⟨b2, 0, none⟩ 2) 4) = some (.int .i64 N11) ∧ ∃ Pa12p Pa12l Pa12c, cell H6 (.add (.add ⟨b2, 0, none⟩ 2) 18) = some (.slice Pa12p Pa12l Pa12c) ∧ Tryz.C 72 #[.int .i64 N11, .slice Pa12p Pa12l Pa12c] H6 fun r13 H14 => ∃ r15p r15l r15c r16, r13 = .tuple #[.slice r15p r15l r15c, .bool r16] ∧ br (!r16)
 (R (.int .i64 32) H14)
 (∃ N17, cell H14 (.add (.add ⟨b2, 0, none⟩ 2) 4) = some (.int .i64 N17) ∧ ∃ Pa18p Pa18l Pa18c, cell H14 (.add (.add ⟨b2, 0, none⟩ 2) 18) = some (.slice Pa18p Pa18l Pa18c) ∧ Tryz.C 73 #[.slice Pa18p Pa18l Pa18c] H14 fun r19 H20 => ∃ r21p r21l r21c, r19 = .slice r21p r21l r21c ∧ (Ext H14 H20 ∨ (∃ N26, cell H20 (.add (.add ⟨b2, 0, none⟩ 2) 4) = some (.int .i64 N26) ∧ Value.int .i64 N26 = .int .i64 N17)) ∧ ∃ a22, r7 = some a22 ∧ stAt H20 (.add a22 16) [.int .i64 N17] fun H23 => ∃ a24, r7 = some a24 ∧ stAt H23 (.add a24 17) [.slice r21p r21l r21c] fun H25 => R (.int .i64 0) H25)))
def Tryz.p47 : Plan := (tl (tl (two (one (tl (two (tl leaf) g0))) (two (tl g0) (tl (tl leaf))))))
theorem Tryz.s47 {w1 : AV} {H R} (h : Tryz.S47 w1 H R) : Tryz.C 47 #[.agg w1] H R := vcs Tryz.tab_ok Tryz.mixed Tryz.func47 Tryz.cal47 Tryz.p47 h (by kernel_rfl)
def Tryz.S48 (s1 : OA) (H : Heap) (R : Kv) : Prop :=
 alc H (.cells #[.int .i64 0, .int .i64 0, .int .i64 0, .slice none 0 0] 27) fun b2 H3 => ∃ a4, s1 = some a4 ∧ ∃ li5p li5l li5c, cell H3 (.add a4 0) = some (.slice li5p li5l li5c) ∧ br (((li5l : Int) : Int) == 0)
 (#[Value.int .i64 0, Value.int .i64 0, Value.int .i64 0, Value.slice none 0 0].size = 4 ∧ stAt H3 ⟨b2, 0, none⟩ (Array.toList #[.int .i64 0, .int .i64 0, .int .i64 0, .slice none 0 0]) fun H6 => ∃ re7, re7.size = 4 ∧ rowIn H6 ⟨b2, 0, none⟩ re7 ∧ R (.tuple #[.agg re7, .bool false]) H6)
 (∃ a8, s1 = some a8 ∧ ∃ li9p li9l li9c, cell H3 (.add a8 0) = some (.slice li9p li9l li9c) ∧ ∃ a10, s1 = some a10 ∧ ∃ li11p li11l li11c, cell H3 (.add a10 0) = some (.slice li11p li11l li11c) ∧ ∃ a12, li9p = some a12 ∧ 0 ≤ (wrap .i64 ((li11l : Int) - 1)) ∧ (wrap .i64 ((li11l : Int) - 1)) < (li9l : Int) ∧ ∃ v13, v13.size = 4 ∧ rowIn H3 (.add a12 (toNat (wrap .i64 ((li11l : Int) - 1)) * 4)) v13 ∧ alc H3 (.cells #[.int .i64 0, .int .i64 0, .int .i64 0, .slice none 0 0] 27) fun b14 H15 => (Ext H3 H15 ∨ (∃ v26, v26.size = 4 ∧ rowIn H15 (.add a12 (toNat (wrap .i64 ((li11l : Int) - 1)) * 4)) v26 ∧ Value.agg v26 = .agg v13) ∧ (Value.int .i64 (li11l : Int) = .int .i64 (li11l : Int)) ∧ (∃ li27p li27l li27c, cell H15 (.add a10 0) = some (.slice li27p li27l li27c) ∧ Value.slice li27p li27l li27c = .slice li11p li11l li11c) ∧ (∃ li28p li28l li28c, cell H15 (.add a8 0) = some (.slice li28p li28l li28c) ∧ Value.slice li28p li28l li28c = .slice li9p li9l li9c)) ∧ v13.size = 4 ∧ stAt H15 ⟨b14, 0, none⟩ v13.toList fun H16 => ∃ a17, s1 = some a17 ∧ ∃ li18p li18l li18c, cell H16 (.add a17 0) = some (.slice li18p li18l li18c) ∧ ∃ a19, s1 = some a19 ∧ ∃ li20p li20l li20c, cell H16 (.add a19 0) = some (.slice li20p li20l li20c) ∧ 0 ≤ (wrap .i64 ((li20l : Int) - 1)) ∧ (wrap .i64 ((li20l : Int) - 1)) ≤ (li18c : Int) ∧ ∃ a21, s1 = some a21 ∧ stAt H16 (.add a21 0) [.slice (if li18c = 0 then li18p else Option.map (fun x => Addr.add x (0 * 4)) li18p) ((toNat (wrap .i64 ((li20l : Int) - 1))) - 0) (li18c - 0)] fun H22 => ∃ v23, v23.size = 4 ∧ rowIn H22 ⟨b14, 0, none⟩ v23 ∧ v23.size = 4 ∧ stAt H22 ⟨b2, 0, none⟩ v23.toList fun H24 => ∃ re25, re25.size = 4 ∧ rowIn H24 ⟨b2, 0, none⟩ re25 ∧ R (.tuple #[.agg re25, .bool true]) H24)
def Tryz.p48 : Plan := (tl (tg (tl (tl (tl leaf)))))
theorem Tryz.s48 {s1 : OA} {H R} (h : Tryz.S48 s1 H R) : Tryz.C 48 #[.pointer s1] H R := vcs Tryz.tab_ok Tryz.mixed Tryz.func48 Tryz.cal48 Tryz.p48 h (by kernel_rfl)
def Tryz.S49 (d1 : AV) (to2 : Int) (H : Heap) (R : Kv) : Prop :=
 alc H (.cells d1 33) fun b3 H4 => ∀ X5 : Kl, (∀ (ou6p : OA) (ou6l ou6c : Nat) (i7 : Int) H8, (∃ L9p L9l L9c, cell H8 (.add ⟨b3, 0, none⟩ 3) = some (.slice L9p L9l L9c) ∧ br (decide (i7 < (L9l : Int)))
 (∃ L10p L10l L10c, cell H8 (.add ⟨b3, 0, none⟩ 3) = some (.slice L10p L10l L10c) ∧ ∃ a11, L10p = some a11 ∧ 0 ≤ i7 ∧ i7 < (L10l : Int) ∧ ∃ To12, cell H8 (.add (.add a11 (toNat i7 * 19)) 2) = some (.int .i64 To12) ∧ br (To12 == to2)
 (alc H8 (.cells #[.int .i64 i7] 3) fun b13 H14 => appQ 1 8 #[.int .i64 0] H14 ou6p ou6l ou6c (some ⟨b13, 0, none⟩) 1 3 fun ou15p ou15l ou15c H16 => X5 [.slice ou15p ou15l ou15c, .int .i64 (wrap .i64 (i7 + 1))] H16)
 (X5 [.slice ou6p ou6l ou6c, .int .i64 (wrap .i64 (i7 + 1))] H8))
 (R (.slice ou6p ou6l ou6c) H8)) → X5 [.slice ou6p ou6l ou6c, .int .i64 i7] H8) → X5 [.slice none 0 0, .int .i64 0] H4
def Tryz.p49 : Plan := (tl (tl (two (tl (one (loop [(5, 42), (6, 3)] [1, 2] (two (tl (tl leaf)) (two (one (tl (tl leaf))) leaf))))) (tl leaf))))
theorem Tryz.s49 {d1 : AV} {to2 : Int} {H R} (h : Tryz.S49 d1 to2 H R) : Tryz.C 49 #[.agg d1, .int .i64 to2] H R := vcs Tryz.tab_ok Tryz.mixed Tryz.func49 Tryz.cal49 Tryz.p49 h (by kernel_rfl)
end Go.Proofs
namespace Go.Proofs
open Go.Sh Go.Sh.Plan
open Go.IntKind (wrap)
open Int (toNat)
def Tryz.S50 (a1 b2 : AV) (H : Heap) (R : Kv) : Prop :=
 alc H (.cells a1 61) fun b3 H4 => alc H4 (.cells b2 95) fun b5 H6 => ∀ J7 : Kl, (∀ H8, (∃ P9p P9l P9c, cell H8 (.add ⟨b3, 0, none⟩ 7) = some (.slice P9p P9l P9c) ∧ ∃ P10p P10l P10c, cell H8 (.add ⟨b5, 0, none⟩ 8) = some (.slice P10p P10l P10c) ∧ Tryz.C 74 #[.slice P9p P9l P9c, .slice P10p P10l P10c] H8 fun r11 H12 => ∃ r13, r11 = .bool r13 ∧ br r13 (∃ Ma14p Ma14l Ma14c, cell H12 (.add ⟨b3, 0, none⟩ 8) = some (.slice Ma14p Ma14l Ma14c) ∧ ∃ bs15 : List Int, bsOf H12 Ma14p Ma14l bs15 ∧ ∃ Ma16p Ma16l Ma16c, cell H12 (.add ⟨b5, 0, none⟩ 9) = some (.slice Ma16p Ma16l Ma16c) ∧ ∃ bs17 : List Int, bsOf H12 Ma16p Ma16l bs17 ∧ br (((textOf bs15) : ByteArray) == (textOf bs17)) (∃ Pa18p Pa18l Pa18c, cell H12 (.add ⟨b3, 0, none⟩ 17) = some (.slice Pa18p Pa18l Pa18c) ∧ ∃ Pa19p Pa19l Pa19c, cell H12 (.add ⟨b5, 0, none⟩ 18) = some (.slice Pa19p Pa19l Pa19c) ∧ Tryz.C 74 #[.slice Pa18p Pa18l Pa18c, .slice Pa19p Pa19l Pa19c] H12 fun r20 H21 => ∃ r22, r20 = .bool r22 ∧ R (.bool r22) H21) (R (.bool false) H12)) (R (.bool false) H12)) → J7 [] H8) →
 ∃ ID23, cell H6 (.add ⟨b3, 0, none⟩ 0) = some (.int .i64 ID23) ∧ ∃ ID24, cell H6 (.add ⟨b5, 0, none⟩ 0) = some (.int .i64 ID24) ∧ br (ID23 != ID24) (R (.bool false) H6) (∃ Ki25, cell H6 (.add ⟨b3, 0, none⟩ 1) = some (.int .i64 Ki25) ∧ ∃ Ki26, cell H6 (.add ⟨b5, 0, none⟩ 1) = some (.int .i64 Ki26) ∧ br (Ki25 != Ki26) (R (.bool false) H6) (∃ Hi27, cell H6 (.add ⟨b3, 0, none⟩ 2) = some (.bool Hi27) ∧ ∃ Hi28, cell H6 (.add ⟨b5, 0, none⟩ 3) = some (.bool Hi28) ∧ br (!(Hi27 == Hi28)) (R (.bool false) H6) (∃ Op29, cell H6 (.add ⟨b3, 0, none⟩ 3) = some (.int .i64 Op29) ∧ ∃ Op30, cell H6 (.add ⟨b5, 0, none⟩ 4) = some (.int .i64 Op30) ∧ br (Op29 != Op30) (R (.bool false) H6) (∃ Mo31, cell H6 (.add ⟨b3, 0, none⟩ 4) = some (.int .i64 Mo31) ∧ ∃ Mo32, cell H6 (.add ⟨b5, 0, none⟩ 5) = some (.int .i64 Mo32) ∧ br (Mo31 != Mo32) (R (.bool false) H6) (∃ W33, cell H6 (.add ⟨b3, 0, none⟩ 5) = some (.int .i64 W33) ∧ ∃ W34, cell H6 (.add ⟨b5, 0, none⟩ 6) = some (.int .i64 W34) ∧ br (W33 != W34) (R (.bool false) H6) (∃ H35, cell H6 (.add ⟨b3, 0, none⟩ 6) = some (.int .i64 H35) ∧ ∃ H36, cell H6 (.add ⟨b5, 0, none⟩ 7) = some (.int .i64 H36) ∧ br (H35 != H36) (R (.bool false) H6) (∃ Ma37, Ma37.size = 6 ∧ rowIn H6 (.add ⟨b3, 0, none⟩ 9) Ma37 ∧ ∃ Ma38, Ma38.size = 6 ∧ rowIn H6 (.add ⟨b5, 0, none⟩ 10) Ma38 ∧ (1 = 1 ∧ ∃ as_39 bs40 : List Int, as_39.length = 6 ∧ bs40.length = 6 ∧ Ma37 = (as_39.map (Value.int .i64)).toArray ∧ Ma38 = (bs40.map (Value.int .i64)).toArray ∧ br (!(decide (as_39 = bs40))) (R (.bool false) H6) (∃ Sm41, cell H6 (.add ⟨b3, 0, none⟩ 15) = some (.bool Sm41) ∧ ∃ Sm42, cell H6 (.add ⟨b5, 0, none⟩ 16) = some (.bool Sm42) ∧ br (!(Sm41 == Sm42)) (R (.bool false) H6) (∃ Ta43, cell H6 (.add ⟨b3, 0, none⟩ 16) = some (.int .i64 Ta43) ∧ ∃ Ta44, cell H6 (.add ⟨b5, 0, none⟩ 17) = some (.int .i64 Ta44) ∧ br (Ta43 != Ta44)
 (R (.bool false) H6)
 (J7 [] H6)))))))))))
def Tryz.p50 : Plan := (tl (two (join [] [2, 3] g0) (tl leaf)))
theorem Tryz.s50 {a1 b2 : AV} {H R} (h : Tryz.S50 a1 b2 H R) : Tryz.C 50 #[.agg a1, .agg b2] H R := vcs Tryz.tab_ok Tryz.mixed Tryz.func50 Tryz.cal50 Tryz.p50 h (by kernel_rfl)
def Tryz.S51 (in_1 : OA) (id2 : Int) (H : Heap) (R : Kv) : Prop :=
 ∃ a3, in_1 = some a3 ∧ ∃ Ki4p Ki4l Ki4c, cell H (.add a3 18) = some (.slice Ki4p Ki4l Ki4c) ∧ ∀ X5 : Kl, (∀ (i6 : Int) H7, (br (decide (i6 < (Ki4l : Int)))
 (∃ a8, in_1 = some a8 ∧ ∃ Ki9p Ki9l Ki9c, cell H7 (.add a8 18) = some (.slice Ki9p Ki9l Ki9c) ∧ ∃ a10, Ki9p = some a10 ∧ 0 ≤ i6 ∧ i6 < (Ki9l : Int) ∧ ∃ a11, (some (.add a10 (toNat i6 * 19))) = some a11 ∧ ∃ ID12, cell H7 (.add a11 0) = some (.int .i64 ID12) ∧ br (ID12 == id2)
 (R (.tuple #[.pointer (some (.add a10 (toNat i6 * 19))), .pointer in_1, .int .i64 i6]) H7)
 (Tryz.C 51 #[.pointer (some (.add a10 (toNat i6 * 19))), .int .i64 id2] H7 fun r13 H14 => ∃ r15 r16 r17, r13 = .tuple #[.pointer r15, .pointer r16, .int .i64 r17] ∧ br (!(Option.isNone r15))
 (R (.tuple #[.pointer r15, .pointer r16, .int .i64 r17]) H14)
 (X5 [.int .i64 (wrap .i64 (i6 + 1))] H14)))
 (R (.tuple #[.pointer none, .pointer none, .int .i64 0]) H7)) → X5 [.int .i64 i6] H7) → X5 [.int .i64 0] H
def Tryz.p51 : Plan := (tl (two (tl (one (loop [(17, 3)] [0, 1, 16] (tl (two (tl leaf) (two (one (tl (tl (tg (tl g0))))) leaf)))))) (tl leaf)))
theorem Tryz.s51 {in_1 : OA} {id2 : Int} {H R} (h : Tryz.S51 in_1 id2 H R) : Tryz.C 51 #[.pointer in_1, .int .i64 id2] H R := vcs Tryz.tab_ok Tryz.mixed Tryz.func51 Tryz.cal51 Tryz.p51 h (by kernel_rfl)
def Tryz.S52 (l1 : AV) (H : Heap) (R : Kv) : Prop :=
 alc H (.cells l1 61) fun b2 H3 => alc H3 (.cells #[.int .i64 0, .int .i64 0, .bool false, .int .i64 0, .int .i64 0, .int .i64 0, .int .i64 0, .slice none 0 0, .slice none 0 0, .int .i64 0, .int .i64 0, .int .i64 0, .int .i64 0, .int .i64 0, .int .i64 0, .bool false, .int .i64 0, .slice none 0 0, .slice none 0 0] 61) fun b4 H5 => ∃ P6p P6l P6c, cell H5 (.add ⟨b2, 0, none⟩ 7) = some (.slice P6p P6l P6c) ∧ ∃ Ma7p Ma7l Ma7c, cell H5 (.add ⟨b2, 0, none⟩ 8) = some (.slice Ma7p Ma7l Ma7c) ∧ ∃ Pa8p Pa8l Pa8c, cell H5 (.add ⟨b2, 0, none⟩ 17) = some (.slice Pa8p Pa8l Pa8c) ∧ Tryz.C 73 #[.slice P6p P6l P6c] H5 fun r9 H10 => ∃ r11p r11l r11c, r9 = .slice r11p r11l r11c ∧ (Ext H5 H10 ∨ (∃ Pa30p Pa30l Pa30c, cell H10 (.add ⟨b2, 0, none⟩ 17) = some (.slice Pa30p Pa30l Pa30c) ∧ Value.slice Pa30p Pa30l Pa30c = .slice Pa8p Pa8l Pa8c) ∧ (∃ Ma31p Ma31l Ma31c, cell H10 (.add ⟨b2, 0, none⟩ 8) = some (.slice Ma31p Ma31l Ma31c) ∧ Value.slice Ma31p Ma31l Ma31c = .slice Ma7p Ma7l Ma7c)) ∧ Tryz.C 75 #[.slice Ma7p Ma7l Ma7c] H10 fun r12 H13 => ∃ r14p r14l r14c, r12 = .slice r14p r14l r14c ∧ (Ext H10 H13 ∨ (∃ Pa29p Pa29l Pa29c, cell H13 (.add ⟨b2, 0, none⟩ 17) = some (.slice Pa29p Pa29l Pa29c) ∧ Value.slice Pa29p Pa29l Pa29c = .slice Pa8p Pa8l Pa8c)) ∧ Tryz.C 73 #[.slice Pa8p Pa8l Pa8c] H13 fun r15 H16 => ∃ r17p r17l r17c, r15 = .slice r17p r17l r17c ∧ stAt H16 (.add ⟨b2, 0, none⟩ 7) [.slice r11p r11l r11c] fun H18 => stAt H18 (.add ⟨b2, 0, none⟩ 8) [.slice r14p r14l r14c] fun H19 => stAt H19 (.add ⟨b2, 0, none⟩ 17) [.slice r17p r17l r17c] fun H20 => ∃ Ki21p Ki21l Ki21c, cell H20 (.add ⟨b2, 0, none⟩ 18) = some (.slice Ki21p Ki21l Ki21c) ∧ Tryz.C 37 #[.slice Ki21p Ki21l Ki21c] H20 fun r22 H23 => ∃ r24p r24l r24c, r22 = .slice r24p r24l r24c ∧ stAt H23 (.add ⟨b2, 0, none⟩ 18) [.slice r24p r24l r24c] fun H25 => ∃ v26, v26.size = 19 ∧ rowIn H25 ⟨b2, 0, none⟩ v26 ∧ v26.size = 19 ∧ stAt H25 ⟨b4, 0, none⟩ v26.toList fun H27 => ∃ re28, re28.size = 19 ∧ rowIn H27 ⟨b4, 0, none⟩ re28 ∧ R (.agg re28) H27
def Tryz.p52 : Plan := (tl (tl (tl (tl leaf))))
theorem Tryz.s52 {l1 : AV} {H R} (h : Tryz.S52 l1 H R) : Tryz.C 52 #[.agg l1] H R := vcs Tryz.tab_ok Tryz.mixed Tryz.func52 Tryz.cal52 Tryz.p52 h (by kernel_rfl)
def Tryz.S53 (d1 : AV) (to2 : Int) (H : Heap) (R : Kv) : Prop :=
 alc H (.cells d1 33) fun b3 H4 => br (to2 == 0)
 (R (.int .i64 0) H4)
 (∃ v5, v5.size = 4 ∧ rowIn H4 ⟨b3, 0, none⟩ v5 ∧ Tryz.C 33 #[.agg v5, .int .i64 to2] H4 fun r6 H7 => ∃ i8, r6 = .int .i64 i8 ∧ br (decide (i8 < 0))
 (R (.int .i64 40) H7)
 (∃ L9p L9l L9c, cell H7 (.add ⟨b3, 0, none⟩ 3) = some (.slice L9p L9l L9c) ∧ ∃ a10, L9p = some a10 ∧ 0 ≤ i8 ∧ i8 < (L9l : Int) ∧ ∃ Ki11, cell H7 (.add (.add a10 (toNat i8 * 19)) 1) = some (.int .i64 Ki11) ∧ br (Ki11 != 1)
 (R (.int .i64 41) H7)
 (R (.int .i64 0) H7)))
def Tryz.p53 : Plan := (tl (tg (tl (tg (tg (tl leaf))))))
theorem Tryz.s53 {d1 : AV} {to2 : Int} {H R} (h : Tryz.S53 d1 to2 H R) : Tryz.C 53 #[.agg d1, .int .i64 to2] H R := vcs Tryz.tab_ok Tryz.mixed Tryz.func53 Tryz.cal53 Tryz.p53 h (by kernel_rfl)
def Tryz.S54 (d1 l2 : AV) (at_3 : Int) (H : Heap) (R : Kv) : Prop :=
 alc H (.cells d1 33) fun b4 H5 => alc H5 (.cells l2 95) fun b6 H7 => alc H7 (.cells #[.int .i64 0, .int .i64 0, .int .i64 0, .slice none 0 0] 33) fun b8 H9 => ∃ v10, v10.size = 4 ∧ rowIn H9 ⟨b4, 0, none⟩ v10 ∧ ∃ To11, cell H9 (.add ⟨b6, 0, none⟩ 2) = some (.int .i64 To11) ∧ Tryz.C 49 #[.agg v10, .int .i64 To11] H9 fun r12 H13 => ∃ k14p k14l k14c, r12 = .slice k14p k14l k14c ∧ ∀ J15 : Kl, (∀ (at_16 : Int) H17, (∀ J18 : Kl, (∀ H19, (∃ L20p L20l L20c, cell H19 (.add ⟨b4, 0, none⟩ 3) = some (.slice L20p L20l L20c) ∧ ∀ J21 : Kl, (∀ (where_22 : Int) H23, (alc H23 (.cells #[] 95) fun b24 H25 => ∃ L26p L26l L26c, cell H25 (.add ⟨b4, 0, none⟩ 3) = some (.slice L26p L26l L26c) ∧ 0 ≤ where_22 ∧ where_22 ≤ (L26c : Int) ∧ appQ 19 200 #[.int .i64 0, .int .i64 0, .int .i64 0, .bool false, .int .i64 0, .int .i64 0, .int .i64 0, .int .i64 0, .slice none 0 0, .slice none 0 0, .int .i64 0, .int .i64 0, .int .i64 0, .int .i64 0, .int .i64 0, .int .i64 0, .bool false, .int .i64 0, .slice none 0 0] H25 (some ⟨b24, 0, none⟩) 0 0 (if L26c = 0 then L26p else Option.map (fun x => Addr.add x (0 * 19)) L26p) ((toNat where_22) - 0) 95 fun ou27p ou27l ou27c H28 => ∃ v29, v29.size = 19 ∧ rowIn H28 ⟨b6, 0, none⟩ v29 ∧ v29.size = 19 ∧ 0 + 19 ≤ 19 ∧ alc H28 (.cells (List.toArray (setL [.int .i64 0, .int .i64 0, .int .i64 0, .bool false, .int .i64 0, .int .i64 0, .int .i64 0, .int .i64 0, .slice none 0 0, .slice none 0 0, .int .i64 0, .int .i64 0, .int .i64 0, .int .i64 0, .int .i64 0, .int .i64 0, .bool false, .int .i64 0, .slice none 0 0] 0 v29.toList)) 95) fun b30 H31 => appQ 19 200 #[.int .i64 0, .int .i64 0, .int .i64 0, .bool false, .int .i64 0, .int .i64 0, .int .i64 0, .int .i64 0, .slice none 0 0, .slice none 0 0, .int .i64 0, .int .i64 0, .int .i64 0, .int .i64 0, .int .i64 0, .int .i64 0, .bool false, .int .i64 0, .slice none 0 0] H31 ou27p ou27l ou27c (some ⟨b30, 0, none⟩) 1 95 fun ou32p ou32l ou32c H33 => ∃ L34p L34l L34c, cell H33 (.add ⟨b4, 0, none⟩ 3) = some (.slice L34p L34l L34c) ∧ 0 ≤ where_22 ∧ where_22 ≤ (L34l : Int) ∧ appQ 19 200 #[.int .i64 0, .int .i64 0, .int .i64 0, .bool false, .int .i64 0, .int .i64 0, .int .i64 0, .int .i64 0, .slice none 0 0, .slice none 0 0, .int .i64 0, .int .i64 0, .int .i64 0, .int .i64 0, .int .i64 0, .int .i64 0, .bool false, .int .i64 0, .slice none 0 0] H33 ou32p ou32l ou32c (if L34c = (toNat where_22) then L34p else Option.map (fun x => Addr.add x ((toNat where_22) * 19)) L34p) (L34l - (toNat where_22)) 95 fun ap35p ap35l ap35c H36 => stAt H36 (.add ⟨b4, 0, none⟩ 3) [.slice ap35p ap35l ap35c] fun H37 => ∃ v38, v38.size = 4 ∧ rowIn H37 ⟨b4, 0, none⟩ v38 ∧ v38.size = 4 ∧ stAt H37 ⟨b8, 0, none⟩ v38.toList fun H39 => ∃ re40, re40.size = 4 ∧ rowIn H39 ⟨b8, 0, none⟩ re40 ∧ R (.tuple #[.agg re40, .int .i64 0]) H39) → J21 [.int .i64 where_22] H23) →
 br (decide (at_16 < (k14l : Int)))
 (∃ a41, k14p = some a41 ∧ 0 ≤ at_16 ∧ at_16 < (k14l : Int) ∧ ∃ where_42, cell H19 (.add a41 (toNat at_16 * 1)) = some (.int .i64 where_42) ∧ J21 [.int .i64 where_42] H19)
 (J21 [.int .i64 (L20l : Int)] H19)) → J18 [] H19) →
 br (decide (at_16 < 0)) (∃ v43, v43.size = 4 ∧ rowIn H17 ⟨b4, 0, none⟩ v43 ∧ v43.size = 4 ∧ stAt H17 ⟨b8, 0, none⟩ v43.toList fun H44 => ∃ re45, re45.size = 4 ∧ rowIn H44 ⟨b8, 0, none⟩ re45 ∧ R (.tuple #[.agg re45, .int .i64 43]) H44) (br (decide (at_16 > (k14l : Int)))
 (∃ v46, v46.size = 4 ∧ rowIn H17 ⟨b4, 0, none⟩ v46 ∧ v46.size = 4 ∧ stAt H17 ⟨b8, 0, none⟩ v46.toList fun H47 => ∃ re48, re48.size = 4 ∧ rowIn H47 ⟨b8, 0, none⟩ re48 ∧ R (.tuple #[.agg re48, .int .i64 43]) H47)
 (J18 [] H17))) → J15 [.int .i64 at_16] H17) →
 br (at_3 == (-1 : Int))
 (J15 [.int .i64 (k14l : Int)] H13)
 (J15 [.int .i64 at_3] H13)
def Tryz.p54 : Plan := (tl (tl (two (join [(2, 3)] [3, 4, 6, 8] (tl (tl leaf))) (two (join [] [2, 3, 4, 6, 8] g0) (tl (two (join [(9, 3)] [3, 4, 6] (tl (tl leaf))) (tl (tl (tl (tl leaf))))))))))
theorem Tryz.s54 {d1 l2 : AV} {at_3 : Int} {H R} (h : Tryz.S54 d1 l2 at_3 H R) : Tryz.C 54 #[.agg d1, .agg l2, .int .i64 at_3] H R := vcs Tryz.tab_ok Tryz.mixed Tryz.func54 Tryz.cal54 Tryz.p54 h (by kernel_rfl)
def Tryz.S55 (d1 : AV) (id2 : Int) (H : Heap) (R : Kv) : Prop :=
 alc H (.cells d1 33) fun b3 H4 => ∀ X5 : Kl, (∀ (id6 n7 : Int) H8, (br (id6 != 0)
 (∃ L9p L9l L9c, cell H8 (.add ⟨b3, 0, none⟩ 3) = some (.slice L9p L9l L9c) ∧ ∃ v10, v10.size = 4 ∧ rowIn H8 ⟨b3, 0, none⟩ v10 ∧ Tryz.C 33 #[.agg v10, .int .i64 id6] H8 fun r11 H12 => ∃ r13, r11 = .int .i64 r13 ∧ (Ext H8 H12 ∨ (∃ L16p L16l L16c, cell H12 (.add ⟨b3, 0, none⟩ 3) = some (.slice L16p L16l L16c) ∧ Value.slice L16p L16l L16c = .slice L9p L9l L9c)) ∧ ∃ a14, L9p = some a14 ∧ 0 ≤ r13 ∧ r13 < (L9l : Int) ∧ ∃ To15, cell H12 (.add (.add a14 (toNat r13 * 19)) 2) = some (.int .i64 To15) ∧ X5 [.int .i64 To15, .int .i64 (wrap .i64 (n7 + 1))] H12)
 (R (.int .i64 n7) H8)) → X5 [.int .i64 id6, .int .i64 n7] H8) → X5 [.int .i64 id2, .int .i64 0] H4
def Tryz.p55 : Plan := (tl (tl (two (one (loop [(1, 3), (5, 3)] [2] (two (tl (tl leaf)) (one (tl leaf))))) (tl leaf))))
theorem Tryz.s55 {d1 : AV} {id2 : Int} {H R} (h : Tryz.S55 d1 id2 H R) : Tryz.C 55 #[.agg d1, .int .i64 id2] H R := vcs Tryz.tab_ok Tryz.mixed Tryz.func55 Tryz.cal55 Tryz.p55 h (by kernel_rfl)
def Tryz.S56 (d1 : AV) (id2 of3 : Int) (H : Heap) (R : Kv) : Prop :=
 alc H (.cells d1 33) fun b4 H5 => ∀ X6 : Kl, (∀ (id7 : Int) H8, (br (id7 != 0)
 (br (id7 == of3)
 (R (.bool true) H8)
 (∃ L9p L9l L9c, cell H8 (.add ⟨b4, 0, none⟩ 3) = some (.slice L9p L9l L9c) ∧ ∃ v10, v10.size = 4 ∧ rowIn H8 ⟨b4, 0, none⟩ v10 ∧ Tryz.C 33 #[.agg v10, .int .i64 id7] H8 fun r11 H12 => ∃ r13, r11 = .int .i64 r13 ∧ (Ext H8 H12 ∨ (∃ L16p L16l L16c, cell H12 (.add ⟨b4, 0, none⟩ 3) = some (.slice L16p L16l L16c) ∧ Value.slice L16p L16l L16c = .slice L9p L9l L9c)) ∧ ∃ a14, L9p = some a14 ∧ 0 ≤ r13 ∧ r13 < (L9l : Int) ∧ ∃ To15, cell H12 (.add (.add a14 (toNat r13 * 19)) 2) = some (.int .i64 To15) ∧ X6 [.int .i64 To15] H12))
 (R (.bool false) H8)) → X6 [.int .i64 id7] H8) → X6 [.int .i64 id2] H5
def Tryz.p56 : Plan := (tl (two (one (loop [(1, 3)] [2, 3] (two (tl (tl leaf)) (one (tg leaf))))) (tl leaf)))
theorem Tryz.s56 {d1 : AV} {id2 of3 : Int} {H R} (h : Tryz.S56 d1 id2 of3 H R) : Tryz.C 56 #[.agg d1, .int .i64 id2, .int .i64 of3] H R := vcs Tryz.tab_ok Tryz.mixed Tryz.func56 Tryz.cal56 Tryz.p56 h (by kernel_rfl)
def Tryz.S57 (d1 : AV) (H : Heap) (R : Kv) : Prop :=
 alc H (.cells d1 33) fun b2 H3 => ∀ X4 : Kl, (∀ (mo5 i6 : Int) H7, (∃ L8p L8l L8c, cell H7 (.add ⟨b2, 0, none⟩ 3) = some (.slice L8p L8l L8c) ∧ br (decide (i6 < (L8l : Int)))
 (∃ v9, v9.size = 4 ∧ rowIn H7 ⟨b2, 0, none⟩ v9 ∧ ∃ L10p L10l L10c, cell H7 (.add ⟨b2, 0, none⟩ 3) = some (.slice L10p L10l L10c) ∧ ∃ a11, L10p = some a11 ∧ 0 ≤ i6 ∧ i6 < (L10l : Int) ∧ ∃ ID12, cell H7 (.add (.add a11 (toNat i6 * 19)) 0) = some (.int .i64 ID12) ∧ Tryz.C 55 #[.agg v9, .int .i64 ID12] H7 fun r13 H14 => ∃ n15, r13 = .int .i64 n15 ∧ br (decide (n15 > mo5))
 (X4 [.int .i64 n15, .int .i64 (wrap .i64 (i6 + 1))] H14)
 (X4 [.int .i64 mo5, .int .i64 (wrap .i64 (i6 + 1))] H14))
 (R (.int .i64 mo5) H7)) → X4 [.int .i64 mo5, .int .i64 i6] H7) → X4 [.int .i64 0, .int .i64 0] H3
def Tryz.p57 : Plan := (tl (tl (two (tl (one (loop [(3, 3), (4, 3)] [1] (two (tl (tl leaf)) (two (one (tl (tl (tl leaf)))) leaf))))) (tl leaf))))
theorem Tryz.s57 {d1 : AV} {H R} (h : Tryz.S57 d1 H R) : Tryz.C 57 #[.agg d1] H R := vcs Tryz.tab_ok Tryz.mixed Tryz.func57 Tryz.cal57 Tryz.p57 h (by kernel_rfl)
def Tryz.S58 (d1 l2 e3 : AV) (H : Heap) (R : Kv) : Prop :=
 alc H (.cells d1 33) fun b4 H5 => alc H5 (.cells l2 95) fun b6 H7 => alc H7 (.cells e3 80) fun b8 H9 => alc H9 (.cells #[.int .i64 0, .int .i64 0, .int .i64 0, .bool false, .int .i64 0, .int .i64 0, .int .i64 0, .int .i64 0, .slice none 0 0, .slice none 0 0, .int .i64 0, .int .i64 0, .int .i64 0, .int .i64 0, .int .i64 0, .int .i64 0, .bool false, .int .i64 0, .slice none 0 0] 95) fun b10 H11 => ∃ Ki12, cell H11 (.add ⟨b6, 0, none⟩ 1) = some (.int .i64 Ki12) ∧ br (Ki12 != 0)
 (∃ v13, v13.size = 19 ∧ rowIn H11 ⟨b6, 0, none⟩ v13 ∧ v13.size = 19 ∧ stAt H11 ⟨b10, 0, none⟩ v13.toList fun H14 => ∃ re15, re15.size = 19 ∧ rowIn H14 ⟨b10, 0, none⟩ re15 ∧ R (.tuple #[.agg re15, .int .i64 41]) H14)
 (∀ J16 : Kl, (∀ H17, (∀ X18 : Kl, (∀ (i19 : Int) H20, (∃ P21p P21l P21c, cell H20 (.add ⟨b8, 0, none⟩ 10) = some (.slice P21p P21l P21c) ∧ br (decide (i19 < (P21l : Int)))
 (∃ P22p P22l P22c, cell H20 (.add ⟨b8, 0, none⟩ 10) = some (.slice P22p P22l P22c) ∧ ∃ a23, P22p = some a23 ∧ 0 ≤ i19 ∧ i19 < (P22l : Int) ∧ ∃ v24, cell H20 (.add a23 (toNat i19 * 1)) = some (.int .i64 v24) ∧ Tryz.C 76 #[.int .i64 v24] H20 fun r25 H26 => ∃ r27, r25 = .bool r27 ∧ br (!r27)
 (∃ v28, v28.size = 19 ∧ rowIn H26 ⟨b6, 0, none⟩ v28 ∧ v28.size = 19 ∧ stAt H26 ⟨b10, 0, none⟩ v28.toList fun H29 => ∃ re30, re30.size = 19 ∧ rowIn H29 ⟨b10, 0, none⟩ re30 ∧ R (.tuple #[.agg re30, .int .i64 25]) H29)
 (X18 [.int .i64 (wrap .i64 (i19 + 1))] H26))
 (∀ J31 : Kl, (∀ H32, (alc H32 (.cells #[] 3) fun b33 H34 => ∃ P35p P35l P35c, cell H34 (.add ⟨b6, 0, none⟩ 8) = some (.slice P35p P35l P35c) ∧ appQ 1 8 #[.int .i64 0] H34 (some ⟨b33, 0, none⟩) 0 0 P35p P35l 3 fun ap36p ap36l ap36c H37 => stAt H37 (.add ⟨b6, 0, none⟩ 8) [.slice ap36p ap36l ap36c] fun H38 => ∀ X39 : Kl, (∀ (y40 : Int) H41, (∃ H42, cell H41 (.add ⟨b6, 0, none⟩ 7) = some (.int .i64 H42) ∧ br (decide (y40 < H42))
 (∀ X43 : Kl, (∀ (x44 : Int) H45, (∃ W46, cell H45 (.add ⟨b6, 0, none⟩ 6) = some (.int .i64 W46) ∧ br (decide (x44 < W46))
 (∀ J47 : Kl, (∀ H48, (X43 [.int .i64 (wrap .i64 (x44 + 1))] H48) → J47 [] H48) →
 ∃ X49, cell H45 (.add ⟨b8, 0, none⟩ 6) = some (.int .i64 X49) ∧ br (decide (x44 ≥ X49)) (∃ X50, cell H45 (.add ⟨b8, 0, none⟩ 6) = some (.int .i64 X50) ∧ ∃ W51, cell H45 (.add ⟨b8, 0, none⟩ 8) = some (.int .i64 W51) ∧ br (decide (x44 < (wrap .i64 (X50 + W51)))) (∃ Y52, cell H45 (.add ⟨b8, 0, none⟩ 7) = some (.int .i64 Y52) ∧ br (decide (y40 ≥ Y52)) (∃ Y53, cell H45 (.add ⟨b8, 0, none⟩ 7) = some (.int .i64 Y53) ∧ ∃ H54, cell H45 (.add ⟨b8, 0, none⟩ 9) = some (.int .i64 H54) ∧ br (decide (y40 < (wrap .i64 (Y53 + H54))))
 (∃ P55p P55l P55c, cell H45 (.add ⟨b6, 0, none⟩ 8) = some (.slice P55p P55l P55c) ∧ ∃ W56, cell H45 (.add ⟨b6, 0, none⟩ 6) = some (.int .i64 W56) ∧ ∃ P57p P57l P57c, cell H45 (.add ⟨b8, 0, none⟩ 10) = some (.slice P57p P57l P57c) ∧ ∃ Y58, cell H45 (.add ⟨b8, 0, none⟩ 7) = some (.int .i64 Y58) ∧ ∃ W59, cell H45 (.add ⟨b8, 0, none⟩ 8) = some (.int .i64 W59) ∧ ∃ X60, cell H45 (.add ⟨b8, 0, none⟩ 6) = some (.int .i64 X60) ∧ ∃ a61, P57p = some a61 ∧ 0 ≤ (wrap .i64 ((wrap .i64 ((wrap .i64 ((wrap .i64 (y40 - Y58)) * W59)) + x44)) - X60)) ∧ (wrap .i64 ((wrap .i64 ((wrap .i64 ((wrap .i64 (y40 - Y58)) * W59)) + x44)) - X60)) < (P57l : Int) ∧ ∃ v62, cell H45 (.add a61 (toNat (wrap .i64 ((wrap .i64 ((wrap .i64 ((wrap .i64 (y40 - Y58)) * W59)) + x44)) - X60)) * 1)) = some (.int .i64 v62) ∧ ∃ a63, P55p = some a63 ∧ 0 ≤ (wrap .i64 ((wrap .i64 (y40 * W56)) + x44)) ∧ (wrap .i64 ((wrap .i64 (y40 * W56)) + x44)) < (P55l : Int) ∧ stAt H45 (.add a63 (toNat (wrap .i64 ((wrap .i64 (y40 * W56)) + x44)) * 1)) [.int .i64 v62] fun H64 => J47 [] H64)
 (J47 [] H45)) (J47 [] H45)) (J47 [] H45)) (J47 [] H45))
 (X39 [.int .i64 (wrap .i64 (y40 + 1))] H45)) → X43 [.int .i64 x44] H45) → X43 [.int .i64 0] H41)
 (∃ v65, v65.size = 19 ∧ rowIn H41 ⟨b6, 0, none⟩ v65 ∧ v65.size = 19 ∧ stAt H41 ⟨b10, 0, none⟩ v65.toList fun H66 => ∃ re67, re67.size = 19 ∧ rowIn H66 ⟨b10, 0, none⟩ re67 ∧ R (.tuple #[.agg re67, .int .i64 0]) H66)) → X39 [.int .i64 y40] H41) → X39 [.int .i64 0] H38) → J31 [] H32) →
 ∃ X68, cell H20 (.add ⟨b8, 0, none⟩ 6) = some (.int .i64 X68) ∧ br (decide (X68 < (-32768 : Int))) (∃ v69, v69.size = 19 ∧ rowIn H20 ⟨b6, 0, none⟩ v69 ∧ v69.size = 19 ∧ stAt H20 ⟨b10, 0, none⟩ v69.toList fun H70 => ∃ re71, re71.size = 19 ∧ rowIn H70 ⟨b10, 0, none⟩ re71 ∧ R (.tuple #[.agg re71, .int .i64 31]) H70) (∃ X72, cell H20 (.add ⟨b8, 0, none⟩ 6) = some (.int .i64 X72) ∧ br (decide (X72 > 32768)) (∃ v73, v73.size = 19 ∧ rowIn H20 ⟨b6, 0, none⟩ v73 ∧ v73.size = 19 ∧ stAt H20 ⟨b10, 0, none⟩ v73.toList fun H74 => ∃ re75, re75.size = 19 ∧ rowIn H74 ⟨b10, 0, none⟩ re75 ∧ R (.tuple #[.agg re75, .int .i64 31]) H74) (∃ Y76, cell H20 (.add ⟨b8, 0, none⟩ 7) = some (.int .i64 Y76) ∧ br (decide (Y76 < (-32768 : Int))) (∃ v77, v77.size = 19 ∧ rowIn H20 ⟨b6, 0, none⟩ v77 ∧ v77.size = 19 ∧ stAt H20 ⟨b10, 0, none⟩ v77.toList fun H78 => ∃ re79, re79.size = 19 ∧ rowIn H78 ⟨b10, 0, none⟩ re79 ∧ R (.tuple #[.agg re79, .int .i64 31]) H78) (∃ Y80, cell H20 (.add ⟨b8, 0, none⟩ 7) = some (.int .i64 Y80) ∧ br (decide (Y80 > 32768))
 (∃ v81, v81.size = 19 ∧ rowIn H20 ⟨b6, 0, none⟩ v81 ∧ v81.size = 19 ∧ stAt H20 ⟨b10, 0, none⟩ v81.toList fun H82 => ∃ re83, re83.size = 19 ∧ rowIn H82 ⟨b10, 0, none⟩ re83 ∧ R (.tuple #[.agg re83, .int .i64 31]) H82)
 (J31 [] H20)))))) → X18 [.int .i64 i19] H20) → X18 [.int .i64 0] H17) → J16 [] H17) →
 ∃ W84, cell H11 (.add ⟨b8, 0, none⟩ 8) = some (.int .i64 W84) ∧ br (decide (W84 < 1)) (∃ v85, v85.size = 19 ∧ rowIn H11 ⟨b6, 0, none⟩ v85 ∧ v85.size = 19 ∧ stAt H11 ⟨b10, 0, none⟩ v85.toList fun H86 => ∃ re87, re87.size = 19 ∧ rowIn H86 ⟨b10, 0, none⟩ re87 ∧ R (.tuple #[.agg re87, .int .i64 25]) H86) (∃ H88, cell H11 (.add ⟨b8, 0, none⟩ 9) = some (.int .i64 H88) ∧ br (decide (H88 < 1)) (∃ v89, v89.size = 19 ∧ rowIn H11 ⟨b6, 0, none⟩ v89 ∧ v89.size = 19 ∧ stAt H11 ⟨b10, 0, none⟩ v89.toList fun H90 => ∃ re91, re91.size = 19 ∧ rowIn H90 ⟨b10, 0, none⟩ re91 ∧ R (.tuple #[.agg re91, .int .i64 25]) H90) (∃ W92, cell H11 (.add ⟨b8, 0, none⟩ 8) = some (.int .i64 W92) ∧ br (decide (W92 > 32768)) (∃ v93, v93.size = 19 ∧ rowIn H11 ⟨b6, 0, none⟩ v93 ∧ v93.size = 19 ∧ stAt H11 ⟨b10, 0, none⟩ v93.toList fun H94 => ∃ re95, re95.size = 19 ∧ rowIn H94 ⟨b10, 0, none⟩ re95 ∧ R (.tuple #[.agg re95, .int .i64 25]) H94) (∃ H96, cell H11 (.add ⟨b8, 0, none⟩ 9) = some (.int .i64 H96) ∧ br (decide (H96 > 32768)) (∃ v97, v97.size = 19 ∧ rowIn H11 ⟨b6, 0, none⟩ v97 ∧ v97.size = 19 ∧ stAt H11 ⟨b10, 0, none⟩ v97.toList fun H98 => ∃ re99, re99.size = 19 ∧ rowIn H98 ⟨b10, 0, none⟩ re99 ∧ R (.tuple #[.agg re99, .int .i64 25]) H98) (∃ P100p P100l P100c, cell H11 (.add ⟨b8, 0, none⟩ 10) = some (.slice P100p P100l P100c) ∧ ∃ W101, cell H11 (.add ⟨b8, 0, none⟩ 8) = some (.int .i64 W101) ∧ ∃ H102, cell H11 (.add ⟨b8, 0, none⟩ 9) = some (.int .i64 H102) ∧ br (((P100l : Int) : Int) != (wrap .i64 (W101 * H102)))
 (∃ v103, v103.size = 19 ∧ rowIn H11 ⟨b6, 0, none⟩ v103 ∧ v103.size = 19 ∧ stAt H11 ⟨b10, 0, none⟩ v103.toList fun H104 => ∃ re105, re105.size = 19 ∧ rowIn H104 ⟨b10, 0, none⟩ re105 ∧ R (.tuple #[.agg re105, .int .i64 25]) H104)
 (J16 [] H11))))))
def Tryz.p58 : Plan := (tl (tg (two (join [] [4, 5, 6] g0) (two (tl (one (loop [(8, 3)] [4, 5, 6] (two (tl (tl leaf)) (two (one g0) leaf))))) (two (join [] [4, 5, 6] g0) (tl (two (tl (one (loop [(9, 3)] [4, 5, 6] (two (tl (tl leaf)) (two (one (tl (one (loop [(10, 3)] [4, 5, 6, 9] (two (tl (tl leaf)) (two (join [] [4, 5, 6, 9, 10] (one (tl (tl leaf)))) leaf)))))) leaf))))) (tl leaf))))))))
theorem Tryz.s58 {d1 l2 e3 : AV} {H R} (h : Tryz.S58 d1 l2 e3 H R) : Tryz.C 58 #[.agg d1, .agg l2, .agg e3] H R := vcs Tryz.tab_ok Tryz.mixed Tryz.func58 Tryz.cal58 Tryz.p58 h (by kernel_rfl)
def Tryz.S59 (d1 l2 e3 : AV) (H : Heap) (R : Kv) : Prop :=
 alc H (.cells d1 33) fun b4 H5 => alc H5 (.cells l2 95) fun b6 H7 => alc H7 (.cells e3 80) fun b8 H9 => alc H9 (.cells #[.int .i64 0, .int .i64 0, .int .i64 0, .bool false, .int .i64 0, .int .i64 0, .int .i64 0, .int .i64 0, .slice none 0 0, .slice none 0 0, .int .i64 0, .int .i64 0, .int .i64 0, .int .i64 0, .int .i64 0, .int .i64 0, .bool false, .int .i64 0, .slice none 0 0] 95) fun b10 H11 => ∀ J12 : Kl, (∀ H13, (∃ N14, cell H13 (.add ⟨b8, 0, none⟩ 4) = some (.int .i64 N14) ∧ br (N14 == 2)
 (stAt H13 (.add ⟨b6, 0, none⟩ 9) [.slice none 0 0] fun H15 => ∃ v16, v16.size = 19 ∧ rowIn H15 ⟨b6, 0, none⟩ v16 ∧ v16.size = 19 ∧ stAt H15 ⟨b10, 0, none⟩ v16.toList fun H17 => ∃ re18, re18.size = 19 ∧ rowIn H17 ⟨b10, 0, none⟩ re18 ∧ R (.tuple #[.agg re18, .int .i64 0]) H17)
 (∃ Sh19p Sh19l Sh19c, cell H13 (.add ⟨b8, 0, none⟩ 11) = some (.slice Sh19p Sh19l Sh19c) ∧ Tryz.C 77 #[.slice Sh19p Sh19l Sh19c] H13 fun r20 H21 => ∃ r22, r20 = .bool r22 ∧ br (!r22)
 (∃ v23, v23.size = 19 ∧ rowIn H21 ⟨b6, 0, none⟩ v23 ∧ v23.size = 19 ∧ stAt H21 ⟨b10, 0, none⟩ v23.toList fun H24 => ∃ re25, re25.size = 19 ∧ rowIn H24 ⟨b10, 0, none⟩ re25 ∧ R (.tuple #[.agg re25, .int .i64 31]) H24)
 (∃ W26, cell H21 (.add ⟨b4, 0, none⟩ 0) = some (.int .i64 W26) ∧ ∃ H27, cell H21 (.add ⟨b4, 0, none⟩ 1) = some (.int .i64 H27) ∧ 0 ≤ (wrap .i64 (W26 * H27)) ∧ (wrap .i64 (W26 * H27)) ≤ (wrap .i64 (W26 * H27)) ∧ ((1 : Nat) : Int) * (wrap .i64 (W26 * H27)) ≤ 281474976710656 ∧ (wrap .i64 (W26 * H27)) ≤ 281474976710656 ∧ alc H21 (.cells (List.toArray (reps (toNat (wrap .i64 (W26 * H27))) (Array.toList #[.int .u8 0]))) 5) fun b28 H29 => stAt H29 (.add ⟨b6, 0, none⟩ 9) [.slice (some ⟨b28, 0, none⟩) (toNat (wrap .i64 (W26 * H27))) (toNat (wrap .i64 (W26 * H27)))] fun H30 => ∀ X31 : Kl, (∀ (i32 : Int) H33, (∃ W34, cell H33 (.add ⟨b4, 0, none⟩ 0) = some (.int .i64 W34) ∧ ∃ H35, cell H33 (.add ⟨b4, 0, none⟩ 1) = some (.int .i64 H35) ∧ br (decide (i32 < (wrap .i64 (W34 * H35))))
 (∃ Sh36p Sh36l Sh36c, cell H33 (.add ⟨b8, 0, none⟩ 11) = some (.slice Sh36p Sh36l Sh36c) ∧ ∃ W37, cell H33 (.add ⟨b4, 0, none⟩ 0) = some (.int .i64 W37) ∧ W37 ≠ 0 ∧ ∃ W38, cell H33 (.add ⟨b4, 0, none⟩ 0) = some (.int .i64 W38) ∧ W38 ≠ 0 ∧ ∃ N39, cell H33 (.add ⟨b8, 0, none⟩ 4) = some (.int .i64 N39) ∧ Tryz.C 78 #[.slice Sh36p Sh36l Sh36c, .int .i64 (Int.tmod i32 W37), .int .i64 (wrap .i64 (Int.tdiv i32 W38))] H33 fun r40 H41 => ∃ r42, r40 = .bool r42 ∧ (Ext H33 H41 ∨ (∃ N46, cell H41 (.add ⟨b8, 0, none⟩ 4) = some (.int .i64 N46) ∧ Value.int .i64 N46 = .int .i64 N39)) ∧ br (!(r42 == (N39 == 1)))
 (∃ Ma43p Ma43l Ma43c, cell H41 (.add ⟨b6, 0, none⟩ 9) = some (.slice Ma43p Ma43l Ma43c) ∧ ∃ a44, Ma43p = some a44 ∧ 0 ≤ i32 ∧ i32 < (Ma43l : Int) ∧ stAt H41 (.add a44 (toNat i32 * 1)) [.int .u8 255] fun H45 => X31 [.int .i64 (wrap .i64 (i32 + 1))] H45)
 (X31 [.int .i64 (wrap .i64 (i32 + 1))] H41))
 (∃ v47, v47.size = 19 ∧ rowIn H33 ⟨b6, 0, none⟩ v47 ∧ v47.size = 19 ∧ stAt H33 ⟨b10, 0, none⟩ v47.toList fun H48 => ∃ re49, re49.size = 19 ∧ rowIn H48 ⟨b10, 0, none⟩ re49 ∧ R (.tuple #[.agg re49, .int .i64 0]) H48)) → X31 [.int .i64 i32] H33) → X31 [.int .i64 0] H30))) → J12 [] H13) →
 ∃ N50, cell H11 (.add ⟨b8, 0, none⟩ 4) = some (.int .i64 N50) ∧ br (decide (N50 < 0)) (∃ v51, v51.size = 19 ∧ rowIn H11 ⟨b6, 0, none⟩ v51 ∧ v51.size = 19 ∧ stAt H11 ⟨b10, 0, none⟩ v51.toList fun H52 => ∃ re53, re53.size = 19 ∧ rowIn H52 ⟨b10, 0, none⟩ re53 ∧ R (.tuple #[.agg re53, .int .i64 32]) H52) (∃ N54, cell H11 (.add ⟨b8, 0, none⟩ 4) = some (.int .i64 N54) ∧ br (decide (N54 > 2))
 (∃ v55, v55.size = 19 ∧ rowIn H11 ⟨b6, 0, none⟩ v55 ∧ v55.size = 19 ∧ stAt H11 ⟨b10, 0, none⟩ v55.toList fun H56 => ∃ re57, re57.size = 19 ∧ rowIn H56 ⟨b10, 0, none⟩ re57 ∧ R (.tuple #[.agg re57, .int .i64 32]) H56)
 (J12 [] H11))
def Tryz.p59 : Plan := (tl (two (join [] [3, 4, 5, 6] g0) (two (tl (two (tl (tl leaf)) leaf)) (tg (tl (two (tl (one (loop [(8, 3)] [3, 4, 5, 6] (two (tl (tl leaf)) (two (one (tl (tl leaf))) leaf))))) (tl leaf)))))))
theorem Tryz.s59 {d1 l2 e3 : AV} {H R} (h : Tryz.S59 d1 l2 e3 H R) : Tryz.C 59 #[.agg d1, .agg l2, .agg e3] H R := vcs Tryz.tab_ok Tryz.mixed Tryz.func59 Tryz.cal59 Tryz.p59 h (by kernel_rfl)
def Tryz.S60 (m1 : AV) (H : Heap) (R : Kv) : Prop :=
 alc H (.cells m1 78) fun b2 H3 => alc H3 (.cells #[.int .i64 0, .int .i64 0, .int .i64 0, .int .i64 0, .int .i64 0, .int .i64 0] 78) fun b4 H5 => ∃ v6, v6.size = 6 ∧ rowIn H5 ⟨b2, 0, none⟩ v6 ∧ Tryz.C 79 #[.agg v6] H5 fun r7 H8 => ∃ r9, r7 = .bool r9 ∧ br (!r9)
 (#[Value.int .i64 0, Value.int .i64 0, Value.int .i64 0, Value.int .i64 0, Value.int .i64 0, Value.int .i64 0].size = 6 ∧ stAt H8 ⟨b4, 0, none⟩ (Array.toList #[.int .i64 0, .int .i64 0, .int .i64 0, .int .i64 0, .int .i64 0, .int .i64 0]) fun H10 => ∃ re11, re11.size = 6 ∧ rowIn H10 ⟨b4, 0, none⟩ re11 ∧ R (.tuple #[.agg re11, .int .i64 31]) H10)
 (0 ≤ (0 : Int) ∧ (0 : Int) < ((6 : Nat) : Int) ∧ ∃ v12, cell H8 (.add ⟨b2, 0, none⟩ (toNat (0 : Int) * 1)) = some (.int .i64 v12) ∧ 0 ≤ (3 : Int) ∧ (3 : Int) < ((6 : Nat) : Int) ∧ ∃ v13, cell H8 (.add ⟨b2, 0, none⟩ (toNat (3 : Int) * 1)) = some (.int .i64 v13) ∧ 0 ≤ (1 : Int) ∧ (1 : Int) < ((6 : Nat) : Int) ∧ ∃ v14, cell H8 (.add ⟨b2, 0, none⟩ (toNat (1 : Int) * 1)) = some (.int .i64 v14) ∧ 0 ≤ (2 : Int) ∧ (2 : Int) < ((6 : Nat) : Int) ∧ ∃ v15, cell H8 (.add ⟨b2, 0, none⟩ (toNat (2 : Int) * 1)) = some (.int .i64 v15) ∧ br (((wrap .i64 ((wrap .i64 (v12 * v13)) - (wrap .i64 (v14 * v15)))) : Int) == 0)
 (#[Value.int .i64 0, Value.int .i64 0, Value.int .i64 0, Value.int .i64 0, Value.int .i64 0, Value.int .i64 0].size = 6 ∧ stAt H8 ⟨b4, 0, none⟩ (Array.toList #[.int .i64 0, .int .i64 0, .int .i64 0, .int .i64 0, .int .i64 0, .int .i64 0]) fun H16 => ∃ re17, re17.size = 6 ∧ rowIn H16 ⟨b4, 0, none⟩ re17 ∧ R (.tuple #[.agg re17, .int .i64 33]) H16)
 (∀ J18 : Kl, (∀ (ou19 : Addr) H20, (∃ v21, v21.size = 6 ∧ rowIn H20 ou19 v21 ∧ Tryz.C 79 #[.agg v21] H20 fun r22 H23 => ∃ r24, r22 = .bool r24 ∧ br (!r24)
 (#[Value.int .i64 0, Value.int .i64 0, Value.int .i64 0, Value.int .i64 0, Value.int .i64 0, Value.int .i64 0].size = 6 ∧ stAt H23 ⟨b4, 0, none⟩ (Array.toList #[.int .i64 0, .int .i64 0, .int .i64 0, .int .i64 0, .int .i64 0, .int .i64 0]) fun H25 => ∃ re26, re26.size = 6 ∧ rowIn H25 ⟨b4, 0, none⟩ re26 ∧ R (.tuple #[.agg re26, .int .i64 33]) H25)
 (0 ≤ (0 : Int) ∧ (0 : Int) < ((6 : Nat) : Int) ∧ ∃ v27, cell H23 (.add ou19 (toNat (0 : Int) * 1)) = some (.int .i64 v27) ∧ 0 ≤ (4 : Int) ∧ (4 : Int) < ((6 : Nat) : Int) ∧ ∃ v28, cell H23 (.add ⟨b2, 0, none⟩ (toNat (4 : Int) * 1)) = some (.int .i64 v28) ∧ 0 ≤ (1 : Int) ∧ (1 : Int) < ((6 : Nat) : Int) ∧ ∃ v29, cell H23 (.add ou19 (toNat (1 : Int) * 1)) = some (.int .i64 v29) ∧ 0 ≤ (5 : Int) ∧ (5 : Int) < ((6 : Nat) : Int) ∧ ∃ v30, cell H23 (.add ⟨b2, 0, none⟩ (toNat (5 : Int) * 1)) = some (.int .i64 v30) ∧ Tryz.C 81 #[.int .i64 (wrap .i64 (0 - (wrap .i64 ((wrap .i64 (v27 * v28)) + (wrap .i64 (v29 * v30))))))] H23 fun r31 H32 => ∃ r33, r31 = .int .i64 r33 ∧ 0 ≤ (4 : Int) ∧ (4 : Int) < ((6 : Nat) : Int) ∧ stAt H32 (.add ou19 (toNat (4 : Int) * 1)) [.int .i64 r33] fun H34 => 0 ≤ (2 : Int) ∧ (2 : Int) < ((6 : Nat) : Int) ∧ ∃ v35, cell H34 (.add ou19 (toNat (2 : Int) * 1)) = some (.int .i64 v35) ∧ 0 ≤ (4 : Int) ∧ (4 : Int) < ((6 : Nat) : Int) ∧ ∃ v36, cell H34 (.add ⟨b2, 0, none⟩ (toNat (4 : Int) * 1)) = some (.int .i64 v36) ∧ 0 ≤ (3 : Int) ∧ (3 : Int) < ((6 : Nat) : Int) ∧ ∃ v37, cell H34 (.add ou19 (toNat (3 : Int) * 1)) = some (.int .i64 v37) ∧ 0 ≤ (5 : Int) ∧ (5 : Int) < ((6 : Nat) : Int) ∧ ∃ v38, cell H34 (.add ⟨b2, 0, none⟩ (toNat (5 : Int) * 1)) = some (.int .i64 v38) ∧ Tryz.C 81 #[.int .i64 (wrap .i64 (0 - (wrap .i64 ((wrap .i64 (v35 * v36)) + (wrap .i64 (v37 * v38))))))] H34 fun r39 H40 => ∃ r41, r39 = .int .i64 r41 ∧ 0 ≤ (5 : Int) ∧ (5 : Int) < ((6 : Nat) : Int) ∧ stAt H40 (.add ou19 (toNat (5 : Int) * 1)) [.int .i64 r41] fun H42 => ∃ v43, v43.size = 6 ∧ rowIn H42 ou19 v43 ∧ Tryz.C 79 #[.agg v43] H42 fun r44 H45 => ∃ r46, r44 = .bool r46 ∧ br (!r46)
 (#[Value.int .i64 0, Value.int .i64 0, Value.int .i64 0, Value.int .i64 0, Value.int .i64 0, Value.int .i64 0].size = 6 ∧ stAt H45 ⟨b4, 0, none⟩ (Array.toList #[.int .i64 0, .int .i64 0, .int .i64 0, .int .i64 0, .int .i64 0, .int .i64 0]) fun H47 => ∃ re48, re48.size = 6 ∧ rowIn H47 ⟨b4, 0, none⟩ re48 ∧ R (.tuple #[.agg re48, .int .i64 33]) H47)
 (∃ v49, v49.size = 6 ∧ rowIn H45 ou19 v49 ∧ v49.size = 6 ∧ stAt H45 ⟨b4, 0, none⟩ v49.toList fun H50 => ∃ re51, re51.size = 6 ∧ rowIn H50 ⟨b4, 0, none⟩ re51 ∧ R (.tuple #[.agg re51, .int .i64 0]) H50))) → J18 [.pointer (some ou19)] H20) →
 0 ≤ (3 : Int) ∧ (3 : Int) < ((6 : Nat) : Int) ∧ ∃ v52, cell H8 (.add ⟨b2, 0, none⟩ (toNat (3 : Int) * 1)) = some (.int .i64 v52) ∧ 0 ≤ (1 : Int) ∧ (1 : Int) < ((6 : Nat) : Int) ∧ ∃ v53, cell H8 (.add ⟨b2, 0, none⟩ (toNat (1 : Int) * 1)) = some (.int .i64 v53) ∧ 0 ≤ (2 : Int) ∧ (2 : Int) < ((6 : Nat) : Int) ∧ ∃ v54, cell H8 (.add ⟨b2, 0, none⟩ (toNat (2 : Int) * 1)) = some (.int .i64 v54) ∧ 0 ≤ (0 : Int) ∧ (0 : Int) < ((6 : Nat) : Int) ∧ ∃ v55, cell H8 (.add ⟨b2, 0, none⟩ (toNat (0 : Int) * 1)) = some (.int .i64 v55) ∧ (Tryz.C 80 #[.int .i64 (wrap .i64 (v52 * 4294967296)), .int .i64 (wrap .i64 ((wrap .i64 (v12 * v13)) - (wrap .i64 (v14 * v15))))] H8 fun r56 H57 => ∃ r58, r56 = .int .i64 r58 ∧ (Ext H8 H57 ∨ (∃ v111, cell H57 (.add ⟨b2, 0, none⟩ (toNat (0 : Int) * 1)) = some (.int .i64 v111) ∧ Value.int .i64 v111 = .int .i64 v55) ∧ (∃ v112, cell H57 (.add ⟨b2, 0, none⟩ (toNat (2 : Int) * 1)) = some (.int .i64 v112) ∧ Value.int .i64 v112 = .int .i64 v54) ∧ (∃ v113, cell H57 (.add ⟨b2, 0, none⟩ (toNat (1 : Int) * 1)) = some (.int .i64 v113) ∧ Value.int .i64 v113 = .int .i64 v53)) ∧ (Tryz.C 80 #[.int .i64 (wrap .i64 ((wrap .i64 (0 - v53)) * 4294967296)), .int .i64 (wrap .i64 ((wrap .i64 (v12 * v13)) - (wrap .i64 (v14 * v15))))] H57 fun r59 H60 => ∃ r61, r59 = .int .i64 r61 ∧ (Ext H57 H60 ∨ (∃ v91, cell H60 (.add ⟨b2, 0, none⟩ (toNat (0 : Int) * 1)) = some (.int .i64 v91) ∧ Value.int .i64 v91 = .int .i64 v55) ∧ (∃ v92, cell H60 (.add ⟨b2, 0, none⟩ (toNat (2 : Int) * 1)) = some (.int .i64 v92) ∧ Value.int .i64 v92 = .int .i64 v54)) ∧ (Tryz.C 80 #[.int .i64 (wrap .i64 ((wrap .i64 (0 - v54)) * 4294967296)), .int .i64 (wrap .i64 ((wrap .i64 (v12 * v13)) - (wrap .i64 (v14 * v15))))] H60 fun r62 H63 => ∃ r64, r62 = .int .i64 r64 ∧ (Ext H60 H63 ∨ (∃ v78, cell H63 (.add ⟨b2, 0, none⟩ (toNat (0 : Int) * 1)) = some (.int .i64 v78) ∧ Value.int .i64 v78 = .int .i64 v55)) ∧ (Tryz.C 80 #[.int .i64 (wrap .i64 (v55 * 4294967296)), .int .i64 (wrap .i64 ((wrap .i64 (v12 * v13)) - (wrap .i64 (v14 * v15))))] H63 fun r65 H66 => ∃ r67, r65 = .int .i64 r67 ∧ alc H66 (.cells #[.int .i64 0, .int .i64 0, .int .i64 0, .int .i64 0, .int .i64 0, .int .i64 0] 78) fun b68 H69 => #[Value.int .i64 r58, Value.int .i64 r61, Value.int .i64 r64, Value.int .i64 r67, Value.int .i64 0, Value.int .i64 0].size = 6 ∧ stAt H69 ⟨b68, 0, none⟩ (Array.toList #[.int .i64 r58, .int .i64 r61, .int .i64 r64, .int .i64 r67, .int .i64 0, .int .i64 0]) fun H70 => J18 [.pointer (some ⟨b68, 0, none⟩)] H70) ∧ (alc H63 (.cells #[.int .i64 0, .int .i64 0, .int .i64 0, .int .i64 0, .int .i64 0, .int .i64 0] 78) fun b71 H72 => (Ext H63 H72 ∨ (∃ v77, cell H72 (.add ⟨b2, 0, none⟩ (toNat (0 : Int) * 1)) = some (.int .i64 v77) ∧ Value.int .i64 v77 = .int .i64 v55)) ∧ Tryz.C 80 #[.int .i64 (wrap .i64 (v55 * 4294967296)), .int .i64 (wrap .i64 ((wrap .i64 (v12 * v13)) - (wrap .i64 (v14 * v15))))] H72 fun r73 H74 => ∃ r75, r73 = .int .i64 r75 ∧ #[Value.int .i64 r58, Value.int .i64 r61, Value.int .i64 r64, Value.int .i64 r75, Value.int .i64 0, Value.int .i64 0].size = 6 ∧ stAt H74 ⟨b71, 0, none⟩ (Array.toList #[.int .i64 r58, .int .i64 r61, .int .i64 r64, .int .i64 r75, .int .i64 0, .int .i64 0]) fun H76 => J18 [.pointer (some ⟨b71, 0, none⟩)] H76)) ∧ (alc H60 (.cells #[.int .i64 0, .int .i64 0, .int .i64 0, .int .i64 0, .int .i64 0, .int .i64 0] 78) fun b79 H80 => (Ext H60 H80 ∨ (∃ v89, cell H80 (.add ⟨b2, 0, none⟩ (toNat (0 : Int) * 1)) = some (.int .i64 v89) ∧ Value.int .i64 v89 = .int .i64 v55) ∧ (∃ v90, cell H80 (.add ⟨b2, 0, none⟩ (toNat (2 : Int) * 1)) = some (.int .i64 v90) ∧ Value.int .i64 v90 = .int .i64 v54)) ∧ Tryz.C 80 #[.int .i64 (wrap .i64 ((wrap .i64 (0 - v54)) * 4294967296)), .int .i64 (wrap .i64 ((wrap .i64 (v12 * v13)) - (wrap .i64 (v14 * v15))))] H80 fun r81 H82 => ∃ r83, r81 = .int .i64 r83 ∧ (Ext H80 H82 ∨ (∃ v88, cell H82 (.add ⟨b2, 0, none⟩ (toNat (0 : Int) * 1)) = some (.int .i64 v88) ∧ Value.int .i64 v88 = .int .i64 v55)) ∧ Tryz.C 80 #[.int .i64 (wrap .i64 (v55 * 4294967296)), .int .i64 (wrap .i64 ((wrap .i64 (v12 * v13)) - (wrap .i64 (v14 * v15))))] H82 fun r84 H85 => ∃ r86, r84 = .int .i64 r86 ∧ #[Value.int .i64 r58, Value.int .i64 r61, Value.int .i64 r83, Value.int .i64 r86, Value.int .i64 0, Value.int .i64 0].size = 6 ∧ stAt H85 ⟨b79, 0, none⟩ (Array.toList #[.int .i64 r58, .int .i64 r61, .int .i64 r83, .int .i64 r86, .int .i64 0, .int .i64 0]) fun H87 => J18 [.pointer (some ⟨b79, 0, none⟩)] H87)) ∧ (alc H57 (.cells #[.int .i64 0, .int .i64 0, .int .i64 0, .int .i64 0, .int .i64 0, .int .i64 0] 78) fun b93 H94 => (Ext H57 H94 ∨ (∃ v108, cell H94 (.add ⟨b2, 0, none⟩ (toNat (0 : Int) * 1)) = some (.int .i64 v108) ∧ Value.int .i64 v108 = .int .i64 v55) ∧ (∃ v109, cell H94 (.add ⟨b2, 0, none⟩ (toNat (2 : Int) * 1)) = some (.int .i64 v109) ∧ Value.int .i64 v109 = .int .i64 v54) ∧ (∃ v110, cell H94 (.add ⟨b2, 0, none⟩ (toNat (1 : Int) * 1)) = some (.int .i64 v110) ∧ Value.int .i64 v110 = .int .i64 v53)) ∧ Tryz.C 80 #[.int .i64 (wrap .i64 ((wrap .i64 (0 - v53)) * 4294967296)), .int .i64 (wrap .i64 ((wrap .i64 (v12 * v13)) - (wrap .i64 (v14 * v15))))] H94 fun r95 H96 => ∃ r97, r95 = .int .i64 r97 ∧ (Ext H94 H96 ∨ (∃ v106, cell H96 (.add ⟨b2, 0, none⟩ (toNat (0 : Int) * 1)) = some (.int .i64 v106) ∧ Value.int .i64 v106 = .int .i64 v55) ∧ (∃ v107, cell H96 (.add ⟨b2, 0, none⟩ (toNat (2 : Int) * 1)) = some (.int .i64 v107) ∧ Value.int .i64 v107 = .int .i64 v54)) ∧ Tryz.C 80 #[.int .i64 (wrap .i64 ((wrap .i64 (0 - v54)) * 4294967296)), .int .i64 (wrap .i64 ((wrap .i64 (v12 * v13)) - (wrap .i64 (v14 * v15))))] H96 fun r98 H99 => ∃ r100, r98 = .int .i64 r100 ∧ (Ext H96 H99 ∨ (∃ v105, cell H99 (.add ⟨b2, 0, none⟩ (toNat (0 : Int) * 1)) = some (.int .i64 v105) ∧ Value.int .i64 v105 = .int .i64 v55)) ∧ Tryz.C 80 #[.int .i64 (wrap .i64 (v55 * 4294967296)), .int .i64 (wrap .i64 ((wrap .i64 (v12 * v13)) - (wrap .i64 (v14 * v15))))] H99 fun r101 H102 => ∃ r103, r101 = .int .i64 r103 ∧ #[Value.int .i64 r58, Value.int .i64 r97, Value.int .i64 r100, Value.int .i64 r103, Value.int .i64 0, Value.int .i64 0].size = 6 ∧ stAt H102 ⟨b93, 0, none⟩ (Array.toList #[.int .i64 r58, .int .i64 r97, .int .i64 r100, .int .i64 r103, .int .i64 0, .int .i64 0]) fun H104 => J18 [.pointer (some ⟨b93, 0, none⟩)] H104)) ∧ (alc H8 (.cells #[.int .i64 0, .int .i64 0, .int .i64 0, .int .i64 0, .int .i64 0, .int .i64 0] 78) fun b114 H115 => (Ext H8 H115 ∨ (∃ v135, cell H115 (.add ⟨b2, 0, none⟩ (toNat (0 : Int) * 1)) = some (.int .i64 v135) ∧ Value.int .i64 v135 = .int .i64 v55) ∧ (∃ v136, cell H115 (.add ⟨b2, 0, none⟩ (toNat (2 : Int) * 1)) = some (.int .i64 v136) ∧ Value.int .i64 v136 = .int .i64 v54) ∧ (∃ v137, cell H115 (.add ⟨b2, 0, none⟩ (toNat (1 : Int) * 1)) = some (.int .i64 v137) ∧ Value.int .i64 v137 = .int .i64 v53) ∧ (∃ v138, cell H115 (.add ⟨b2, 0, none⟩ (toNat (3 : Int) * 1)) = some (.int .i64 v138) ∧ Value.int .i64 v138 = .int .i64 v52)) ∧ Tryz.C 80 #[.int .i64 (wrap .i64 (v52 * 4294967296)), .int .i64 (wrap .i64 ((wrap .i64 (v12 * v13)) - (wrap .i64 (v14 * v15))))] H115 fun r116 H117 => ∃ r118, r116 = .int .i64 r118 ∧ (Ext H115 H117 ∨ (∃ v132, cell H117 (.add ⟨b2, 0, none⟩ (toNat (0 : Int) * 1)) = some (.int .i64 v132) ∧ Value.int .i64 v132 = .int .i64 v55) ∧ (∃ v133, cell H117 (.add ⟨b2, 0, none⟩ (toNat (2 : Int) * 1)) = some (.int .i64 v133) ∧ Value.int .i64 v133 = .int .i64 v54) ∧ (∃ v134, cell H117 (.add ⟨b2, 0, none⟩ (toNat (1 : Int) * 1)) = some (.int .i64 v134) ∧ Value.int .i64 v134 = .int .i64 v53)) ∧ Tryz.C 80 #[.int .i64 (wrap .i64 ((wrap .i64 (0 - v53)) * 4294967296)), .int .i64 (wrap .i64 ((wrap .i64 (v12 * v13)) - (wrap .i64 (v14 * v15))))] H117 fun r119 H120 => ∃ r121, r119 = .int .i64 r121 ∧ (Ext H117 H120 ∨ (∃ v130, cell H120 (.add ⟨b2, 0, none⟩ (toNat (0 : Int) * 1)) = some (.int .i64 v130) ∧ Value.int .i64 v130 = .int .i64 v55) ∧ (∃ v131, cell H120 (.add ⟨b2, 0, none⟩ (toNat (2 : Int) * 1)) = some (.int .i64 v131) ∧ Value.int .i64 v131 = .int .i64 v54)) ∧ Tryz.C 80 #[.int .i64 (wrap .i64 ((wrap .i64 (0 - v54)) * 4294967296)), .int .i64 (wrap .i64 ((wrap .i64 (v12 * v13)) - (wrap .i64 (v14 * v15))))] H120 fun r122 H123 => ∃ r124, r122 = .int .i64 r124 ∧ (Ext H120 H123 ∨ (∃ v129, cell H123 (.add ⟨b2, 0, none⟩ (toNat (0 : Int) * 1)) = some (.int .i64 v129) ∧ Value.int .i64 v129 = .int .i64 v55)) ∧ Tryz.C 80 #[.int .i64 (wrap .i64 (v55 * 4294967296)), .int .i64 (wrap .i64 ((wrap .i64 (v12 * v13)) - (wrap .i64 (v14 * v15))))] H123 fun r125 H126 => ∃ r127, r125 = .int .i64 r127 ∧ #[Value.int .i64 r118, Value.int .i64 r121, Value.int .i64 r124, Value.int .i64 r127, Value.int .i64 0, Value.int .i64 0].size = 6 ∧ stAt H126 ⟨b114, 0, none⟩ (Array.toList #[.int .i64 r118, .int .i64 r121, .int .i64 r124, .int .i64 r127, .int .i64 0, .int .i64 0]) fun H128 => J18 [.pointer (some ⟨b114, 0, none⟩)] H128)))
def Tryz.p60 : Plan := (tl (tg (tl (tg (tl (two (join [(6, 999999)] [1, 2] leaf) (tg (tl (tl (tg (tl leaf)))))))))))
theorem Tryz.s60 {m1 : AV} {H R} (h : Tryz.S60 m1 H R) : Tryz.C 60 #[.agg m1] H R := vcs Tryz.tab_ok Tryz.mixed Tryz.func60 Tryz.cal60 Tryz.p60 h (by kernel_rfl)
def Tryz.S61 (ki1 : Int) (p2p : OA) (p2l p2c : Nat) (H : Heap) (R : Kv) : Prop :=
 ∀ X3 : Kl, (∀ (i4 : Int) H5, (br (decide (i4 < (p2l : Int)))
 (∃ a6, p2p = some a6 ∧ 0 ≤ i4 ∧ i4 < (p2l : Int) ∧ ∃ v7, cell H5 (.add a6 (toNat i4 * 1)) = some (.int .i64 v7) ∧ br (decide (v7 < 0)) (R (.tuple #[.slice none 0 0, .bool false]) H5) (∃ a8, p2p = some a8 ∧ 0 ≤ i4 ∧ i4 < (p2l : Int) ∧ ∃ v9, cell H5 (.add a8 (toNat i4 * 1)) = some (.int .i64 v9) ∧ br (decide (v9 > 255))
 (R (.tuple #[.slice none 0 0, .bool false]) H5)
 (X3 [.int .i64 (wrap .i64 (i4 + 1))] H5)))
 (0 ≤ (256 : Int) ∧ (256 : Int) ≤ (256 : Int) ∧ ((8 : Nat) : Int) * (256 : Int) ≤ 281474976710656 ∧ (256 : Int) ≤ 281474976710656 ∧ alc H5 (.cells (List.toArray (reps (toNat 256) (Array.toList #[.int .i64 0]))) 3) fun b10 H11 => br (ki1 == 0)
 (∀ J12 : Kl, (∀ H13, (∀ X14 : Kl, (∀ (v15 : Int) H16, (br (decide (v15 < 256))
 (∃ a17, p2p = some a17 ∧ 0 ≤ (1 : Int) ∧ (1 : Int) < (p2l : Int) ∧ ∃ v18, cell H16 (.add a17 (toNat (1 : Int) * 1)) = some (.int .i64 v18) ∧ br (decide (v15 ≥ v18))
 (∃ a19, (some ⟨b10, 0, none⟩) = some a19 ∧ 0 ≤ v15 ∧ v15 < (((toNat 256) : Nat) : Int) ∧ stAt H16 (.add a19 (toNat v15 * 1)) [.int .i64 255] fun H20 => X14 [.int .i64 (wrap .i64 (v15 + 1))] H20)
 (∃ a21, p2p = some a21 ∧ 0 ≤ (0 : Int) ∧ (0 : Int) < (p2l : Int) ∧ ∃ v22, cell H16 (.add a21 (toNat (0 : Int) * 1)) = some (.int .i64 v22) ∧ br (decide (v15 > v22))
 (∃ a23, p2p = some a23 ∧ 0 ≤ (0 : Int) ∧ (0 : Int) < (p2l : Int) ∧ ∃ v24, cell H16 (.add a23 (toNat (0 : Int) * 1)) = some (.int .i64 v24) ∧ ∃ a25, p2p = some a25 ∧ 0 ≤ (1 : Int) ∧ (1 : Int) < (p2l : Int) ∧ ∃ v26, cell H16 (.add a25 (toNat (1 : Int) * 1)) = some (.int .i64 v26) ∧ ∃ a27, p2p = some a27 ∧ 0 ≤ (0 : Int) ∧ (0 : Int) < (p2l : Int) ∧ ∃ v28, cell H16 (.add a27 (toNat (0 : Int) * 1)) = some (.int .i64 v28) ∧ (2 : Int) ≠ 0 ∧ ∃ a29, p2p = some a29 ∧ 0 ≤ (1 : Int) ∧ (1 : Int) < (p2l : Int) ∧ ∃ v30, cell H16 (.add a29 (toNat (1 : Int) * 1)) = some (.int .i64 v30) ∧ ∃ a31, p2p = some a31 ∧ 0 ≤ (0 : Int) ∧ (0 : Int) < (p2l : Int) ∧ ∃ v32, cell H16 (.add a31 (toNat (0 : Int) * 1)) = some (.int .i64 v32) ∧ (wrap .i64 (v30 - v32)) ≠ 0 ∧ ∃ a33, (some ⟨b10, 0, none⟩) = some a33 ∧ 0 ≤ v15 ∧ v15 < (((toNat 256) : Nat) : Int) ∧ stAt H16 (.add a33 (toNat v15 * 1)) [.int .i64 (wrap .i64 (Int.tdiv (wrap .i64 ((wrap .i64 ((255 : Int) * (wrap .i64 (v15 - v24)))) + (wrap .i64 (Int.tdiv (wrap .i64 (v26 - v28)) 2)))) (wrap .i64 (v30 - v32))))] fun H34 => X14 [.int .i64 (wrap .i64 (v15 + 1))] H34)
 (X14 [.int .i64 (wrap .i64 (v15 + 1))] H16)))
 (R (.tuple #[.slice (some ⟨b10, 0, none⟩) (toNat 256) (toNat 256), .bool true]) H16)) → X14 [.int .i64 v15] H16) → X14 [.int .i64 0] H13) → J12 [] H13) →
 br (((p2l : Int) : Int) != 2) (R (.tuple #[.slice none 0 0, .bool false]) H11) (∃ a35, p2p = some a35 ∧ 0 ≤ (0 : Int) ∧ (0 : Int) < (p2l : Int) ∧ ∃ v36, cell H11 (.add a35 (toNat (0 : Int) * 1)) = some (.int .i64 v36) ∧ ∃ a37, p2p = some a37 ∧ 0 ≤ (1 : Int) ∧ (1 : Int) < (p2l : Int) ∧ ∃ v38, cell H11 (.add a37 (toNat (1 : Int) * 1)) = some (.int .i64 v38) ∧ br (decide (v36 ≥ v38))
 (R (.tuple #[.slice none 0 0, .bool false]) H11)
 (J12 [] H11)))
 (br (ki1 == 1)
 (∀ J39 : Kl, (∀ H40, (∀ X41 : Kl, (∀ (i42 : Int) H43, (br (decide (i42 < (p2l : Int)))
 (∃ a44, p2p = some a44 ∧ 0 ≤ i42 ∧ i42 < (p2l : Int) ∧ ∃ v45, cell H43 (.add a44 (toNat i42 * 1)) = some (.int .i64 v45) ∧ ∃ a46, p2p = some a46 ∧ 0 ≤ (wrap .i64 (i42 - 2)) ∧ (wrap .i64 (i42 - 2)) < (p2l : Int) ∧ ∃ v47, cell H43 (.add a46 (toNat (wrap .i64 (i42 - 2)) * 1)) = some (.int .i64 v47) ∧ br (decide (v45 ≤ v47))
 (R (.tuple #[.slice none 0 0, .bool false]) H43)
 (X41 [.int .i64 (wrap .i64 (i42 + 2))] H43))
 (∀ X48 : Kl, (∀ (v49 : Int) H50, (br (decide (v49 < 256))
 (Tryz.C 82 #[.slice p2p p2l p2c, .int .i64 v49] H50 fun r51 H52 => ∃ r53, r51 = .int .i64 r53 ∧ ∃ a54, (some ⟨b10, 0, none⟩) = some a54 ∧ 0 ≤ v49 ∧ v49 < (((toNat 256) : Nat) : Int) ∧ stAt H52 (.add a54 (toNat v49 * 1)) [.int .i64 r53] fun H55 => X48 [.int .i64 (wrap .i64 (v49 + 1))] H55)
 (R (.tuple #[.slice (some ⟨b10, 0, none⟩) (toNat 256) (toNat 256), .bool true]) H50)) → X48 [.int .i64 v49] H50) → X48 [.int .i64 0] H43)) → X41 [.int .i64 i42] H43) → X41 [.int .i64 2] H40) → J39 [] H40) →
 br (decide (((p2l : Int) : Int) < 2)) (R (.tuple #[.slice none 0 0, .bool false]) H11) (br (decide (((p2l : Int) : Int) > 32)) (R (.tuple #[.slice none 0 0, .bool false]) H11) ((2 : Int) ≠ 0 ∧ br (((Int.tmod (p2l : Int) 2) : Int) == 1)
 (R (.tuple #[.slice none 0 0, .bool false]) H11)
 (J39 [] H11))))
 (br (ki1 == 2)
 (∀ X56 : Kl, (∀ (v57 : Int) H58, (br (decide (v57 < 256))
 (∃ a59, (some ⟨b10, 0, none⟩) = some a59 ∧ 0 ≤ v57 ∧ v57 < (((toNat 256) : Nat) : Int) ∧ stAt H58 (.add a59 (toNat v57 * 1)) [.int .i64 (wrap .i64 ((255 : Int) - v57))] fun H60 => X56 [.int .i64 (wrap .i64 (v57 + 1))] H60)
 (R (.tuple #[.slice (some ⟨b10, 0, none⟩) (toNat 256) (toNat 256), .bool (((p2l : Int) : Int) == 0)]) H58)) → X56 [.int .i64 v57] H58) → X56 [.int .i64 0] H11)
 (br (ki1 == 3)
 (br (((p2l : Int) : Int) != 1)
 (R (.tuple #[.slice none 0 0, .bool false]) H11)
 (∃ a61, p2p = some a61 ∧ 0 ≤ (0 : Int) ∧ (0 : Int) < (p2l : Int) ∧ ∃ v62, cell H11 (.add a61 (toNat (0 : Int) * 1)) = some (.int .i64 v62) ∧ ∀ X63 : Kl, (∀ (v64 : Int) H65, (br (decide (v64 < 256))
 (∃ a66, (some ⟨b10, 0, none⟩) = some a66 ∧ 0 ≤ v64 ∧ v64 < (((toNat 256) : Nat) : Int) ∧ stAt H65 (.add a66 (toNat v64 * 1)) [.int .i64 255] fun H67 => X63 [.int .i64 (wrap .i64 (v64 + 1))] H67)
 (R (.tuple #[.slice (some ⟨b10, 0, none⟩) (toNat 256) (toNat 256), .bool true]) H65)) → X63 [.int .i64 v64] H65) → X63 [.int .i64 v62] H11))
 (R (.tuple #[.slice none 0 0, .bool false]) H11)))))) → X3 [.int .i64 i4] H5) → X3 [.int .i64 0] H
def Tryz.p61 : Plan := (tl (tl (two (tl (one (loop [(7, 3)] [0, 1, 6] (two (tl (tl leaf)) (two (one g0) leaf))))) (tl (two (tl (one (tl (two (two (join [] [1, 8] g0) (two (tl (one (loop [(9, 3)] [1, 8] (two (tl (tl leaf)) (two (one (tl (tl (tl (tl leaf))))) leaf))))) (tl leaf))) (tl (two (two (join [] [1, 6, 8] g0) (two (tl (one (loop [(10, 3)] [1, 6, 8] (two (tl (tl leaf)) (two (one g0) leaf))))) (two (tl (one (loop [(11, 3)] [1, 8] (two (tl (tl leaf)) (two (one leaf) leaf))))) (tl leaf)))) (tl (two (two (tl (one (loop [(12, 3)] [6, 8] (two (tl (tl leaf)) (two (one leaf) leaf))))) (tl leaf)) (tl (two (tg (two (tl (one (loop [(13, 3)] [8] (two (tl (tl leaf)) (two (one leaf) leaf))))) (tl leaf))) leaf)))))))))) (tl leaf))))))
theorem Tryz.s61 {ki1 : Int} {p2p : OA} {p2l p2c : Nat} {H R} (h : Tryz.S61 ki1 p2p p2l p2c H R) : Tryz.C 61 #[.int .i64 ki1, .slice p2p p2l p2c] H R := vcs Tryz.tab_ok Tryz.mixed Tryz.func61 Tryz.cal61 Tryz.p61 h (by kernel_rfl)
def Tryz.S62  (H : Heap) (R : Kv) : Prop :=
 alc H (.cells #[.int .i64 0, .int .i64 0, .int .i64 0, .int .i64 0, .int .i64 0, .int .i64 0] 45) fun b1 H2 => #[Value.int .i64 65536, Value.int .i64 0, Value.int .i64 0, Value.int .i64 65536, Value.int .i64 0, Value.int .i64 0].size = 6 ∧ stAt H2 ⟨b1, 0, none⟩ (Array.toList #[.int .i64 65536, .int .i64 0, .int .i64 0, .int .i64 65536, .int .i64 0, .int .i64 0]) fun H3 => ∃ re4, re4.size = 6 ∧ rowIn H3 ⟨b1, 0, none⟩ re4 ∧ R (.agg re4) H3
def Tryz.p62 : Plan := (tl (tl leaf))
theorem Tryz.s62 {_u : Unit} {H R} (h : Tryz.S62  H R) : Tryz.C 62 #[] H R := vcs Tryz.tab_ok Tryz.mixed Tryz.func62 Tryz.cal62 Tryz.p62 h (by kernel_rfl)
def Tryz.S63 (w1 : AV) (H : Heap) (R : Kv) : Prop :=
 alc H (.cells w1 106) fun b2 H3 => ∃ To4, cell H3 (.add (.add ⟨b2, 0, none⟩ 2) 2) = some (.int .i64 To4) ∧ br (To4 == 0)
 (∃ ro5, cell H3 (.add ⟨b2, 0, none⟩ 0) = some (.pointer ro5) ∧ R (.tuple #[.pointer ro5, .int .i64 0]) H3)
 (∃ ro6, cell H3 (.add ⟨b2, 0, none⟩ 0) = some (.pointer ro6) ∧ ∃ To7, cell H3 (.add (.add ⟨b2, 0, none⟩ 2) 2) = some (.int .i64 To7) ∧ Tryz.C 51 #[.pointer ro6, .int .i64 To7] H3 fun r8 H9 => ∃ r10 r11 r12, r8 = .tuple #[.pointer r10, .pointer r11, .int .i64 r12] ∧ br (Option.isNone r10)
 (R (.tuple #[.pointer none, .int .i64 40]) H9)
 (∃ a13, r10 = some a13 ∧ ∃ Ki14, cell H9 (.add a13 1) = some (.int .i64 Ki14) ∧ br (Ki14 != 1)
 (R (.tuple #[.pointer none, .int .i64 41]) H9)
 (R (.tuple #[.pointer r10, .int .i64 0]) H9)))
def Tryz.p63 : Plan := (tl (tg (tl (two (one (tl (two (tl leaf) g0))) (tl leaf)))))
theorem Tryz.s63 {w1 : AV} {H R} (h : Tryz.S63 w1 H R) : Tryz.C 63 #[.agg w1] H R := vcs Tryz.tab_ok Tryz.mixed Tryz.func63 Tryz.cal63 Tryz.p63 h (by kernel_rfl)
end Go.Proofs
namespace Go.Proofs
open Go.Sh Go.Sh.Plan
open Go.IntKind (wrap)
open Int (toNat)
def Tryz.S64 (w1 : AV) (to2 : OA) (l3 : AV) (H : Heap) (R : Kv) : Prop :=
 alc H (.cells w1 106) fun b4 H5 => alc H5 (.cells l3 61) fun b6 H7 => ∃ At8, cell H7 (.add (.add ⟨b4, 0, none⟩ 2) 3) = some (.int .i64 At8) ∧ ∀ J9 : Kl, (∀ (at_10 : Int) H11, (∀ J12 : Kl, (∀ H13, (∃ a14, to2 = some a14 ∧ ∃ Ki15p Ki15l Ki15c, cell H13 (.add a14 18) = some (.slice Ki15p Ki15l Ki15c) ∧ ∃ v16, v16.size = 19 ∧ rowIn H13 ⟨b6, 0, none⟩ v16 ∧ v16.size = 19 ∧ 0 + 19 ≤ 19 ∧ alc H13 (.cells (List.toArray (setL [.int .i64 0, .int .i64 0, .bool false, .int .i64 0, .int .i64 0, .int .i64 0, .int .i64 0, .slice none 0 0, .slice none 0 0, .int .i64 0, .int .i64 0, .int .i64 0, .int .i64 0, .int .i64 0, .int .i64 0, .bool false, .int .i64 0, .slice none 0 0, .slice none 0 0] 0 v16.toList)) 61) fun b17 H18 => (Ext H13 H18 ∨ (∃ Ki30p Ki30l Ki30c, cell H18 (.add a14 18) = some (.slice Ki30p Ki30l Ki30c) ∧ Value.slice Ki30p Ki30l Ki30c = .slice Ki15p Ki15l Ki15c)) ∧ Tryz.C 83 #[.slice Ki15p Ki15l Ki15c, .int .i64 at_10, .slice (some ⟨b17, 0, none⟩) 1 1] H18 fun r19 H20 => ∃ r21p r21l r21c, r19 = .slice r21p r21l r21c ∧ ∃ a22, to2 = some a22 ∧ stAt H20 (.add a22 18) [.slice r21p r21l r21c] fun H23 => ∃ ro24, cell H23 (.add ⟨b4, 0, none⟩ 0) = some (.pointer ro24) ∧ ∃ a25, ro24 = some a25 ∧ ∃ Ki26p Ki26l Ki26c, cell H23 (.add a25 18) = some (.slice Ki26p Ki26l Ki26c) ∧ Tryz.C 84 #[.slice Ki26p Ki26l Ki26c] H23 fun r27 H28 => ∃ r29, r27 = .int .i64 r29 ∧ br (decide (r29 > 64))
 (R (.int .i64 31) H28)
 (R (.int .i64 0) H28)) → J12 [] H13) →
 br (decide (at_10 < 0)) (R (.int .i64 43) H11) (∃ a31, to2 = some a31 ∧ ∃ Ki32p Ki32l Ki32c, cell H11 (.add a31 18) = some (.slice Ki32p Ki32l Ki32c) ∧ br (decide (at_10 > (Ki32l : Int)))
 (R (.int .i64 43) H11)
 (J12 [] H11))) → J9 [.int .i64 at_10] H11) →
 br (At8 == (-1 : Int))
 (∃ a33, to2 = some a33 ∧ ∃ Ki34p Ki34l Ki34c, cell H7 (.add a33 18) = some (.slice Ki34p Ki34l Ki34c) ∧ J9 [.int .i64 (Ki34l : Int)] H7)
 (J9 [.int .i64 At8] H7)
def Tryz.p64 : Plan := (tl (tl (two (join [(7, 3)] [1, 3, 5] (tl (tl leaf))) (two (join [] [1, 3, 5, 7] g0) (tl (tg (tl leaf)))))))
theorem Tryz.s64 {w1 : AV} {to2 : OA} {l3 : AV} {H R} (h : Tryz.S64 w1 to2 l3 H R) : Tryz.C 64 #[.agg w1, .pointer to2, .agg l3] H R := vcs Tryz.tab_ok Tryz.mixed Tryz.func64 Tryz.cal64 Tryz.p64 h (by kernel_rfl)
def Tryz.S65 (s1p : OA) (s1l s1c : Nat) (i2 j3 : Int) (H : Heap) (R : Kv) : Prop :=
 0 ≤ (s1l : Int) ∧ (s1l : Int) ≤ (s1c : Int) ∧ 0 ≤ j3 ∧ j3 ≤ (s1l : Int) ∧ 0 ≤ i2 ∧ i2 ≤ j3 ∧ br (i2 == j3)
 (R (.slice s1p s1l s1c) H)
 (0 ≤ i2 ∧ i2 ≤ (s1c : Int) ∧ 0 ≤ j3 ∧ j3 ≤ (s1l : Int) ∧ appQ 19 216 #[.int .i64 0, .int .i64 0, .bool false, .int .i64 0, .int .i64 0, .int .i64 0, .int .i64 0, .slice none 0 0, .slice none 0 0, .int .i64 0, .int .i64 0, .int .i64 0, .int .i64 0, .int .i64 0, .int .i64 0, .bool false, .int .i64 0, .slice none 0 0, .slice none 0 0] H (if s1c = 0 then s1p else Option.map (fun x => Addr.add x (0 * 19)) s1p) ((toNat i2) - 0) (s1c - 0) (if s1c = (toNat j3) then s1p else Option.map (fun x => Addr.add x ((toNat j3) * 19)) s1p) (s1l - (toNat j3)) 61 fun s4p s4l s4c H5 => 0 ≤ (s1l : Int) ∧ (s1l : Int) ≤ (s4c : Int) ∧ 0 ≤ (s4l : Int) ∧ (s4l : Int) ≤ (s1l : Int) ∧ clrQ H5 (if s4c = (toNat (s4l : Int)) then s4p else Option.map (fun x => Addr.add x ((toNat (s4l : Int)) * 19)) s4p) ((toNat (s1l : Int)) - (toNat (s4l : Int))) #[.int .i64 0, .int .i64 0, .bool false, .int .i64 0, .int .i64 0, .int .i64 0, .int .i64 0, .slice none 0 0, .slice none 0 0, .int .i64 0, .int .i64 0, .int .i64 0, .int .i64 0, .int .i64 0, .int .i64 0, .bool false, .int .i64 0, .slice none 0 0, .slice none 0 0] fun H6 => R (.slice s4p s4l s4c) H6)
def Tryz.p65 : Plan := (tl (tl (tg (tl (tl (tl (tl leaf)))))))
theorem Tryz.s65 {s1p : OA} {s1l s1c : Nat} {i2 j3 : Int} {H R} (h : Tryz.S65 s1p s1l s1c i2 j3 H R) : Tryz.C 65 #[.slice s1p s1l s1c, .int .i64 i2, .int .i64 j3] H R := vcs Tryz.tab_ok Tryz.mixed Tryz.func65 Tryz.cal65 Tryz.p65 h (by kernel_rfl)
def Tryz.S66 (w1 : AV) (H : Heap) (R : Kv) : Prop :=
 alc H (.cells w1 106) fun b2 H3 => ∃ ro4, cell H3 (.add ⟨b2, 0, none⟩ 0) = some (.pointer ro4) ∧ ∃ ID5, cell H3 (.add (.add ⟨b2, 0, none⟩ 2) 1) = some (.int .i64 ID5) ∧ Tryz.C 51 #[.pointer ro4, .int .i64 ID5] H3 fun r6 H7 => ∃ r8 r9 r10, r6 = .tuple #[.pointer r8, .pointer r9, .int .i64 r10] ∧ br (Option.isNone r8)
 (R (.tuple #[.pointer none, .int .i64 40]) H7)
 (R (.tuple #[.pointer r8, .int .i64 0]) H7)
def Tryz.p66 : Plan := (tl (tl (tg (tl leaf))))
theorem Tryz.s66 {w1 : AV} {H R} (h : Tryz.S66 w1 H R) : Tryz.C 66 #[.agg w1] H R := vcs Tryz.tab_ok Tryz.mixed Tryz.func66 Tryz.cal66 Tryz.p66 h (by kernel_rfl)
def Tryz.S67 (s1p : OA) (s1l s1c f2g : Nat) (f2x f2y : AV) (H : Heap) (R : Kv) : Prop :=
 Tryz.C 85 #[.slice s1p s1l s1c, .func (.func f2g) f2x f2y] H fun r3 H4 => ∃ r5, r3 = .int .i64 r5 ∧ R (.bool (decide (r5 ≥ 0))) H4
def Tryz.p67 : Plan := (tl (tl leaf))
theorem Tryz.s67 {s1p : OA} {s1l s1c f2g : Nat} {f2x f2y : AV} {H R} (h : Tryz.S67 s1p s1l s1c f2g f2x f2y H R) : Tryz.C 67 #[.slice s1p s1l s1c, .func (.func f2g) f2x f2y] H R := vcs Tryz.tab_ok Tryz.mixed Tryz.func67 Tryz.cal67 Tryz.p67 h (by kernel_rfl)
def Tryz.S68 (v1 : Int) (H : Heap) (R : Kv) : Prop :=
 Tryz.C 69 #[.int .i64 v1] H fun r2 H3 => ∃ r4, r2 = .bool r4 ∧ R (.bool (!r4)) H3
def Tryz.p68 : Plan := (tl (tl leaf))
theorem Tryz.s68 {v1 : Int} {H R} (h : Tryz.S68 v1 H R) : Tryz.C 68 #[.int .i64 v1] H R := vcs Tryz.tab_ok Tryz.mixed Tryz.func68 Tryz.cal68 Tryz.p68 h (by kernel_rfl)
def Tryz.S69 (v1 : Int) (H : Heap) (R : Kv) : Prop :=
 Tryz.C 86 #[.int .i64 v1] H fun r2 H3 => ∃ r4, r2 = .agg r4 ∧ alc H3 (.cells #[.int .i64 0, .int .i64 0, .int .i64 0, .int .i64 0] 141) fun b5 H6 => r4.size = 4 ∧ stAt H6 ⟨b5, 0, none⟩ r4.toList fun H7 => br (decide (v1 ≥ 0)) (br (decide (v1 < 4294967296)) (0 ≤ (0 : Int) ∧ (0 : Int) < ((4 : Nat) : Int) ∧ ∃ v8, cell H7 (.add ⟨b5, 0, none⟩ (toNat (0 : Int) * 1)) = some (.int .i64 v8) ∧ 0 ≤ (1 : Int) ∧ (1 : Int) < ((4 : Nat) : Int) ∧ ∃ v9, cell H7 (.add ⟨b5, 0, none⟩ (toNat (1 : Int) * 1)) = some (.int .i64 v9) ∧ 0 ≤ (2 : Int) ∧ (2 : Int) < ((4 : Nat) : Int) ∧ ∃ v10, cell H7 (.add ⟨b5, 0, none⟩ (toNat (2 : Int) * 1)) = some (.int .i64 v10) ∧ 0 ≤ (3 : Int) ∧ (3 : Int) < ((4 : Nat) : Int) ∧ ∃ v11, cell H7 (.add ⟨b5, 0, none⟩ (toNat (3 : Int) * 1)) = some (.int .i64 v11) ∧ R (.bool (decide (((max (max v8 v9) v10) : Int) ≤ v11))) H7) (R (.bool false) H7)) (R (.bool false) H7)
def Tryz.p69 : Plan := (tl (tl (tl leaf)))
theorem Tryz.s69 {v1 : Int} {H R} (h : Tryz.S69 v1 H R) : Tryz.C 69 #[.int .i64 v1] H R := vcs Tryz.tab_ok Tryz.mixed Tryz.func69 Tryz.cal69 Tryz.p69 h (by kernel_rfl)
def Tryz.S70 (sh1p : OA) (sh1l sh1c : Nat) (w2 h3 : Int) (H : Heap) (R : Kv) : Prop :=
 Tryz.C 87 #[.slice sh1p sh1l sh1c, .slice none 0 0] H fun r4 H5 => ∃ e6, r4 = .int .i64 e6 ∧ br (e6 != 0)
 (R (.tuple #[.slice none 0 0, .int .i64 e6]) H5)
 (∀ J7 : Kl, (∀ H8, (0 ≤ (wrap .i64 (w2 * h3)) ∧ (wrap .i64 (w2 * h3)) ≤ (wrap .i64 (w2 * h3)) ∧ ((1 : Nat) : Int) * (wrap .i64 (w2 * h3)) ≤ 281474976710656 ∧ (wrap .i64 (w2 * h3)) ≤ 281474976710656 ∧ alc H8 (.cells (List.toArray (reps (toNat (wrap .i64 (w2 * h3))) (Array.toList #[.int .u8 0]))) 5) fun b9 H10 => ∀ X11 : Kl, (∀ (i12 : Int) H13, (br (decide (i12 < (((toNat (wrap .i64 (w2 * h3))) : Nat) : Int)))
 (w2 ≠ 0 ∧ w2 ≠ 0 ∧ Tryz.C 88 #[.slice sh1p sh1l sh1c, .int .i64 (Int.tmod i12 w2), .int .i64 (wrap .i64 (Int.tdiv i12 w2))] H13 fun r14 H15 => ∃ r16, r14 = .bool r16 ∧ br r16
 (∃ a17, (some ⟨b9, 0, none⟩) = some a17 ∧ 0 ≤ i12 ∧ i12 < (((toNat (wrap .i64 (w2 * h3))) : Nat) : Int) ∧ stAt H15 (.add a17 (toNat i12 * 1)) [.int .u8 255] fun H18 => X11 [.int .i64 (wrap .i64 (i12 + 1))] H18)
 (X11 [.int .i64 (wrap .i64 (i12 + 1))] H15))
 (R (.tuple #[.slice (some ⟨b9, 0, none⟩) (toNat (wrap .i64 (w2 * h3))) (toNat (wrap .i64 (w2 * h3))), .int .i64 0]) H13)) → X11 [.int .i64 i12] H13) → X11 [.int .i64 0] H10) → J7 [] H8) →
 br (decide (w2 < 0)) (R (.tuple #[.slice none 0 0, .int .i64 31]) H5) (br (decide (h3 < 0)) (R (.tuple #[.slice none 0 0, .int .i64 31]) H5) (br (decide (w2 > 32768)) (R (.tuple #[.slice none 0 0, .int .i64 31]) H5) (br (decide (h3 > 32768)) (R (.tuple #[.slice none 0 0, .int .i64 31]) H5) (br (decide (((wrap .i64 (w2 * h3)) : Int) > 4194304))
 (R (.tuple #[.slice none 0 0, .int .i64 31]) H5)
 (J7 [] H5))))))
def Tryz.p70 : Plan := (tl (two (tl g0) (two (join [] [0, 1, 2] g0) (tl (two (tl (one (loop [(42, 3)] [0, 1, 9, 41] (tl (two (tl leaf) (two (one (tl (tl (tl leaf)))) leaf)))))) (tl leaf))))))
theorem Tryz.s70 {sh1p : OA} {sh1l sh1c : Nat} {w2 h3 : Int} {H R} (h : Tryz.S70 sh1p sh1l sh1c w2 h3 H R) : Tryz.C 70 #[.slice sh1p sh1l sh1c, .int .i64 w2, .int .i64 h3] H R := vcs Tryz.tab_ok Tryz.mixed Tryz.func70 Tryz.cal70 Tryz.p70 h (by kernel_rfl)
def Tryz.S71 (m1 : AV) (H : Heap) (R : Kv) : Prop :=
 alc H (.cells m1 45) fun b2 H3 => alc H3 (.cells #[.int .i64 0, .int .i64 0, .int .i64 0, .int .i64 0, .int .i64 0, .int .i64 0] 45) fun b4 H5 => ∃ v6, v6.size = 6 ∧ rowIn H5 ⟨b2, 0, none⟩ v6 ∧ Tryz.C 89 #[.agg v6] H5 fun r7 H8 => ∃ r9, r7 = .bool r9 ∧ br (!r9)
 (#[Value.int .i64 0, Value.int .i64 0, Value.int .i64 0, Value.int .i64 0, Value.int .i64 0, Value.int .i64 0].size = 6 ∧ stAt H8 ⟨b4, 0, none⟩ (Array.toList #[.int .i64 0, .int .i64 0, .int .i64 0, .int .i64 0, .int .i64 0, .int .i64 0]) fun H10 => ∃ re11, re11.size = 6 ∧ rowIn H10 ⟨b4, 0, none⟩ re11 ∧ R (.tuple #[.agg re11, .int .i64 31]) H10)
 (0 ≤ (0 : Int) ∧ (0 : Int) < ((6 : Nat) : Int) ∧ ∃ v12, cell H8 (.add ⟨b2, 0, none⟩ (toNat (0 : Int) * 1)) = some (.int .i64 v12) ∧ 0 ≤ (3 : Int) ∧ (3 : Int) < ((6 : Nat) : Int) ∧ ∃ v13, cell H8 (.add ⟨b2, 0, none⟩ (toNat (3 : Int) * 1)) = some (.int .i64 v13) ∧ 0 ≤ (1 : Int) ∧ (1 : Int) < ((6 : Nat) : Int) ∧ ∃ v14, cell H8 (.add ⟨b2, 0, none⟩ (toNat (1 : Int) * 1)) = some (.int .i64 v14) ∧ 0 ≤ (2 : Int) ∧ (2 : Int) < ((6 : Nat) : Int) ∧ ∃ v15, cell H8 (.add ⟨b2, 0, none⟩ (toNat (2 : Int) * 1)) = some (.int .i64 v15) ∧ br (((wrap .i64 ((wrap .i64 (v12 * v13)) - (wrap .i64 (v14 * v15)))) : Int) == 0)
 (#[Value.int .i64 0, Value.int .i64 0, Value.int .i64 0, Value.int .i64 0, Value.int .i64 0, Value.int .i64 0].size = 6 ∧ stAt H8 ⟨b4, 0, none⟩ (Array.toList #[.int .i64 0, .int .i64 0, .int .i64 0, .int .i64 0, .int .i64 0, .int .i64 0]) fun H16 => ∃ re17, re17.size = 6 ∧ rowIn H16 ⟨b4, 0, none⟩ re17 ∧ R (.tuple #[.agg re17, .int .i64 33]) H16)
 (∀ J18 : Kl, (∀ (ou19 : Addr) H20, (∃ v21, v21.size = 6 ∧ rowIn H20 ou19 v21 ∧ Tryz.C 89 #[.agg v21] H20 fun r22 H23 => ∃ r24, r22 = .bool r24 ∧ br (!r24)
 (#[Value.int .i64 0, Value.int .i64 0, Value.int .i64 0, Value.int .i64 0, Value.int .i64 0, Value.int .i64 0].size = 6 ∧ stAt H23 ⟨b4, 0, none⟩ (Array.toList #[.int .i64 0, .int .i64 0, .int .i64 0, .int .i64 0, .int .i64 0, .int .i64 0]) fun H25 => ∃ re26, re26.size = 6 ∧ rowIn H25 ⟨b4, 0, none⟩ re26 ∧ R (.tuple #[.agg re26, .int .i64 33]) H25)
 (0 ≤ (0 : Int) ∧ (0 : Int) < ((6 : Nat) : Int) ∧ ∃ v27, cell H23 (.add ou19 (toNat (0 : Int) * 1)) = some (.int .i64 v27) ∧ 0 ≤ (4 : Int) ∧ (4 : Int) < ((6 : Nat) : Int) ∧ ∃ v28, cell H23 (.add ⟨b2, 0, none⟩ (toNat (4 : Int) * 1)) = some (.int .i64 v28) ∧ 0 ≤ (1 : Int) ∧ (1 : Int) < ((6 : Nat) : Int) ∧ ∃ v29, cell H23 (.add ou19 (toNat (1 : Int) * 1)) = some (.int .i64 v29) ∧ 0 ≤ (5 : Int) ∧ (5 : Int) < ((6 : Nat) : Int) ∧ ∃ v30, cell H23 (.add ⟨b2, 0, none⟩ (toNat (5 : Int) * 1)) = some (.int .i64 v30) ∧ Tryz.C 91 #[.int .i64 (wrap .i64 (0 - (wrap .i64 ((wrap .i64 (v27 * v28)) + (wrap .i64 (v29 * v30))))))] H23 fun r31 H32 => ∃ r33, r31 = .int .i64 r33 ∧ 0 ≤ (4 : Int) ∧ (4 : Int) < ((6 : Nat) : Int) ∧ stAt H32 (.add ou19 (toNat (4 : Int) * 1)) [.int .i64 r33] fun H34 => 0 ≤ (2 : Int) ∧ (2 : Int) < ((6 : Nat) : Int) ∧ ∃ v35, cell H34 (.add ou19 (toNat (2 : Int) * 1)) = some (.int .i64 v35) ∧ 0 ≤ (4 : Int) ∧ (4 : Int) < ((6 : Nat) : Int) ∧ ∃ v36, cell H34 (.add ⟨b2, 0, none⟩ (toNat (4 : Int) * 1)) = some (.int .i64 v36) ∧ 0 ≤ (3 : Int) ∧ (3 : Int) < ((6 : Nat) : Int) ∧ ∃ v37, cell H34 (.add ou19 (toNat (3 : Int) * 1)) = some (.int .i64 v37) ∧ 0 ≤ (5 : Int) ∧ (5 : Int) < ((6 : Nat) : Int) ∧ ∃ v38, cell H34 (.add ⟨b2, 0, none⟩ (toNat (5 : Int) * 1)) = some (.int .i64 v38) ∧ Tryz.C 91 #[.int .i64 (wrap .i64 (0 - (wrap .i64 ((wrap .i64 (v35 * v36)) + (wrap .i64 (v37 * v38))))))] H34 fun r39 H40 => ∃ r41, r39 = .int .i64 r41 ∧ 0 ≤ (5 : Int) ∧ (5 : Int) < ((6 : Nat) : Int) ∧ stAt H40 (.add ou19 (toNat (5 : Int) * 1)) [.int .i64 r41] fun H42 => ∃ v43, v43.size = 6 ∧ rowIn H42 ou19 v43 ∧ Tryz.C 89 #[.agg v43] H42 fun r44 H45 => ∃ r46, r44 = .bool r46 ∧ br (!r46)
 (#[Value.int .i64 0, Value.int .i64 0, Value.int .i64 0, Value.int .i64 0, Value.int .i64 0, Value.int .i64 0].size = 6 ∧ stAt H45 ⟨b4, 0, none⟩ (Array.toList #[.int .i64 0, .int .i64 0, .int .i64 0, .int .i64 0, .int .i64 0, .int .i64 0]) fun H47 => ∃ re48, re48.size = 6 ∧ rowIn H47 ⟨b4, 0, none⟩ re48 ∧ R (.tuple #[.agg re48, .int .i64 33]) H47)
 (∃ v49, v49.size = 6 ∧ rowIn H45 ou19 v49 ∧ v49.size = 6 ∧ stAt H45 ⟨b4, 0, none⟩ v49.toList fun H50 => ∃ re51, re51.size = 6 ∧ rowIn H50 ⟨b4, 0, none⟩ re51 ∧ R (.tuple #[.agg re51, .int .i64 0]) H50))) → J18 [.pointer (some ou19)] H20) →
 0 ≤ (3 : Int) ∧ (3 : Int) < ((6 : Nat) : Int) ∧ ∃ v52, cell H8 (.add ⟨b2, 0, none⟩ (toNat (3 : Int) * 1)) = some (.int .i64 v52) ∧ 0 ≤ (32 : Int) ∧ 0 ≤ (1 : Int) ∧ (1 : Int) < ((6 : Nat) : Int) ∧ ∃ v53, cell H8 (.add ⟨b2, 0, none⟩ (toNat (1 : Int) * 1)) = some (.int .i64 v53) ∧ 0 ≤ (32 : Int) ∧ 0 ≤ (2 : Int) ∧ (2 : Int) < ((6 : Nat) : Int) ∧ ∃ v54, cell H8 (.add ⟨b2, 0, none⟩ (toNat (2 : Int) * 1)) = some (.int .i64 v54) ∧ 0 ≤ (32 : Int) ∧ 0 ≤ (0 : Int) ∧ (0 : Int) < ((6 : Nat) : Int) ∧ ∃ v55, cell H8 (.add ⟨b2, 0, none⟩ (toNat (0 : Int) * 1)) = some (.int .i64 v55) ∧ 0 ≤ (32 : Int) ∧ (Tryz.C 90 #[.int .i64 (shlI .i64 v52 32), .int .i64 (wrap .i64 ((wrap .i64 (v12 * v13)) - (wrap .i64 (v14 * v15))))] H8 fun r56 H57 => ∃ r58, r56 = .int .i64 r58 ∧ (Ext H8 H57 ∨ (∃ v111, cell H57 (.add ⟨b2, 0, none⟩ (toNat (0 : Int) * 1)) = some (.int .i64 v111) ∧ Value.int .i64 v111 = .int .i64 v55) ∧ (∃ v112, cell H57 (.add ⟨b2, 0, none⟩ (toNat (2 : Int) * 1)) = some (.int .i64 v112) ∧ Value.int .i64 v112 = .int .i64 v54) ∧ (∃ v113, cell H57 (.add ⟨b2, 0, none⟩ (toNat (1 : Int) * 1)) = some (.int .i64 v113) ∧ Value.int .i64 v113 = .int .i64 v53)) ∧ (Tryz.C 90 #[.int .i64 (shlI .i64 (wrap .i64 (0 - v53)) 32), .int .i64 (wrap .i64 ((wrap .i64 (v12 * v13)) - (wrap .i64 (v14 * v15))))] H57 fun r59 H60 => ∃ r61, r59 = .int .i64 r61 ∧ (Ext H57 H60 ∨ (∃ v91, cell H60 (.add ⟨b2, 0, none⟩ (toNat (0 : Int) * 1)) = some (.int .i64 v91) ∧ Value.int .i64 v91 = .int .i64 v55) ∧ (∃ v92, cell H60 (.add ⟨b2, 0, none⟩ (toNat (2 : Int) * 1)) = some (.int .i64 v92) ∧ Value.int .i64 v92 = .int .i64 v54)) ∧ (Tryz.C 90 #[.int .i64 (shlI .i64 (wrap .i64 (0 - v54)) 32), .int .i64 (wrap .i64 ((wrap .i64 (v12 * v13)) - (wrap .i64 (v14 * v15))))] H60 fun r62 H63 => ∃ r64, r62 = .int .i64 r64 ∧ (Ext H60 H63 ∨ (∃ v78, cell H63 (.add ⟨b2, 0, none⟩ (toNat (0 : Int) * 1)) = some (.int .i64 v78) ∧ Value.int .i64 v78 = .int .i64 v55)) ∧ (Tryz.C 90 #[.int .i64 (shlI .i64 v55 32), .int .i64 (wrap .i64 ((wrap .i64 (v12 * v13)) - (wrap .i64 (v14 * v15))))] H63 fun r65 H66 => ∃ r67, r65 = .int .i64 r67 ∧ alc H66 (.cells #[.int .i64 0, .int .i64 0, .int .i64 0, .int .i64 0, .int .i64 0, .int .i64 0] 45) fun b68 H69 => #[Value.int .i64 r58, Value.int .i64 r61, Value.int .i64 r64, Value.int .i64 r67, Value.int .i64 0, Value.int .i64 0].size = 6 ∧ stAt H69 ⟨b68, 0, none⟩ (Array.toList #[.int .i64 r58, .int .i64 r61, .int .i64 r64, .int .i64 r67, .int .i64 0, .int .i64 0]) fun H70 => J18 [.pointer (some ⟨b68, 0, none⟩)] H70) ∧ (alc H63 (.cells #[.int .i64 0, .int .i64 0, .int .i64 0, .int .i64 0, .int .i64 0, .int .i64 0] 45) fun b71 H72 => (Ext H63 H72 ∨ (∃ v77, cell H72 (.add ⟨b2, 0, none⟩ (toNat (0 : Int) * 1)) = some (.int .i64 v77) ∧ Value.int .i64 v77 = .int .i64 v55)) ∧ Tryz.C 90 #[.int .i64 (shlI .i64 v55 32), .int .i64 (wrap .i64 ((wrap .i64 (v12 * v13)) - (wrap .i64 (v14 * v15))))] H72 fun r73 H74 => ∃ r75, r73 = .int .i64 r75 ∧ #[Value.int .i64 r58, Value.int .i64 r61, Value.int .i64 r64, Value.int .i64 r75, Value.int .i64 0, Value.int .i64 0].size = 6 ∧ stAt H74 ⟨b71, 0, none⟩ (Array.toList #[.int .i64 r58, .int .i64 r61, .int .i64 r64, .int .i64 r75, .int .i64 0, .int .i64 0]) fun H76 => J18 [.pointer (some ⟨b71, 0, none⟩)] H76)) ∧ (alc H60 (.cells #[.int .i64 0, .int .i64 0, .int .i64 0, .int .i64 0, .int .i64 0, .int .i64 0] 45) fun b79 H80 => (Ext H60 H80 ∨ (∃ v89, cell H80 (.add ⟨b2, 0, none⟩ (toNat (0 : Int) * 1)) = some (.int .i64 v89) ∧ Value.int .i64 v89 = .int .i64 v55) ∧ (∃ v90, cell H80 (.add ⟨b2, 0, none⟩ (toNat (2 : Int) * 1)) = some (.int .i64 v90) ∧ Value.int .i64 v90 = .int .i64 v54)) ∧ Tryz.C 90 #[.int .i64 (shlI .i64 (wrap .i64 (0 - v54)) 32), .int .i64 (wrap .i64 ((wrap .i64 (v12 * v13)) - (wrap .i64 (v14 * v15))))] H80 fun r81 H82 => ∃ r83, r81 = .int .i64 r83 ∧ (Ext H80 H82 ∨ (∃ v88, cell H82 (.add ⟨b2, 0, none⟩ (toNat (0 : Int) * 1)) = some (.int .i64 v88) ∧ Value.int .i64 v88 = .int .i64 v55)) ∧ Tryz.C 90 #[.int .i64 (shlI .i64 v55 32), .int .i64 (wrap .i64 ((wrap .i64 (v12 * v13)) - (wrap .i64 (v14 * v15))))] H82 fun r84 H85 => ∃ r86, r84 = .int .i64 r86 ∧ #[Value.int .i64 r58, Value.int .i64 r61, Value.int .i64 r83, Value.int .i64 r86, Value.int .i64 0, Value.int .i64 0].size = 6 ∧ stAt H85 ⟨b79, 0, none⟩ (Array.toList #[.int .i64 r58, .int .i64 r61, .int .i64 r83, .int .i64 r86, .int .i64 0, .int .i64 0]) fun H87 => J18 [.pointer (some ⟨b79, 0, none⟩)] H87)) ∧ (alc H57 (.cells #[.int .i64 0, .int .i64 0, .int .i64 0, .int .i64 0, .int .i64 0, .int .i64 0] 45) fun b93 H94 => (Ext H57 H94 ∨ (∃ v108, cell H94 (.add ⟨b2, 0, none⟩ (toNat (0 : Int) * 1)) = some (.int .i64 v108) ∧ Value.int .i64 v108 = .int .i64 v55) ∧ (∃ v109, cell H94 (.add ⟨b2, 0, none⟩ (toNat (2 : Int) * 1)) = some (.int .i64 v109) ∧ Value.int .i64 v109 = .int .i64 v54) ∧ (∃ v110, cell H94 (.add ⟨b2, 0, none⟩ (toNat (1 : Int) * 1)) = some (.int .i64 v110) ∧ Value.int .i64 v110 = .int .i64 v53)) ∧ Tryz.C 90 #[.int .i64 (shlI .i64 (wrap .i64 (0 - v53)) 32), .int .i64 (wrap .i64 ((wrap .i64 (v12 * v13)) - (wrap .i64 (v14 * v15))))] H94 fun r95 H96 => ∃ r97, r95 = .int .i64 r97 ∧ (Ext H94 H96 ∨ (∃ v106, cell H96 (.add ⟨b2, 0, none⟩ (toNat (0 : Int) * 1)) = some (.int .i64 v106) ∧ Value.int .i64 v106 = .int .i64 v55) ∧ (∃ v107, cell H96 (.add ⟨b2, 0, none⟩ (toNat (2 : Int) * 1)) = some (.int .i64 v107) ∧ Value.int .i64 v107 = .int .i64 v54)) ∧ Tryz.C 90 #[.int .i64 (shlI .i64 (wrap .i64 (0 - v54)) 32), .int .i64 (wrap .i64 ((wrap .i64 (v12 * v13)) - (wrap .i64 (v14 * v15))))] H96 fun r98 H99 => ∃ r100, r98 = .int .i64 r100 ∧ (Ext H96 H99 ∨ (∃ v105, cell H99 (.add ⟨b2, 0, none⟩ (toNat (0 : Int) * 1)) = some (.int .i64 v105) ∧ Value.int .i64 v105 = .int .i64 v55)) ∧ Tryz.C 90 #[.int .i64 (shlI .i64 v55 32), .int .i64 (wrap .i64 ((wrap .i64 (v12 * v13)) - (wrap .i64 (v14 * v15))))] H99 fun r101 H102 => ∃ r103, r101 = .int .i64 r103 ∧ #[Value.int .i64 r58, Value.int .i64 r97, Value.int .i64 r100, Value.int .i64 r103, Value.int .i64 0, Value.int .i64 0].size = 6 ∧ stAt H102 ⟨b93, 0, none⟩ (Array.toList #[.int .i64 r58, .int .i64 r97, .int .i64 r100, .int .i64 r103, .int .i64 0, .int .i64 0]) fun H104 => J18 [.pointer (some ⟨b93, 0, none⟩)] H104)) ∧ (alc H8 (.cells #[.int .i64 0, .int .i64 0, .int .i64 0, .int .i64 0, .int .i64 0, .int .i64 0] 45) fun b114 H115 => (Ext H8 H115 ∨ (∃ v135, cell H115 (.add ⟨b2, 0, none⟩ (toNat (0 : Int) * 1)) = some (.int .i64 v135) ∧ Value.int .i64 v135 = .int .i64 v55) ∧ (∃ v136, cell H115 (.add ⟨b2, 0, none⟩ (toNat (2 : Int) * 1)) = some (.int .i64 v136) ∧ Value.int .i64 v136 = .int .i64 v54) ∧ (∃ v137, cell H115 (.add ⟨b2, 0, none⟩ (toNat (1 : Int) * 1)) = some (.int .i64 v137) ∧ Value.int .i64 v137 = .int .i64 v53) ∧ (∃ v138, cell H115 (.add ⟨b2, 0, none⟩ (toNat (3 : Int) * 1)) = some (.int .i64 v138) ∧ Value.int .i64 v138 = .int .i64 v52)) ∧ Tryz.C 90 #[.int .i64 (shlI .i64 v52 32), .int .i64 (wrap .i64 ((wrap .i64 (v12 * v13)) - (wrap .i64 (v14 * v15))))] H115 fun r116 H117 => ∃ r118, r116 = .int .i64 r118 ∧ (Ext H115 H117 ∨ (∃ v132, cell H117 (.add ⟨b2, 0, none⟩ (toNat (0 : Int) * 1)) = some (.int .i64 v132) ∧ Value.int .i64 v132 = .int .i64 v55) ∧ (∃ v133, cell H117 (.add ⟨b2, 0, none⟩ (toNat (2 : Int) * 1)) = some (.int .i64 v133) ∧ Value.int .i64 v133 = .int .i64 v54) ∧ (∃ v134, cell H117 (.add ⟨b2, 0, none⟩ (toNat (1 : Int) * 1)) = some (.int .i64 v134) ∧ Value.int .i64 v134 = .int .i64 v53)) ∧ Tryz.C 90 #[.int .i64 (shlI .i64 (wrap .i64 (0 - v53)) 32), .int .i64 (wrap .i64 ((wrap .i64 (v12 * v13)) - (wrap .i64 (v14 * v15))))] H117 fun r119 H120 => ∃ r121, r119 = .int .i64 r121 ∧ (Ext H117 H120 ∨ (∃ v130, cell H120 (.add ⟨b2, 0, none⟩ (toNat (0 : Int) * 1)) = some (.int .i64 v130) ∧ Value.int .i64 v130 = .int .i64 v55) ∧ (∃ v131, cell H120 (.add ⟨b2, 0, none⟩ (toNat (2 : Int) * 1)) = some (.int .i64 v131) ∧ Value.int .i64 v131 = .int .i64 v54)) ∧ Tryz.C 90 #[.int .i64 (shlI .i64 (wrap .i64 (0 - v54)) 32), .int .i64 (wrap .i64 ((wrap .i64 (v12 * v13)) - (wrap .i64 (v14 * v15))))] H120 fun r122 H123 => ∃ r124, r122 = .int .i64 r124 ∧ (Ext H120 H123 ∨ (∃ v129, cell H123 (.add ⟨b2, 0, none⟩ (toNat (0 : Int) * 1)) = some (.int .i64 v129) ∧ Value.int .i64 v129 = .int .i64 v55)) ∧ Tryz.C 90 #[.int .i64 (shlI .i64 v55 32), .int .i64 (wrap .i64 ((wrap .i64 (v12 * v13)) - (wrap .i64 (v14 * v15))))] H123 fun r125 H126 => ∃ r127, r125 = .int .i64 r127 ∧ #[Value.int .i64 r118, Value.int .i64 r121, Value.int .i64 r124, Value.int .i64 r127, Value.int .i64 0, Value.int .i64 0].size = 6 ∧ stAt H126 ⟨b114, 0, none⟩ (Array.toList #[.int .i64 r118, .int .i64 r121, .int .i64 r124, .int .i64 r127, .int .i64 0, .int .i64 0]) fun H128 => J18 [.pointer (some ⟨b114, 0, none⟩)] H128)))
def Tryz.p71 : Plan := (tl (tg (tl (tg (two (join [(5, 999999)] [1, 2] leaf) (tg (tl (tl (tg (tl leaf))))))))))
theorem Tryz.s71 {m1 : AV} {H R} (h : Tryz.S71 m1 H R) : Tryz.C 71 #[.agg m1] H R := vcs Tryz.tab_ok Tryz.mixed Tryz.func71 Tryz.cal71 Tryz.p71 h (by kernel_rfl)
def Tryz.S72 (ki1 : Int) (pa2p : OA) (pa2l pa2c : Nat) (H : Heap) (R : Kv) : Prop :=
 Tryz.C 92 #[.int .i64 ki1, .slice pa2p pa2l pa2c] H fun r3 H4 => ∃ r5, r3 = .bool r5 ∧ br (!r5)
 (R (.tuple #[.slice none 0 0, .bool false]) H4)
 (br (ki1 == 1)
 (Tryz.C 93 #[.slice pa2p pa2l pa2c] H4 fun r6 H7 => ∃ r8p r8l r8c, r6 = .slice r8p r8l r8c ∧ R (.tuple #[.slice r8p r8l r8c, .bool true]) H7)
 (0 ≤ (256 : Int) ∧ (256 : Int) ≤ (256 : Int) ∧ ((8 : Nat) : Int) * (256 : Int) ≤ 281474976710656 ∧ (256 : Int) ≤ 281474976710656 ∧ alc H4 (.cells (List.toArray (reps (toNat 256) (Array.toList #[.int .i64 0]))) 3) fun b9 H10 => ∀ X11 : Kl, (∀ (v12 : Int) H13, (br (decide (v12 < (((toNat 256) : Nat) : Int)))
 (∀ J14 : Kl, (∀ H15, (X11 [.int .i64 (wrap .i64 (v12 + 1))] H15) → J14 [] H15) →
 br (ki1 == 0)
 (∃ a16, pa2p = some a16 ∧ 0 ≤ (1 : Int) ∧ (1 : Int) < (pa2l : Int) ∧ ∃ v17, cell H13 (.add a16 (toNat (1 : Int) * 1)) = some (.int .i64 v17) ∧ ∃ a18, pa2p = some a18 ∧ 0 ≤ (0 : Int) ∧ (0 : Int) < (pa2l : Int) ∧ ∃ v19, cell H13 (.add a18 (toNat (0 : Int) * 1)) = some (.int .i64 v19) ∧ ∃ a20, pa2p = some a20 ∧ 0 ≤ (0 : Int) ∧ (0 : Int) < (pa2l : Int) ∧ ∃ v21, cell H13 (.add a20 (toNat (0 : Int) * 1)) = some (.int .i64 v21) ∧ (2 : Int) ≠ 0 ∧ (wrap .i64 (v17 - v19)) ≠ 0 ∧ ∃ a22, (some ⟨b9, 0, none⟩) = some a22 ∧ 0 ≤ v12 ∧ v12 < (((toNat 256) : Nat) : Int) ∧ stAt H13 (.add a22 (toNat v12 * 1)) [.int .i64 (min 255 (wrap .i64 (Int.tdiv (wrap .i64 ((wrap .i64 ((255 : Int) * (max 0 (wrap .i64 (v12 - v21))))) + (wrap .i64 (Int.tdiv (wrap .i64 (v17 - v19)) 2)))) (wrap .i64 (v17 - v19)))))] fun H23 => J14 [] H23)
 (br (ki1 == 2)
 (∃ a24, (some ⟨b9, 0, none⟩) = some a24 ∧ 0 ≤ v12 ∧ v12 < (((toNat 256) : Nat) : Int) ∧ stAt H13 (.add a24 (toNat v12 * 1)) [.int .i64 (wrap .i64 ((255 : Int) - v12))] fun H25 => J14 [] H25)
 (br (ki1 == 3)
 (∃ a26, pa2p = some a26 ∧ 0 ≤ (0 : Int) ∧ (0 : Int) < (pa2l : Int) ∧ ∃ v27, cell H13 (.add a26 (toNat (0 : Int) * 1)) = some (.int .i64 v27) ∧ br (decide (v12 ≥ v27))
 (∃ a28, (some ⟨b9, 0, none⟩) = some a28 ∧ 0 ≤ v12 ∧ v12 < (((toNat 256) : Nat) : Int) ∧ stAt H13 (.add a28 (toNat v12 * 1)) [.int .i64 255] fun H29 => J14 [] H29)
 (J14 [] H13))
 (J14 [] H13))))
 (R (.tuple #[.slice (some ⟨b9, 0, none⟩) (toNat 256) (toNat 256), .bool true]) H13)) → X11 [.int .i64 v12] H13) → X11 [.int .i64 0] H10))
def Tryz.p72 : Plan := (tl (tg (tg (tl (two (tl (one (loop [(20, 3)] [0, 1, 6, 19] (tl (two (tl leaf) (two (join [] [0, 1, 6, 19, 20] (one (tl (tl (one (tl (two (tl leaf) (tl (tl (tl (two (tl (tl leaf)) leaf))))))))))) leaf)))))) (tl leaf))))))
theorem Tryz.s72 {ki1 : Int} {pa2p : OA} {pa2l pa2c : Nat} {H R} (h : Tryz.S72 ki1 pa2p pa2l pa2c H R) : Tryz.C 72 #[.int .i64 ki1, .slice pa2p pa2l pa2c] H R := vcs Tryz.tab_ok Tryz.mixed Tryz.func72 Tryz.cal72 Tryz.p72 h (by kernel_rfl)
def Tryz.S73 (s1p : OA) (s1l s1c : Nat) (H : Heap) (R : Kv) : Prop :=
 br (Option.isNone s1p)
 (R (.slice none 0 0) H)
 (alc H (.cells #[] 3) fun b2 H3 => appQ 1 8 #[.int .i64 0] H3 (some ⟨b2, 0, none⟩) 0 0 s1p s1l 3 fun ap4p ap4l ap4c H5 => R (.slice ap4p ap4l ap4c) H5)
def Tryz.p73 : Plan := (tl (tg (tl leaf)))
theorem Tryz.s73 {s1p : OA} {s1l s1c : Nat} {H R} (h : Tryz.S73 s1p s1l s1c H R) : Tryz.C 73 #[.slice s1p s1l s1c] H R := vcs Tryz.tab_ok Tryz.mixed Tryz.func73 Tryz.cal73 Tryz.p73 h (by kernel_rfl)
def Tryz.S74 (a1p : OA) (a1l a1c : Nat) (b2p : OA) (b2l b2c : Nat) (H : Heap) (R : Kv) : Prop :=
 br (((a1l : Int) : Int) != (b2l : Int))
 (R (.bool false) H)
 (∀ X3 : Kl, (∀ (i4 : Int) H5, (br (decide (i4 < (a1l : Int)))
 (∃ a6, a1p = some a6 ∧ 0 ≤ i4 ∧ i4 < (a1l : Int) ∧ ∃ v7, cell H5 (.add a6 (toNat i4 * 1)) = some (.int .i64 v7) ∧ ∃ a8, b2p = some a8 ∧ 0 ≤ i4 ∧ i4 < (b2l : Int) ∧ ∃ v9, cell H5 (.add a8 (toNat i4 * 1)) = some (.int .i64 v9) ∧ br (v7 != v9)
 (R (.bool false) H5)
 (X3 [.int .i64 (wrap .i64 (i4 + 1))] H5))
 (R (.bool true) H5)) → X3 [.int .i64 i4] H5) → X3 [.int .i64 0] H)
def Tryz.p74 : Plan := (tl (tg (two (tl (one (loop [(14, 3)] [1, 12, 13] (tl (two (tl leaf) (two (one (tl g0)) leaf)))))) (tl leaf))))
theorem Tryz.s74 {a1p : OA} {a1l a1c : Nat} {b2p : OA} {b2l b2c : Nat} {H R} (h : Tryz.S74 a1p a1l a1c b2p b2l b2c H R) : Tryz.C 74 #[.slice a1p a1l a1c, .slice b2p b2l b2c] H R := vcs Tryz.tab_ok Tryz.mixed Tryz.func74 Tryz.cal74 Tryz.p74 h (by kernel_rfl)
def Tryz.S75 (s1p : OA) (s1l s1c : Nat) (H : Heap) (R : Kv) : Prop :=
 br (Option.isNone s1p)
 (R (.slice none 0 0) H)
 (alc H (.cells #[] 5) fun b2 H3 => appQ 1 1 #[.int .u8 0] H3 (some ⟨b2, 0, none⟩) 0 0 s1p s1l 5 fun ap4p ap4l ap4c H5 => R (.slice ap4p ap4l ap4c) H5)
def Tryz.p75 : Plan := (tl (tg (tl leaf)))
theorem Tryz.s75 {s1p : OA} {s1l s1c : Nat} {H R} (h : Tryz.S75 s1p s1l s1c H R) : Tryz.C 75 #[.slice s1p s1l s1c] H R := vcs Tryz.tab_ok Tryz.mixed Tryz.func75 Tryz.cal75 Tryz.p75 h (by kernel_rfl)
def Tryz.S76 (v1 : Int) (H : Heap) (R : Kv) : Prop :=
 ∀ X2 : Kl, (∀ (c3 : Int) H4, (br (decide (c3 < 3))
 (Tryz.C 94 #[.int .i64 v1, .int .i64 c3] H4 fun r5 H6 => ∃ r7, r5 = .int .i64 r7 ∧ Tryz.C 94 #[.int .i64 v1, .int .i64 3] H6 fun r8 H9 => ∃ r10, r8 = .int .i64 r10 ∧ br (decide (r7 > r10))
 (R (.bool false) H9)
 (X2 [.int .i64 (wrap .i64 (c3 + 1))] H9))
 (br (decide (v1 ≥ 0)) (R (.bool (decide (v1 < 4294967296))) H4) (R (.bool false) H4))) → X2 [.int .i64 c3] H4) → X2 [.int .i64 0] H
def Tryz.p76 : Plan := (tl (two (tl (one (loop [(3, 3)] [0] (two (tl (tl leaf)) (two (one g0) leaf))))) (tl leaf)))
theorem Tryz.s76 {v1 : Int} {H R} (h : Tryz.S76 v1 H R) : Tryz.C 76 #[.int .i64 v1] H R := vcs Tryz.tab_ok Tryz.mixed Tryz.func76 Tryz.cal76 Tryz.p76 h (by kernel_rfl)
def Tryz.S77 (l1p : OA) (l1l l1c : Nat) (H : Heap) (R : Kv) : Prop :=
 ∀ X2 : Kl, (∀ (i3 : Int) H4, (br (decide (i3 < (l1l : Int)))
 (∃ a5, l1p = some a5 ∧ 0 ≤ i3 ∧ i3 < (l1l : Int) ∧ ∃ v6, v6.size = 2 ∧ rowIn H4 (.add a5 (toNat i3 * 2)) v6 ∧ Tryz.C 95 #[.agg v6] H4 fun r7 H8 => ∃ r9, r7 = .bool r9 ∧ br (!r9)
 (R (.bool false) H8)
 (X2 [.int .i64 (wrap .i64 (i3 + 1))] H8))
 (br (decide (((l1l : Int) : Int) ≥ 3)) (R (.bool (decide (((l1l : Int) : Int) ≤ 256))) H4) (R (.bool false) H4))) → X2 [.int .i64 i3] H4) → X2 [.int .i64 0] H
def Tryz.p77 : Plan := (tl (two (tl (one (loop [(3, 3)] [0] (two (tl (tl leaf)) (two (one g0) leaf))))) (tl leaf)))
theorem Tryz.s77 {l1p : OA} {l1l l1c : Nat} {H R} (h : Tryz.S77 l1p l1l l1c H R) : Tryz.C 77 #[.slice l1p l1l l1c] H R := vcs Tryz.tab_ok Tryz.mixed Tryz.func77 Tryz.cal77 Tryz.p77 h (by kernel_rfl)
def Tryz.S78 (l1p : OA) (l1l l1c : Nat) (x2 y3 : Int) (H : Heap) (R : Kv) : Prop :=
 ∀ X4 : Kl, (∀ (od5 : Bool) (i6 : Int) H7, (br (decide (i6 < (l1l : Int)))
 (∀ J8 : Kl, (∀ (k9 : Int) H10, (∃ a11, l1p = some a11 ∧ 0 ≤ i6 ∧ i6 < (l1l : Int) ∧ ∃ v12, v12.size = 2 ∧ rowIn H10 (.add a11 (toNat i6 * 2)) v12 ∧ ∃ a13, l1p = some a13 ∧ 0 ≤ k9 ∧ k9 < (l1l : Int) ∧ ∃ v14, v14.size = 2 ∧ rowIn H10 (.add a13 (toNat k9 * 2)) v14 ∧ Tryz.C 96 #[.agg v12, .agg v14, .int .i64 x2, .int .i64 y3] H10 fun r15 H16 => ∃ r17, r15 = .bool r17 ∧ br r17
 (X4 [.bool (!od5), .int .i64 (wrap .i64 (i6 + 1))] H16)
 (X4 [.bool od5, .int .i64 (wrap .i64 (i6 + 1))] H16)) → J8 [.int .i64 k9] H10) →
 br (((wrap .i64 (i6 + 1)) : Int) == (l1l : Int))
 (J8 [.int .i64 0] H7)
 (J8 [.int .i64 (wrap .i64 (i6 + 1))] H7))
 (R (.bool od5) H7)) → X4 [.bool od5, .int .i64 i6] H7) → X4 [.bool false, .int .i64 0] H
def Tryz.p78 : Plan := (tl (tl (two (tl (one (loop [(7, 4), (8, 3)] [0, 1, 2] (two (tl (tl leaf)) (two (one (tl (two (join [(9, 3)] [0, 1, 2, 7, 8] (tl (tl leaf))) (tl (tl leaf))))) leaf))))) (tl leaf))))
theorem Tryz.s78 {l1p : OA} {l1l l1c : Nat} {x2 y3 : Int} {H R} (h : Tryz.S78 l1p l1l l1c x2 y3 H R) : Tryz.C 78 #[.slice l1p l1l l1c, .int .i64 x2, .int .i64 y3] H R := vcs Tryz.tab_ok Tryz.mixed Tryz.func78 Tryz.cal78 Tryz.p78 h (by kernel_rfl)
def Tryz.S79 (m1 : AV) (H : Heap) (R : Kv) : Prop :=
 alc H (.cells m1 78) fun b2 H3 => ∀ X4 : Kl, (∀ (i5 : Int) H6, (br (decide (i5 < 4))
 (0 ≤ i5 ∧ i5 < ((6 : Nat) : Int) ∧ ∃ v7, cell H6 (.add ⟨b2, 0, none⟩ (toNat i5 * 1)) = some (.int .i64 v7) ∧ br (decide (v7 < (-16777216 : Int))) (R (.bool false) H6) (0 ≤ i5 ∧ i5 < ((6 : Nat) : Int) ∧ ∃ v8, cell H6 (.add ⟨b2, 0, none⟩ (toNat i5 * 1)) = some (.int .i64 v8) ∧ br (decide (v8 > 16777216))
 (R (.bool false) H6)
 (X4 [.int .i64 (wrap .i64 (i5 + 1))] H6)))
 (∀ X9 : Kl, (∀ (i10 : Int) H11, (br (decide (i10 < 6))
 (0 ≤ i10 ∧ i10 < ((6 : Nat) : Int) ∧ ∃ v12, cell H11 (.add ⟨b2, 0, none⟩ (toNat i10 * 1)) = some (.int .i64 v12) ∧ br (decide (v12 < (-68719476736 : Int))) (R (.bool false) H11) (0 ≤ i10 ∧ i10 < ((6 : Nat) : Int) ∧ ∃ v13, cell H11 (.add ⟨b2, 0, none⟩ (toNat i10 * 1)) = some (.int .i64 v13) ∧ br (decide (v13 > 68719476736))
 (R (.bool false) H11)
 (X9 [.int .i64 (wrap .i64 (i10 + 1))] H11)))
 (R (.bool true) H11)) → X9 [.int .i64 i10] H11) → X9 [.int .i64 4] H6)) → X4 [.int .i64 i5] H6) → X4 [.int .i64 0] H3
def Tryz.p79 : Plan := (tl (two (tl (one (loop [(3, 3)] [1] (two (tl (tl leaf)) (two (one g0) leaf))))) (two (tl (one (loop [(4, 3)] [1] (two (tl (tl leaf)) (two (one g0) leaf))))) (tl leaf))))
theorem Tryz.s79 {m1 : AV} {H R} (h : Tryz.S79 m1 H R) : Tryz.C 79 #[.agg m1] H R := vcs Tryz.tab_ok Tryz.mixed Tryz.func79 Tryz.cal79 Tryz.p79 h (by kernel_rfl)
def Tryz.S80 (n1 m2 : Int) (H : Heap) (R : Kv) : Prop :=
 br (decide (m2 < 0))
 (Tryz.C 97 #[.int .i64 (wrap .i64 ((wrap .i64 ((-2 : Int) * n1)) - m2)), .int .i64 (wrap .i64 ((-2 : Int) * m2))] H fun r3 H4 => ∃ r5, r3 = .int .i64 r5 ∧ R (.int .i64 r5) H4)
 (Tryz.C 97 #[.int .i64 (wrap .i64 ((wrap .i64 ((2 : Int) * n1)) + m2)), .int .i64 (wrap .i64 ((2 : Int) * m2))] H fun r6 H7 => ∃ r8, r6 = .int .i64 r8 ∧ R (.int .i64 r8) H7)
def Tryz.p80 : Plan := (tl (tg (tl leaf)))
theorem Tryz.s80 {n1 m2 : Int} {H R} (h : Tryz.S80 n1 m2 H R) : Tryz.C 80 #[.int .i64 n1, .int .i64 m2] H R := vcs Tryz.tab_ok Tryz.mixed Tryz.func80 Tryz.cal80 Tryz.p80 h (by kernel_rfl)
def Tryz.S81 (n1 : Int) (H : Heap) (R : Kv) : Prop :=
 Tryz.C 97 #[.int .i64 (wrap .i64 (n1 + 32768)), .int .i64 65536] H fun r2 H3 => ∃ r4, r2 = .int .i64 r4 ∧ R (.int .i64 r4) H3
def Tryz.p81 : Plan := (tl (tl leaf))
theorem Tryz.s81 {n1 : Int} {H R} (h : Tryz.S81 n1 H R) : Tryz.C 81 #[.int .i64 n1] H R := vcs Tryz.tab_ok Tryz.mixed Tryz.func81 Tryz.cal81 Tryz.p81 h (by kernel_rfl)
def Tryz.S82 (p1p : OA) (p1l p1c : Nat) (v2 : Int) (H : Heap) (R : Kv) : Prop :=
 ∃ a3, p1p = some a3 ∧ 0 ≤ (0 : Int) ∧ (0 : Int) < (p1l : Int) ∧ ∃ v4, cell H (.add a3 (toNat (0 : Int) * 1)) = some (.int .i64 v4) ∧ br (decide (v2 ≤ v4))
 (∃ a5, p1p = some a5 ∧ 0 ≤ (1 : Int) ∧ (1 : Int) < (p1l : Int) ∧ ∃ v6, cell H (.add a5 (toNat (1 : Int) * 1)) = some (.int .i64 v6) ∧ R (.int .i64 v6) H)
 (∀ X7 : Kl, (∀ (i8 : Int) H9, (br (decide (i8 < (p1l : Int)))
 (∃ a10, p1p = some a10 ∧ 0 ≤ i8 ∧ i8 < (p1l : Int) ∧ ∃ v11, cell H9 (.add a10 (toNat i8 * 1)) = some (.int .i64 v11) ∧ br (decide (v2 < v11))
 (∃ a12, p1p = some a12 ∧ 0 ≤ (wrap .i64 (i8 - 1)) ∧ (wrap .i64 (i8 - 1)) < (p1l : Int) ∧ ∃ v13, cell H9 (.add a12 (toNat (wrap .i64 (i8 - 1)) * 1)) = some (.int .i64 v13) ∧ ∃ a14, p1p = some a14 ∧ 0 ≤ (wrap .i64 (i8 + 1)) ∧ (wrap .i64 (i8 + 1)) < (p1l : Int) ∧ ∃ v15, cell H9 (.add a14 (toNat (wrap .i64 (i8 + 1)) * 1)) = some (.int .i64 v15) ∧ ∃ a16, p1p = some a16 ∧ 0 ≤ (wrap .i64 (i8 - 1)) ∧ (wrap .i64 (i8 - 1)) < (p1l : Int) ∧ ∃ v17, cell H9 (.add a16 (toNat (wrap .i64 (i8 - 1)) * 1)) = some (.int .i64 v17) ∧ ∃ a18, p1p = some a18 ∧ 0 ≤ (wrap .i64 (i8 - 2)) ∧ (wrap .i64 (i8 - 2)) < (p1l : Int) ∧ ∃ v19, cell H9 (.add a18 (toNat (wrap .i64 (i8 - 2)) * 1)) = some (.int .i64 v19) ∧ ∃ a20, p1p = some a20 ∧ 0 ≤ i8 ∧ i8 < (p1l : Int) ∧ ∃ v21, cell H9 (.add a20 (toNat i8 * 1)) = some (.int .i64 v21) ∧ ∃ a22, p1p = some a22 ∧ 0 ≤ (wrap .i64 (i8 - 2)) ∧ (wrap .i64 (i8 - 2)) < (p1l : Int) ∧ ∃ v23, cell H9 (.add a22 (toNat (wrap .i64 (i8 - 2)) * 1)) = some (.int .i64 v23) ∧ (wrap .i64 (v21 - v23)) ≠ 0 ∧ R (.int .i64 (wrap .i64 (v13 + (wrap .i64 (Int.tdiv (wrap .i64 ((wrap .i64 (v15 - v17)) * (wrap .i64 (v2 - v19)))) (wrap .i64 (v21 - v23))))))) H9)
 (X7 [.int .i64 (wrap .i64 (i8 + 2))] H9))
 (∃ a24, p1p = some a24 ∧ 0 ≤ (wrap .i64 ((p1l : Int) - 1)) ∧ (wrap .i64 ((p1l : Int) - 1)) < (p1l : Int) ∧ ∃ v25, cell H9 (.add a24 (toNat (wrap .i64 ((p1l : Int) - 1)) * 1)) = some (.int .i64 v25) ∧ R (.int .i64 v25) H9)) → X7 [.int .i64 i8] H9) → X7 [.int .i64 2] H)
def Tryz.p82 : Plan := (tl (tg (two (tl (one (loop [(5, 3)] [0, 1] (two (tl (tl leaf)) (two (one g0) leaf))))) (tl leaf))))
theorem Tryz.s82 {p1p : OA} {p1l p1c : Nat} {v2 : Int} {H R} (h : Tryz.S82 p1p p1l p1c v2 H R) : Tryz.C 82 #[.slice p1p p1l p1c, .int .i64 v2] H R := vcs Tryz.tab_ok Tryz.mixed Tryz.func82 Tryz.cal82 Tryz.p82 h (by kernel_rfl)
def Tryz.S83 (s1p : OA) (s1l s1c : Nat) (i2 : Int) (v3p : OA) (v3l v3c : Nat) (H : Heap) (R : Kv) : Prop :=
 0 ≤ i2 ∧ i2 ≤ (s1l : Int) ∧ br (((v3l : Int) : Int) == 0)
 (R (.slice s1p s1l s1c) H)
 (br (i2 == (s1l : Int))
 (appQ 19 216 #[.int .i64 0, .int .i64 0, .bool false, .int .i64 0, .int .i64 0, .int .i64 0, .int .i64 0, .slice none 0 0, .slice none 0 0, .int .i64 0, .int .i64 0, .int .i64 0, .int .i64 0, .int .i64 0, .int .i64 0, .bool false, .int .i64 0, .slice none 0 0, .slice none 0 0] H s1p s1l s1c v3p v3l 61 fun ap4p ap4l ap4c H5 => R (.slice ap4p ap4l ap4c) H5)
 (br (decide (((wrap .i64 ((s1l : Int) + (v3l : Int))) : Int) > (s1c : Int)))
 (0 ≤ i2 ∧ i2 ≤ (s1c : Int) ∧ appZ 19 216 #[.int .i64 0, .int .i64 0, .bool false, .int .i64 0, .int .i64 0, .int .i64 0, .int .i64 0, .slice none 0 0, .slice none 0 0, .int .i64 0, .int .i64 0, .int .i64 0, .int .i64 0, .int .i64 0, .int .i64 0, .bool false, .int .i64 0, .slice none 0 0, .slice none 0 0] H (if s1c = 0 then s1p else Option.map (fun x => Addr.add x (0 * 19)) s1p) ((toNat i2) - 0) (s1c - 0) (wrap .i64 ((wrap .i64 ((s1l : Int) + (v3l : Int))) - i2)) 61 fun s26p s26l s26c H7 => 0 ≤ i2 ∧ i2 ≤ (s26l : Int) ∧ ∃ xs8, rowOf H7 v3p (min v3l (s26l - (toNat i2)) * 19) xs8 ∧ copQ H7 (if s26c = (toNat i2) then s26p else Option.map (fun x => Addr.add x ((toNat i2) * 19)) s26p) xs8 fun H9 => 0 ≤ (wrap .i64 (i2 + (v3l : Int))) ∧ (wrap .i64 (i2 + (v3l : Int))) ≤ (s26l : Int) ∧ 0 ≤ i2 ∧ i2 ≤ (s1l : Int) ∧ ∃ xs10, rowOf H9 (if s1c = (toNat i2) then s1p else Option.map (fun x => Addr.add x ((toNat i2) * 19)) s1p) (min (s1l - (toNat i2)) (s26l - (toNat (wrap .i64 (i2 + (v3l : Int))))) * 19) xs10 ∧ copQ H9 (if s26c = (toNat (wrap .i64 (i2 + (v3l : Int)))) then s26p else Option.map (fun x => Addr.add x ((toNat (wrap .i64 (i2 + (v3l : Int)))) * 19)) s26p) xs10 fun H11 => R (.slice s26p s26l s26c) H11)
 (0 ≤ (wrap .i64 ((s1l : Int) + (v3l : Int))) ∧ (wrap .i64 ((s1l : Int) + (v3l : Int))) ≤ (s1c : Int) ∧ 0 ≤ (wrap .i64 (i2 + (v3l : Int))) ∧ (wrap .i64 (i2 + (v3l : Int))) ≤ ((((toNat (wrap .i64 ((s1l : Int) + (v3l : Int)))) - 0) : Nat) : Int) ∧ Tryz.C 98 #[.slice v3p v3l v3c, .slice (if (s1c - 0) = (toNat (wrap .i64 (i2 + (v3l : Int)))) then (if s1c = 0 then s1p else Option.map (fun x => Addr.add x (0 * 19)) s1p) else Option.map (fun x => Addr.add x ((toNat (wrap .i64 (i2 + (v3l : Int)))) * 19)) (if s1c = 0 then s1p else Option.map (fun x => Addr.add x (0 * 19)) s1p)) (((toNat (wrap .i64 ((s1l : Int) + (v3l : Int)))) - 0) - (toNat (wrap .i64 (i2 + (v3l : Int))))) ((s1c - 0) - (toNat (wrap .i64 (i2 + (v3l : Int)))))] H fun r12 H13 => ∃ r14, r12 = .bool r14 ∧ br (!r14)
 (0 ≤ (wrap .i64 (i2 + (v3l : Int))) ∧ (wrap .i64 (i2 + (v3l : Int))) ≤ ((((toNat (wrap .i64 ((s1l : Int) + (v3l : Int)))) - 0) : Nat) : Int) ∧ 0 ≤ i2 ∧ i2 ≤ ((((toNat (wrap .i64 ((s1l : Int) + (v3l : Int)))) - 0) : Nat) : Int) ∧ ∃ xs15, rowOf H13 (if (s1c - 0) = (toNat i2) then (if s1c = 0 then s1p else Option.map (fun x => Addr.add x (0 * 19)) s1p) else Option.map (fun x => Addr.add x ((toNat i2) * 19)) (if s1c = 0 then s1p else Option.map (fun x => Addr.add x (0 * 19)) s1p)) (min (((toNat (wrap .i64 ((s1l : Int) + (v3l : Int)))) - 0) - (toNat i2)) (((toNat (wrap .i64 ((s1l : Int) + (v3l : Int)))) - 0) - (toNat (wrap .i64 (i2 + (v3l : Int))))) * 19) xs15 ∧ copQ H13 (if (s1c - 0) = (toNat (wrap .i64 (i2 + (v3l : Int)))) then (if s1c = 0 then s1p else Option.map (fun x => Addr.add x (0 * 19)) s1p) else Option.map (fun x => Addr.add x ((toNat (wrap .i64 (i2 + (v3l : Int)))) * 19)) (if s1c = 0 then s1p else Option.map (fun x => Addr.add x (0 * 19)) s1p)) xs15 fun H16 => 0 ≤ i2 ∧ i2 ≤ ((((toNat (wrap .i64 ((s1l : Int) + (v3l : Int)))) - 0) : Nat) : Int) ∧ ∃ xs17, rowOf H16 v3p (min v3l (((toNat (wrap .i64 ((s1l : Int) + (v3l : Int)))) - 0) - (toNat i2)) * 19) xs17 ∧ copQ H16 (if (s1c - 0) = (toNat i2) then (if s1c = 0 then s1p else Option.map (fun x => Addr.add x (0 * 19)) s1p) else Option.map (fun x => Addr.add x ((toNat i2) * 19)) (if s1c = 0 then s1p else Option.map (fun x => Addr.add x (0 * 19)) s1p)) xs17 fun H18 => R (.slice (if s1c = 0 then s1p else Option.map (fun x => Addr.add x (0 * 19)) s1p) ((toNat (wrap .i64 ((s1l : Int) + (v3l : Int)))) - 0) (s1c - 0)) H18)
 (0 ≤ (s1l : Int) ∧ (s1l : Int) ≤ ((((toNat (wrap .i64 ((s1l : Int) + (v3l : Int)))) - 0) : Nat) : Int) ∧ ∃ xs19, rowOf H13 v3p (min v3l (((toNat (wrap .i64 ((s1l : Int) + (v3l : Int)))) - 0) - (toNat (s1l : Int))) * 19) xs19 ∧ copQ H13 (if (s1c - 0) = (toNat (s1l : Int)) then (if s1c = 0 then s1p else Option.map (fun x => Addr.add x (0 * 19)) s1p) else Option.map (fun x => Addr.add x ((toNat (s1l : Int)) * 19)) (if s1c = 0 then s1p else Option.map (fun x => Addr.add x (0 * 19)) s1p)) xs19 fun H20 => 0 ≤ i2 ∧ i2 ≤ ((((toNat (wrap .i64 ((s1l : Int) + (v3l : Int)))) - 0) : Nat) : Int) ∧ Tryz.C 99 #[.slice (if (s1c - 0) = (toNat i2) then (if s1c = 0 then s1p else Option.map (fun x => Addr.add x (0 * 19)) s1p) else Option.map (fun x => Addr.add x ((toNat i2) * 19)) (if s1c = 0 then s1p else Option.map (fun x => Addr.add x (0 * 19)) s1p)) (((toNat (wrap .i64 ((s1l : Int) + (v3l : Int)))) - 0) - (toNat i2)) ((s1c - 0) - (toNat i2)), .int .i64 (v3l : Int)] H20 fun r21 H22 => r21 = .tuple #[] ∧ R (.slice (if s1c = 0 then s1p else Option.map (fun x => Addr.add x (0 * 19)) s1p) ((toNat (wrap .i64 ((s1l : Int) + (v3l : Int)))) - 0) (s1c - 0)) H22))))
def Tryz.p83 : Plan := (tl (tl (tl (tg (tl (tg (two (tl (two (tl (tl (tl (tl leaf)))) leaf)) (tl (two (tl (two (tl (tl (tl leaf))) leaf)) (tl (tl (tl leaf))))))))))))
theorem Tryz.s83 {s1p : OA} {s1l s1c : Nat} {i2 : Int} {v3p : OA} {v3l v3c : Nat} {H R} (h : Tryz.S83 s1p s1l s1c i2 v3p v3l v3c H R) : Tryz.C 83 #[.slice s1p s1l s1c, .int .i64 i2, .slice v3p v3l v3c] H R := vcs Tryz.tab_ok Tryz.mixed Tryz.func83 Tryz.cal83 Tryz.p83 h (by kernel_rfl)
def Tryz.S84 (li1p : OA) (li1l li1c : Nat) (H : Heap) (R : Kv) : Prop :=
 ∀ X2 : Kl, (∀ (mo3 t4 : Int) H5, (br (decide (t4 < (li1l : Int)))
 (∃ a6, li1p = some a6 ∧ 0 ≤ t4 ∧ t4 < (li1l : Int) ∧ ∃ v7, v7.size = 19 ∧ rowIn H5 (.add a6 (toNat t4 * 19)) v7 ∧ alc H5 (.cells #[.int .i64 0, .int .i64 0, .bool false, .int .i64 0, .int .i64 0, .int .i64 0, .int .i64 0, .slice none 0 0, .slice none 0 0, .int .i64 0, .int .i64 0, .int .i64 0, .int .i64 0, .int .i64 0, .int .i64 0, .bool false, .int .i64 0, .slice none 0 0, .slice none 0 0] 61) fun b8 H9 => v7.size = 19 ∧ stAt H9 ⟨b8, 0, none⟩ v7.toList fun H10 => ∃ Ki11p Ki11l Ki11c, cell H10 (.add ⟨b8, 0, none⟩ 18) = some (.slice Ki11p Ki11l Ki11c) ∧ Tryz.C 84 #[.slice Ki11p Ki11l Ki11c] H10 fun r12 H13 => ∃ r14, r12 = .int .i64 r14 ∧ X2 [.int .i64 (max mo3 (wrap .i64 ((1 : Int) + r14))), .int .i64 (wrap .i64 (t4 + 1))] H13)
 (R (.int .i64 mo3) H5)) → X2 [.int .i64 mo3, .int .i64 t4] H5) → X2 [.int .i64 0, .int .i64 0] H
def Tryz.p84 : Plan := (tl (tl (two (tl (one (loop [(3, 3), (8, 3)] [6, 7] (tl (two (tl leaf) (two (one (tl leaf)) leaf)))))) (tl leaf))))
theorem Tryz.s84 {li1p : OA} {li1l li1c : Nat} {H R} (h : Tryz.S84 li1p li1l li1c H R) : Tryz.C 84 #[.slice li1p li1l li1c] H R := vcs Tryz.tab_ok Tryz.mixed Tryz.func84 Tryz.cal84 Tryz.p84 h (by kernel_rfl)
def Tryz.S85 (s1p : OA) (s1l s1c f2g : Nat) (f2x f2y : AV) (H : Heap) (R : Kv) : Prop :=
 ∀ X3 : Kl, (∀ (i4 : Int) H5, (br (decide (i4 < (s1l : Int)))
 (∃ a6, s1p = some a6 ∧ 0 ≤ i4 ∧ i4 < (s1l : Int) ∧ ∃ v7, cell H5 (.add a6 (toNat i4 * 1)) = some (.int .i64 v7) ∧ Tryz.C f2g (List.toArray (Array.toList f2x ++ [Value.int .i64 v7] ++ Array.toList f2y)) H5 fun r8 H9 => ∃ r10, r8 = .bool r10 ∧ br r10
 (R (.int .i64 i4) H9)
 (X3 [.int .i64 (wrap .i64 (i4 + 1))] H9))
 (R (.int .i64 (-1 : Int)) H5)) → X3 [.int .i64 i4] H5) → X3 [.int .i64 0] H
def Tryz.p85 : Plan := (tl (two (tl (one (loop [(8, 3)] [0, 1, 7] (tl (two (tl leaf) (two (one (tl g0)) leaf)))))) (tl leaf)))
theorem Tryz.s85 {s1p : OA} {s1l s1c f2g : Nat} {f2x f2y : AV} {H R} (h : Tryz.S85 s1p s1l s1c f2g f2x f2y H R) : Tryz.C 85 #[.slice s1p s1l s1c, .func (.func f2g) f2x f2y] H R := vcs Tryz.tab_ok Tryz.mixed Tryz.func85 Tryz.cal85 Tryz.p85 h (by kernel_rfl)
def Tryz.S86 (p1 : Int) (H : Heap) (R : Kv) : Prop :=
 alc H (.cells #[.int .i64 0, .int .i64 0, .int .i64 0, .int .i64 0] 141) fun b2 H3 => 0 ≤ (24 : Int) ∧ 0 ≤ (16 : Int) ∧ 0 ≤ (8 : Int) ∧ #[Value.int .i64 (andI .i64 (shrI .i64 p1 24) 255), Value.int .i64 (andI .i64 (shrI .i64 p1 16) 255), Value.int .i64 (andI .i64 (shrI .i64 p1 8) 255), Value.int .i64 (andI .i64 p1 255)].size = 4 ∧ stAt H3 ⟨b2, 0, none⟩ (Array.toList #[.int .i64 (andI .i64 (shrI .i64 p1 24) 255), .int .i64 (andI .i64 (shrI .i64 p1 16) 255), .int .i64 (andI .i64 (shrI .i64 p1 8) 255), .int .i64 (andI .i64 p1 255)]) fun H4 => ∃ re5, re5.size = 4 ∧ rowIn H4 ⟨b2, 0, none⟩ re5 ∧ R (.agg re5) H4
def Tryz.p86 : Plan := (tl (tl leaf))
theorem Tryz.s86 {p1 : Int} {H R} (h : Tryz.S86 p1 H R) : Tryz.C 86 #[.int .i64 p1] H R := vcs Tryz.tab_ok Tryz.mixed Tryz.func86 Tryz.cal86 Tryz.p86 h (by kernel_rfl)
def Tryz.S87 (sh1p : OA) (sh1l sh1c : Nat) (mo2p : OA) (mo2l mo2c : Nat) (H : Heap) (R : Kv) : Prop :=
 ∀ J3 : Kl, (∀ H4, (alc H4 (.cells #[.slice sh1p sh1l sh1c, .slice mo2p mo2l mo2c] 43) fun b5 H6 => ∀ X7 : Kl, (∀ (t8 : Int) H9, (br (decide (t8 < ((2 : Nat) : Int)))
 (∃ a10, (some ⟨b5, 0, none⟩) = some a10 ∧ 0 ≤ t8 ∧ t8 < ((2 : Nat) : Int) ∧ ∃ l11p l11l l11c, cell H9 (.add a10 (toNat t8 * 1)) = some (.slice l11p l11l l11c) ∧ ∀ X12 : Kl, (∀ (t13 : Int) H14, (br (decide (t13 < (l11l : Int)))
 (∃ a15, l11p = some a15 ∧ 0 ≤ t13 ∧ t13 < (l11l : Int) ∧ ∃ v16, v16.size = 2 ∧ rowIn H14 (.add a15 (toNat t13 * 2)) v16 ∧ alc H14 (.cells #[.int .i64 0, .int .i64 0] 99) fun b17 H18 => v16.size = 2 ∧ stAt H18 ⟨b17, 0, none⟩ v16.toList fun H19 => ∃ v20, v20.size = 2 ∧ rowIn H19 ⟨b17, 0, none⟩ v20 ∧ Tryz.C 100 #[.agg v20] H19 fun r21 H22 => ∃ r23, r21 = .bool r23 ∧ br (!r23)
 (R (.int .i64 31) H22)
 (X12 [.int .i64 (wrap .i64 (t13 + 1))] H22))
 (X7 [.int .i64 (wrap .i64 (t8 + 1))] H14)) → X12 [.int .i64 t13] H14) → X12 [.int .i64 0] H9)
 (R (.int .i64 0) H9)) → X7 [.int .i64 t8] H9) → X7 [.int .i64 0] H6) → J3 [] H4) →
 br (decide (((sh1l : Int) : Int) < 3)) (R (.int .i64 31) H) (br (decide (((sh1l : Int) : Int) > 256))
 (R (.int .i64 31) H)
 (J3 [] H))
def Tryz.p87 : Plan := (tl (two (join [] [0, 1] g0) (two (tl (one (loop [(21, 3)] [19, 20] (tl (two (tl leaf) (two (one (tl (tl (one (loop [(27, 3)] [19, 20, 21, 25, 26] (tl (two (tl leaf) (two (one (tl g0)) leaf)))))))) leaf)))))) (tl leaf))))
theorem Tryz.s87 {sh1p : OA} {sh1l sh1c : Nat} {mo2p : OA} {mo2l mo2c : Nat} {H R} (h : Tryz.S87 sh1p sh1l sh1c mo2p mo2l mo2c H R) : Tryz.C 87 #[.slice sh1p sh1l sh1c, .slice mo2p mo2l mo2c] H R := vcs Tryz.tab_ok Tryz.mixed Tryz.func87 Tryz.cal87 Tryz.p87 h (by kernel_rfl)
def Tryz.S88 (sh1p : OA) (sh1l sh1c : Nat) (x2 y3 : Int) (H : Heap) (R : Kv) : Prop :=
 (FloatKind.f64 = FloatKind.f64 ∧ ∃ a4, sh1p = some a4 ∧ 0 ≤ (wrap .i64 ((sh1l : Int) - 1)) ∧ (wrap .i64 ((sh1l : Int) - 1)) < (sh1l : Int) ∧ ∃ v5, v5.size = 2 ∧ rowIn H (.add a4 (toNat (wrap .i64 ((sh1l : Int) - 1)) * 2)) v5 ∧ alc H (.cells #[.int .i64 0, .int .i64 0] 99) fun b6 H7 => v5.size = 2 ∧ stAt H7 ⟨b6, 0, none⟩ v5.toList fun H8 => ∀ X9 : Kl, (∀ (od10 : Bool) (t11 : Int) H12, (br (decide (t11 < (sh1l : Int)))
 (∃ a13, sh1p = some a13 ∧ 0 ≤ t11 ∧ t11 < (sh1l : Int) ∧ ∃ v14, v14.size = 2 ∧ rowIn H12 (.add a13 (toNat t11 * 2)) v14 ∧ alc H12 (.cells #[.int .i64 0, .int .i64 0] 99) fun b15 H16 => v14.size = 2 ∧ stAt H16 ⟨b15, 0, none⟩ v14.toList fun H17 => ∃ v18, v18.size = 2 ∧ rowIn H17 ⟨b6, 0, none⟩ v18 ∧ ∃ v19, v19.size = 2 ∧ rowIn H17 ⟨b15, 0, none⟩ v19 ∧ Tryz.C 101 #[.agg v18] H17 fun r20 H21 => ∃ r22r r22i, r20 = .complex .f64 r22r r22i ∧ (Ext H17 H21 ∨ (∃ v47, v47.size = 2 ∧ rowIn H21 ⟨b15, 0, none⟩ v47 ∧ Value.agg v47 = .agg v19)) ∧ (FloatKind.f64 = FloatKind.f64 ∧ FloatKind.f64 = FloatKind.f64 ∧ ∃ a23 im24 : Nat, cMulBits (4611686018427387904 : Nat) (0 : Nat) r22r r22i = some (a23, im24) ∧ Tryz.C 101 #[.agg v19] H21 fun r25 H26 => ∃ r27r r27i, r25 = .complex .f64 r27r r27i ∧ (FloatKind.f64 = FloatKind.f64 ∧ FloatKind.f64 = FloatKind.f64 ∧ ∃ b28 im29 : Nat, cMulBits (4611686018427387904 : Nat) (0 : Nat) r27r r27i = some (b28, im29) ∧ (FloatKind.f64 = FloatKind.f64 ∧ (FloatKind.f64 = FloatKind.f64 ∧ br (!((Ieee.Format.order (FloatKind.format .f64) im24 (floatOfInt .f64 (wrap .i64 ((wrap .i64 ((2 : Int) * y3)) + 1))) == some Ordering.gt) == (Ieee.Format.order (FloatKind.format .f64) im29 (floatOfInt .f64 (wrap .i64 ((wrap .i64 ((2 : Int) * y3)) + 1))) == some Ordering.gt)))
 (∀ J30 : Kl, (∀ (a31r a31i b32r b32i : Nat) H33, ((FloatKind.f64 = FloatKind.f64 ∧ ∃ re34 im35 : Nat, cSumBits .sub .f64 a31r a31i b32r b32i = some (re34, im35) ∧ (FloatKind.f64 = FloatKind.f64 ∧ ∃ re36 im37 : Nat, cSumBits .sub .f64 (floatOfInt .f64 (wrap .i64 ((wrap .i64 ((2 : Int) * x2)) + 1))) (floatOfInt .f64 (wrap .i64 ((wrap .i64 ((2 : Int) * y3)) + 1))) b32r b32i = some (re36, im37) ∧ Tryz.C 102 #[.complex .f64 re34 im35, .complex .f64 re36 im37] H33 fun r38 H39 => ∃ r40, r38 = .float .f64 r40 ∧ (FloatKind.f64 = FloatKind.f64 ∧ br (Ieee.Format.order (FloatKind.format .f64) r40 (0 : Nat) == some Ordering.gt)
 (∃ v41, v41.size = 2 ∧ rowIn H39 ⟨b15, 0, none⟩ v41 ∧ v41.size = 2 ∧ stAt H39 ⟨b6, 0, none⟩ v41.toList fun H42 => X9 [.bool (!od10), .int .i64 (wrap .i64 (t11 + 1))] H42)
 (∃ v43, v43.size = 2 ∧ rowIn H39 ⟨b15, 0, none⟩ v43 ∧ v43.size = 2 ∧ stAt H39 ⟨b6, 0, none⟩ v43.toList fun H44 => X9 [.bool od10, .int .i64 (wrap .i64 (t11 + 1))] H44))))) → J30 [.complex .f64 a31r a31i, .complex .f64 b32r b32i] H33) →
 br (Ieee.Format.order (FloatKind.format .f64) im29 (floatOfInt .f64 (wrap .i64 ((wrap .i64 ((2 : Int) * y3)) + 1))) == some Ordering.gt)
 (J30 [.complex .f64 b28 im29, .complex .f64 a23 im24] H26)
 (J30 [.complex .f64 a23 im24, .complex .f64 b28 im29] H26))
 (∃ v45, v45.size = 2 ∧ rowIn H26 ⟨b15, 0, none⟩ v45 ∧ v45.size = 2 ∧ stAt H26 ⟨b6, 0, none⟩ v45.toList fun H46 => X9 [.bool od10, .int .i64 (wrap .i64 (t11 + 1))] H46))))))
 (R (.bool od10) H12)) → X9 [.bool od10, .int .i64 t11] H12) → X9 [.bool false, .int .i64 0] H8)
def Tryz.p88 : Plan := (tl (tl (tl (tl (two (tl (one (loop [(8, 4), (33, 3)] [7, 9, 31, 32] (tl (two (tl leaf) (two (one (tl (tl (two (tl (tl (two (two (join [(12, 151), (13, 151)] [7, 8, 9, 11, 31, 32, 33] (tl (tl leaf))) (tl (tl leaf))) leaf))) leaf)))) leaf)))))) (tl leaf))))))
theorem Tryz.s88 {sh1p : OA} {sh1l sh1c : Nat} {x2 y3 : Int} {H R} (h : Tryz.S88 sh1p sh1l sh1c x2 y3 H R) : Tryz.C 88 #[.slice sh1p sh1l sh1c, .int .i64 x2, .int .i64 y3] H R := vcs Tryz.tab_ok Tryz.mixed Tryz.func88 Tryz.cal88 Tryz.p88 h (by kernel_rfl)
def Tryz.S89 (m1 : AV) (H : Heap) (R : Kv) : Prop :=
 alc H (.cells m1 45) fun b2 H3 => ∃ v4, v4.size = 6 ∧ rowIn H3 ⟨b2, 0, none⟩ v4 ∧ ∀ X5 : Kl, (∀ (i6 : Int) H7, (br (decide (i6 < 6))
 (0 ≤ i6 ∧ i6 < ((6 : Nat) : Int) ∧ ∃ v8, v4[(toNat i6 * 1)]? = some (.int .i64 v8) ∧ ∀ J9 : Kl, (∀ (mo10 : Int) H11, (br (decide (v8 < (wrap .i64 (0 - mo10)))) (R (.bool false) H11) (br (decide (v8 > mo10))
 (R (.bool false) H11)
 (X5 [.int .i64 (wrap .i64 (i6 + 1))] H11))) → J9 [.int .i64 mo10] H11) →
 br (decide (i6 ≥ 4))
 (J9 [.int .i64 68719476736] H7)
 (J9 [.int .i64 16777216] H7))
 (R (.bool true) H7)) → X5 [.int .i64 i6] H7) → X5 [.int .i64 0] H3
def Tryz.p89 : Plan := (tl (two (tl (one (loop [(7, 3)] [6] (tl (two (tl leaf) (two (one (tl (tl (two (join [(5, 3)] [4, 6, 7] (tl (tl leaf))) g0)))) leaf)))))) (tl leaf)))
theorem Tryz.s89 {m1 : AV} {H R} (h : Tryz.S89 m1 H R) : Tryz.C 89 #[.agg m1] H R := vcs Tryz.tab_ok Tryz.mixed Tryz.func89 Tryz.cal89 Tryz.p89 h (by kernel_rfl)
end Go.Proofs
namespace Go.Proofs
open Go.Sh Go.Sh.Plan
open Go.IntKind (wrap)
open Int (toNat)
def Tryz.S90 (n1 m2 : Int) (H : Heap) (R : Kv) : Prop :=
 ∀ J3 : Kl, (∀ (n4 m5 : Int) H6, (Tryz.C 103 #[.int .i64 (wrap .i64 ((wrap .i64 ((2 : Int) * n4)) + m5)), .int .i64 (wrap .i64 ((2 : Int) * m5))] H6 fun r7 H8 => ∃ r9, r7 = .int .i64 r9 ∧ R (.int .i64 r9) H8) → J3 [.int .i64 n4, .int .i64 m5] H6) →
 br (decide (m2 < 0))
 (J3 [.int .i64 (wrap .i64 (0 - n1)), .int .i64 (wrap .i64 (0 - m2))] H)
 (J3 [.int .i64 n1, .int .i64 m2] H)
def Tryz.p90 : Plan := (tl (two (join [(0, 3), (1, 3)] [] (tl (tl leaf))) (tl leaf)))
theorem Tryz.s90 {n1 m2 : Int} {H R} (h : Tryz.S90 n1 m2 H R) : Tryz.C 90 #[.int .i64 n1, .int .i64 m2] H R := vcs Tryz.tab_ok Tryz.mixed Tryz.func90 Tryz.cal90 Tryz.p90 h (by kernel_rfl)
def Tryz.S91 (n1 : Int) (H : Heap) (R : Kv) : Prop :=
 0 ≤ (16 : Int) ∧ R (.int .i64 (shrI .i64 (wrap .i64 (n1 + 32768)) 16)) H
def Tryz.p91 : Plan := (tl (tl leaf))
theorem Tryz.s91 {n1 : Int} {H R} (h : Tryz.S91 n1 H R) : Tryz.C 91 #[.int .i64 n1] H R := vcs Tryz.tab_ok Tryz.mixed Tryz.func91 Tryz.cal91 Tryz.p91 h (by kernel_rfl)
def Tryz.S92 (ki1 : Int) (pa2p : OA) (pa2l pa2c : Nat) (H : Heap) (R : Kv) : Prop :=
 ∀ X3 : Kl, (∀ (i4 : Int) H5, (br (decide (i4 < (pa2l : Int)))
 (∀ J6 : Kl, (∀ H7, (X3 [.int .i64 (wrap .i64 (i4 + 1))] H7) → J6 [] H7) →
 ∃ a8, pa2p = some a8 ∧ 0 ≤ i4 ∧ i4 < (pa2l : Int) ∧ ∃ p9, cell H5 (.add a8 (toNat i4 * 1)) = some (.int .i64 p9) ∧ br (decide (p9 < 0)) (R (.bool false) H5) (br (decide (p9 > 255)) (R (.bool false) H5) (br (ki1 == 1) ((2 : Int) ≠ 0 ∧ br (((Int.tmod i4 2) : Int) == 0) (br (decide (i4 > 0)) (∃ a10, pa2p = some a10 ∧ 0 ≤ (wrap .i64 (i4 - 2)) ∧ (wrap .i64 (i4 - 2)) < (pa2l : Int) ∧ ∃ v11, cell H5 (.add a10 (toNat (wrap .i64 (i4 - 2)) * 1)) = some (.int .i64 v11) ∧ br (decide (p9 ≤ v11))
 (R (.bool false) H5)
 (J6 [] H5)) (J6 [] H5)) (J6 [] H5)) (J6 [] H5))))
 (br (ki1 == 0)
 (br (((pa2l : Int) : Int) == 2) (∃ a12, pa2p = some a12 ∧ 0 ≤ (0 : Int) ∧ (0 : Int) < (pa2l : Int) ∧ ∃ v13, cell H5 (.add a12 (toNat (0 : Int) * 1)) = some (.int .i64 v13) ∧ ∃ a14, pa2p = some a14 ∧ 0 ≤ (1 : Int) ∧ (1 : Int) < (pa2l : Int) ∧ ∃ v15, cell H5 (.add a14 (toNat (1 : Int) * 1)) = some (.int .i64 v15) ∧ R (.bool (decide (v13 < v15))) H5) (R (.bool false) H5))
 (br (ki1 == 1)
 (br (decide (((pa2l : Int) : Int) ≥ 2)) (br (decide (((pa2l : Int) : Int) ≤ 32)) ((2 : Int) ≠ 0 ∧ R (.bool (((Int.tmod (pa2l : Int) 2) : Int) == 0)) H5) (R (.bool false) H5)) (R (.bool false) H5))
 (br (ki1 == 2)
 (R (.bool (((pa2l : Int) : Int) == 0)) H5)
 (br (ki1 == 3)
 (R (.bool (((pa2l : Int) : Int) == 1)) H5)
 (R (.bool false) H5)))))) → X3 [.int .i64 i4] H5) → X3 [.int .i64 0] H
def Tryz.p92 : Plan := (tl (tl (two (tl (one (loop [(12, 3)] [0, 1, 5, 10, 11] (tl (two (tl leaf) (two (join [] [0, 1, 5, 10, 11, 12] (one (tl g0))) leaf)))))) (two (tl (one (tl (two (tl leaf) (tl (two (tl leaf) (tl (two (tl leaf) g0)))))))) (tl leaf)))))
theorem Tryz.s92 {ki1 : Int} {pa2p : OA} {pa2l pa2c : Nat} {H R} (h : Tryz.S92 ki1 pa2p pa2l pa2c H R) : Tryz.C 92 #[.int .i64 ki1, .slice pa2p pa2l pa2c] H R := vcs Tryz.tab_ok Tryz.mixed Tryz.func92 Tryz.cal92 Tryz.p92 h (by kernel_rfl)
def Tryz.S93 (pa1p : OA) (pa1l pa1c : Nat) (H : Heap) (R : Kv) : Prop :=
 0 ≤ (256 : Int) ∧ (256 : Int) ≤ (256 : Int) ∧ ((8 : Nat) : Int) * (256 : Int) ≤ 281474976710656 ∧ (256 : Int) ≤ 281474976710656 ∧ alc H (.cells (List.toArray (reps (toNat 256) (Array.toList #[.int .i64 0]))) 3) fun b2 H3 => ∀ X4 : Kl, (∀ (v5 : Int) H6, (br (decide (v5 < (((toNat 256) : Nat) : Int)))
 (∃ a7, pa1p = some a7 ∧ 0 ≤ (0 : Int) ∧ (0 : Int) < (pa1l : Int) ∧ ∃ v8, cell H6 (.add a7 (toNat (0 : Int) * 1)) = some (.int .i64 v8) ∧ br (decide (v5 ≤ v8))
 (∃ a9, pa1p = some a9 ∧ 0 ≤ (1 : Int) ∧ (1 : Int) < (pa1l : Int) ∧ ∃ v10, cell H6 (.add a9 (toNat (1 : Int) * 1)) = some (.int .i64 v10) ∧ ∃ a11, (some ⟨b2, 0, none⟩) = some a11 ∧ 0 ≤ v5 ∧ v5 < (((toNat 256) : Nat) : Int) ∧ stAt H6 (.add a11 (toNat v5 * 1)) [.int .i64 v10] fun H12 => X4 [.int .i64 (wrap .i64 (v5 + 1))] H12)
 (∃ a13, pa1p = some a13 ∧ 0 ≤ (wrap .i64 ((pa1l : Int) - 2)) ∧ (wrap .i64 ((pa1l : Int) - 2)) < (pa1l : Int) ∧ ∃ v14, cell H6 (.add a13 (toNat (wrap .i64 ((pa1l : Int) - 2)) * 1)) = some (.int .i64 v14) ∧ br (decide (v5 ≥ v14))
 (∃ a15, pa1p = some a15 ∧ 0 ≤ (wrap .i64 ((pa1l : Int) - 1)) ∧ (wrap .i64 ((pa1l : Int) - 1)) < (pa1l : Int) ∧ ∃ v16, cell H6 (.add a15 (toNat (wrap .i64 ((pa1l : Int) - 1)) * 1)) = some (.int .i64 v16) ∧ ∃ a17, (some ⟨b2, 0, none⟩) = some a17 ∧ 0 ≤ v5 ∧ v5 < (((toNat 256) : Nat) : Int) ∧ stAt H6 (.add a17 (toNat v5 * 1)) [.int .i64 v16] fun H18 => X4 [.int .i64 (wrap .i64 (v5 + 1))] H18)
 (∀ X19 : Kl, (∀ (i20 : Int) H21, (∃ a22, pa1p = some a22 ∧ 0 ≤ (wrap .i64 (i20 + 2)) ∧ (wrap .i64 (i20 + 2)) < (pa1l : Int) ∧ ∃ v23, cell H21 (.add a22 (toNat (wrap .i64 (i20 + 2)) * 1)) = some (.int .i64 v23) ∧ br (decide (v23 ≤ v5))
 (X19 [.int .i64 (wrap .i64 (i20 + 2))] H21)
 (∃ a24, pa1p = some a24 ∧ 0 ≤ (wrap .i64 (i20 + 1)) ∧ (wrap .i64 (i20 + 1)) < (pa1l : Int) ∧ ∃ v25, cell H21 (.add a24 (toNat (wrap .i64 (i20 + 1)) * 1)) = some (.int .i64 v25) ∧ ∃ a26, pa1p = some a26 ∧ 0 ≤ (wrap .i64 (i20 + 3)) ∧ (wrap .i64 (i20 + 3)) < (pa1l : Int) ∧ ∃ v27, cell H21 (.add a26 (toNat (wrap .i64 (i20 + 3)) * 1)) = some (.int .i64 v27) ∧ ∃ a28, pa1p = some a28 ∧ 0 ≤ (wrap .i64 (i20 + 1)) ∧ (wrap .i64 (i20 + 1)) < (pa1l : Int) ∧ ∃ v29, cell H21 (.add a28 (toNat (wrap .i64 (i20 + 1)) * 1)) = some (.int .i64 v29) ∧ ∃ a30, pa1p = some a30 ∧ 0 ≤ i20 ∧ i20 < (pa1l : Int) ∧ ∃ v31, cell H21 (.add a30 (toNat i20 * 1)) = some (.int .i64 v31) ∧ ∃ a32, pa1p = some a32 ∧ 0 ≤ (wrap .i64 (i20 + 2)) ∧ (wrap .i64 (i20 + 2)) < (pa1l : Int) ∧ ∃ v33, cell H21 (.add a32 (toNat (wrap .i64 (i20 + 2)) * 1)) = some (.int .i64 v33) ∧ ∃ a34, pa1p = some a34 ∧ 0 ≤ i20 ∧ i20 < (pa1l : Int) ∧ ∃ v35, cell H21 (.add a34 (toNat i20 * 1)) = some (.int .i64 v35) ∧ (wrap .i64 (v33 - v35)) ≠ 0 ∧ ∃ a36, (some ⟨b2, 0, none⟩) = some a36 ∧ 0 ≤ v5 ∧ v5 < (((toNat 256) : Nat) : Int) ∧ stAt H21 (.add a36 (toNat v5 * 1)) [.int .i64 (wrap .i64 (v25 + (wrap .i64 (Int.tdiv (wrap .i64 ((wrap .i64 (v27 - v29)) * (wrap .i64 (v5 - v31)))) (wrap .i64 (v33 - v35))))))] fun H37 => X4 [.int .i64 (wrap .i64 (v5 + 1))] H37)) → X19 [.int .i64 i20] H21) → X19 [.int .i64 0] H6)))
 (R (.slice (some ⟨b2, 0, none⟩) (toNat 256) (toNat 256)) H6)) → X4 [.int .i64 v5] H6) → X4 [.int .i64 0] H3
def Tryz.p93 : Plan := (tl (tl (tl (two (tl (one (loop [(12, 3)] [0, 3, 4, 11] (tl (two (tl leaf) (two (one (tl (two (one (tl (two (tl leaf) g0))) (tl (two (one (loop [(6, 3)] [0, 3, 4, 5, 11, 12] (two (tl (tl leaf)) (one leaf)))) leaf))))) leaf)))))) (tl leaf)))))
theorem Tryz.s93 {pa1p : OA} {pa1l pa1c : Nat} {H R} (h : Tryz.S93 pa1p pa1l pa1c H R) : Tryz.C 93 #[.slice pa1p pa1l pa1c] H R := vcs Tryz.tab_ok Tryz.mixed Tryz.func93 Tryz.cal93 Tryz.p93 h (by kernel_rfl)
def Tryz.S94 (v1 c2 : Int) (H : Heap) (R : Kv) : Prop :=
 0 ≤ (wrap .i64 ((24 : Int) - (wrap .i64 ((8 : Int) * c2)))) ∧ (256 : Int) ≠ 0 ∧ R (.int .i64 (Int.tmod (shrI .i64 v1 (wrap .i64 ((24 : Int) - (wrap .i64 ((8 : Int) * c2))))) 256)) H
def Tryz.p94 : Plan := (tl (tl leaf))
theorem Tryz.s94 {v1 c2 : Int} {H R} (h : Tryz.S94 v1 c2 H R) : Tryz.C 94 #[.int .i64 v1, .int .i64 c2] H R := vcs Tryz.tab_ok Tryz.mixed Tryz.func94 Tryz.cal94 Tryz.p94 h (by kernel_rfl)
def Tryz.S95 (p1 : AV) (H : Heap) (R : Kv) : Prop :=
 alc H (.cells p1 100) fun b2 H3 => ∃ X4, cell H3 (.add ⟨b2, 0, none⟩ 0) = some (.int .i64 X4) ∧ br (decide (X4 ≥ (-1048576 : Int))) (∃ X5, cell H3 (.add ⟨b2, 0, none⟩ 0) = some (.int .i64 X5) ∧ br (decide (X5 ≤ 1048576)) (∃ Y6, cell H3 (.add ⟨b2, 0, none⟩ 1) = some (.int .i64 Y6) ∧ br (decide (Y6 ≥ (-1048576 : Int))) (∃ Y7, cell H3 (.add ⟨b2, 0, none⟩ 1) = some (.int .i64 Y7) ∧ R (.bool (decide (Y7 ≤ 1048576))) H3) (R (.bool false) H3)) (R (.bool false) H3)) (R (.bool false) H3)
def Tryz.p95 : Plan := (tl (tl leaf))
theorem Tryz.s95 {p1 : AV} {H R} (h : Tryz.S95 p1 H R) : Tryz.C 95 #[.agg p1] H R := vcs Tryz.tab_ok Tryz.mixed Tryz.func95 Tryz.cal95 Tryz.p95 h (by kernel_rfl)
def Tryz.S96 (a1 b2 : AV) (x3 y4 : Int) (H : Heap) (R : Kv) : Prop :=
 alc H (.cells a1 100) fun b5 H6 => alc H6 (.cells b2 100) fun b7 H8 => ∃ Y9, cell H8 (.add ⟨b5, 0, none⟩ 1) = some (.int .i64 Y9) ∧ ∃ Y10, cell H8 (.add ⟨b7, 0, none⟩ 1) = some (.int .i64 Y10) ∧ br ((decide (((wrap .i64 ((2 : Int) * Y9)) : Int) > (wrap .i64 ((wrap .i64 ((2 : Int) * y4)) + 1)))) == (decide (((wrap .i64 ((2 : Int) * Y10)) : Int) > (wrap .i64 ((wrap .i64 ((2 : Int) * y4)) + 1)))))
 (R (.bool false) H8)
 (∃ Y11, cell H8 (.add ⟨b7, 0, none⟩ 1) = some (.int .i64 Y11) ∧ ∃ Y12, cell H8 (.add ⟨b5, 0, none⟩ 1) = some (.int .i64 Y12) ∧ ∃ X13, cell H8 (.add ⟨b7, 0, none⟩ 0) = some (.int .i64 X13) ∧ ∃ X14, cell H8 (.add ⟨b5, 0, none⟩ 0) = some (.int .i64 X14) ∧ ∃ Y15, cell H8 (.add ⟨b5, 0, none⟩ 1) = some (.int .i64 Y15) ∧ ∃ X16, cell H8 (.add ⟨b5, 0, none⟩ 0) = some (.int .i64 X16) ∧ br (decide (((wrap .i64 ((wrap .i64 ((2 : Int) * Y11)) - (wrap .i64 ((2 : Int) * Y12)))) : Int) < 0))
 (R (.bool (decide (((wrap .i64 ((wrap .i64 ((wrap .i64 ((wrap .i64 ((2 : Int) * X13)) - (wrap .i64 ((2 : Int) * X14)))) * (wrap .i64 ((wrap .i64 ((wrap .i64 ((2 : Int) * y4)) + 1)) - (wrap .i64 ((2 : Int) * Y15)))))) + (wrap .i64 ((wrap .i64 ((wrap .i64 ((2 : Int) * X16)) - (wrap .i64 ((wrap .i64 ((2 : Int) * x3)) + 1)))) * (wrap .i64 ((wrap .i64 ((2 : Int) * Y11)) - (wrap .i64 ((2 : Int) * Y12)))))))) : Int) < 0))) H8)
 (R (.bool (decide (((wrap .i64 ((wrap .i64 ((wrap .i64 ((wrap .i64 ((2 : Int) * X13)) - (wrap .i64 ((2 : Int) * X14)))) * (wrap .i64 ((wrap .i64 ((wrap .i64 ((2 : Int) * y4)) + 1)) - (wrap .i64 ((2 : Int) * Y15)))))) + (wrap .i64 ((wrap .i64 ((wrap .i64 ((2 : Int) * X16)) - (wrap .i64 ((wrap .i64 ((2 : Int) * x3)) + 1)))) * (wrap .i64 ((wrap .i64 ((2 : Int) * Y11)) - (wrap .i64 ((2 : Int) * Y12)))))))) : Int) > 0))) H8))
def Tryz.p96 : Plan := (tl (tl (tl (tg (tl (tl (tg (tl leaf))))))))
theorem Tryz.s96 {a1 b2 : AV} {x3 y4 : Int} {H R} (h : Tryz.S96 a1 b2 x3 y4 H R) : Tryz.C 96 #[.agg a1, .agg b2, .int .i64 x3, .int .i64 y4] H R := vcs Tryz.tab_ok Tryz.mixed Tryz.func96 Tryz.cal96 Tryz.p96 h (by kernel_rfl)
def Tryz.S97 (n1 m2 : Int) (H : Heap) (R : Kv) : Prop :=
 m2 ≠ 0 ∧ ∀ J3 : Kl, (∀ (r4 : Int) H5, (m2 ≠ 0 ∧ R (.int .i64 (wrap .i64 (Int.tdiv (wrap .i64 (n1 - r4)) m2))) H5) → J3 [.int .i64 r4] H5) →
 br (decide (((Int.tmod n1 m2) : Int) < 0))
 (J3 [.int .i64 (wrap .i64 ((Int.tmod n1 m2) + m2))] H)
 (J3 [.int .i64 (Int.tmod n1 m2)] H)
def Tryz.p97 : Plan := (tl (tl (two (join [(5, 3)] [0, 1] (tl (tl leaf))) (tl leaf))))
theorem Tryz.s97 {n1 m2 : Int} {H R} (h : Tryz.S97 n1 m2 H R) : Tryz.C 97 #[.int .i64 n1, .int .i64 m2] H R := vcs Tryz.tab_ok Tryz.mixed Tryz.func97 Tryz.cal97 Tryz.p97 h (by kernel_rfl)
def Tryz.p99 : Plan := leaf
def Tryz.S100 (p1 : AV) (H : Heap) (R : Kv) : Prop :=
 alc H (.cells p1 99) fun b2 H3 => ∃ X4, cell H3 (.add ⟨b2, 0, none⟩ 0) = some (.int .i64 X4) ∧ br (decide (X4 ≥ (-1048576 : Int))) (∃ X5, cell H3 (.add ⟨b2, 0, none⟩ 0) = some (.int .i64 X5) ∧ br (decide (X5 ≤ 1048576)) (∃ Y6, cell H3 (.add ⟨b2, 0, none⟩ 1) = some (.int .i64 Y6) ∧ br (decide (Y6 ≥ (-1048576 : Int))) (∃ Y7, cell H3 (.add ⟨b2, 0, none⟩ 1) = some (.int .i64 Y7) ∧ R (.bool (decide (Y7 ≤ 1048576))) H3) (R (.bool false) H3)) (R (.bool false) H3)) (R (.bool false) H3)
def Tryz.p100 : Plan := (tl (tl leaf))
theorem Tryz.s100 {p1 : AV} {H R} (h : Tryz.S100 p1 H R) : Tryz.C 100 #[.agg p1] H R := vcs Tryz.tab_ok Tryz.mixed Tryz.func100 Tryz.cal100 Tryz.p100 h (by kernel_rfl)
def Tryz.S101 (p1 : AV) (H : Heap) (R : Kv) : Prop :=
 alc H (.cells p1 99) fun b2 H3 => ∃ X4, cell H3 (.add ⟨b2, 0, none⟩ 0) = some (.int .i64 X4) ∧ ∃ Y5, cell H3 (.add ⟨b2, 0, none⟩ 1) = some (.int .i64 Y5) ∧ (FloatKind.f64 = FloatKind.f64 ∧ R (.complex .f64 (floatOfInt .f64 X4) (floatOfInt .f64 Y5)) H3)
def Tryz.p101 : Plan := (tl (tl leaf))
theorem Tryz.s101 {p1 : AV} {H R} (h : Tryz.S101 p1 H R) : Tryz.C 101 #[.agg p1] H R := vcs Tryz.tab_ok Tryz.mixed Tryz.func101 Tryz.cal101 Tryz.p101 h (by kernel_rfl)
def Tryz.S102 (a1r a1i b2r b2i : Nat) (H : Heap) (R : Kv) : Prop :=
 (FloatKind.f64 = FloatKind.f64 ∧ (FloatKind.f64 = FloatKind.f64 ∧ FloatKind.f64 = FloatKind.f64 ∧ ∃ re3 im4 : Nat, cMulBits a1r (Op.negFloat .f64 a1i) b2r b2i = some (re3, im4) ∧ R (.float .f64 im4) H))
def Tryz.p102 : Plan := (tl (tl leaf))
theorem Tryz.s102 {a1r a1i b2r b2i : Nat} {H R} (h : Tryz.S102 a1r a1i b2r b2i H R) : Tryz.C 102 #[.complex .f64 a1r a1i, .complex .f64 b2r b2i] H R := vcs Tryz.tab_ok Tryz.mixed Tryz.func102 Tryz.cal102 Tryz.p102 h (by kernel_rfl)
def Tryz.S103 (n1 m2 : Int) (H : Heap) (R : Kv) : Prop :=
 m2 ≠ 0 ∧ ∀ J3 : Kl, (∀ (q4 : Int) H5, (R (.int .i64 q4) H5) → J3 [.int .i64 q4] H5) →
 m2 ≠ 0 ∧ br (((Int.tmod n1 m2) : Int) != 0) (br (!((decide (n1 < 0)) == (decide (m2 < 0))))
 (J3 [.int .i64 (wrap .i64 ((wrap .i64 (Int.tdiv n1 m2)) - 1))] H)
 (J3 [.int .i64 (wrap .i64 (Int.tdiv n1 m2))] H)) (J3 [.int .i64 (wrap .i64 (Int.tdiv n1 m2))] H)
def Tryz.p103 : Plan := (tl (tl (two (join [(5, 3)] [] (tl (tl leaf))) (tl leaf))))
theorem Tryz.s103 {n1 m2 : Int} {H R} (h : Tryz.S103 n1 m2 H R) : Tryz.C 103 #[.int .i64 n1, .int .i64 m2] H R := vcs Tryz.tab_ok Tryz.mixed Tryz.func103 Tryz.cal103 Tryz.p103 h (by kernel_rfl)
end Go.Proofs
namespace Go.Proofs
open Go.Sh
mutual
def okL : Lay → Prop
 | .mk f ks => f.p.length ≤ 1000000000 ∧ f.mask.length ≤ 1000000000 ∧ f.params.length ≤ 1000000000 ∧ ks.length ≤ 1000000000 ∧ okKs ks
def okKs : List Lay → Prop
 | [] => True
 | t :: ts => okL t ∧ okKs ts
end
mutual
def cntL : Lay → Nat
 | .mk _ ks => 1 + cntKs ks
def cntKs : List Lay → Nat
 | [] => 0
 | t :: ts => cntL t + cntKs ts
end
mutual
def depL : Lay → Nat
 | .mk _ ks => 1 + depKs ks
def depKs : List Lay → Nat
 | [] => 0
 | t :: ts => max (depL t) (depKs ts)
end
theorem okKs_iff : ∀ {ts : List Lay}, okKs ts ↔ ∀ t ∈ ts, okL t
 | [] => ⟨fun _ _ h => (by cases h), fun _ => trivial⟩
 | t :: ts => by
  rw [okKs, okKs_iff]
  simp only [List.forall_mem_cons]
theorem okL.kids {t : Lay} (h : okL t) : okKs t.kids ∧ t.kids.length ≤ 1000000000 := by
 cases t; rw [okL] at h; exact ⟨h.2.2.2.2, h.2.2.2.1⟩
theorem cntL_pos (t : Lay) : 1 ≤ cntL t := by cases t; rw [cntL]; omega
theorem len_cnt : ∀ ts : List Lay, ts.length ≤ cntKs ts
 | [] => Nat.le_refl _
 | t :: ts => by have := len_cnt ts; have := cntL_pos t; rw [cntKs, List.length_cons]; omega
theorem dep_cntKs : ∀ {ts : List Lay}, (∀ t ∈ ts, depL t ≤ cntL t) → depKs ts ≤ cntKs ts
 | [], _ => Nat.le_refl _
 | t :: ts, h => by
  have h1 := h t List.mem_cons_self
  have h2 := dep_cntKs fun u hu => h u (List.mem_cons_of_mem _ hu)
  rw [depKs, cntKs]; omega
theorem dep_cntL : ∀ t, depL t ≤ cntL t := Lay.ind fun f ks ih => by
 have := dep_cntKs ih
 rw [depL, cntL]; omega
theorem dep_cnt (ts : List Lay) : depKs ts ≤ cntKs ts := dep_cntKs fun t _ => dep_cntL t
theorem cnt_mem : ∀ {ts : List Lay} {t : Lay}, t ∈ ts → cntL t ≤ cntKs ts
 | u :: ts, t, h => by
  rw [cntKs]
  rcases List.mem_cons.1 h with rfl | h
  ·omega
  ·have := cnt_mem h; omega
theorem cntKs_app (a b : List Lay) : cntKs (a ++ b) = cntKs a + cntKs b := by
 induction a with
 | nil => simp [cntKs]
 | cons t a ih => rw [List.cons_append, cntKs, ih, cntKs]; omega
theorem depKs_app (a b : List Lay) : depKs (a ++ b) = max (depKs a) (depKs b) := by
 induction a with
 | nil => simp [depKs]
 | cons t a ih => rw [List.cons_append, depKs, ih, depKs]; omega
theorem setL_all {cs l : List Value} (h : l.length = cs.length) : setL cs 0 l = l := by simp [setL, h]
variable {H0 H : Heap} {R : Value → Heap → Prop}
theorem c73 {p : Option Addr} {l c : Nat} {xs : List Int} (h : IS H p l (ints xs)) (hl : xs.length ≤ 1000000000) (hR : ∀ (q : Sl3) H', St H H' [.sl q.p q.l q.c 3 1 (ints xs)] → R q.v H') :
    CallsH Tryz.prog 73 #[.slice p l c] H R := by
  have hlen := h.length
  refine Tryz.s73 (br_none (fun hp => ?_) fun a hp => ?_)
  · subst hp
    have : xs = [] := List.eq_nil_iff_forall_not_mem.2 fun v hv => by
      obtain ⟨i, hi⟩ := List.getElem?_of_mem hv
      obtain ⟨a, h1, _⟩ := h.get i _ (ints_get hi)
      cases h1
    subst this
    exact hR .nil H ((St.nil H).nilSl _ _)
  · refine (St.nil H).alcE fun b2 H3 he hs => ?_
    have hs := hs.toSl 0 (l := 0) (k := 1) (fs := []) rfl rfl rfl (by simp)
    refine hs.appI 0 rfl (h.ext he) (ints_one xs) rfl (by omega) (by omega) fun p' c' H' hs' => ?_
    rw [Nat.zero_add] at hs' ⊢
    exact hR ⟨p', l, c'⟩ H' hs'
theorem c75 {p : Option Addr} {l c : Nat} {xs : List Int} (h : IS H p l (kints .u8 xs)) (hl : xs.length ≤ 1000000000) (hR : ∀ (q : Sl3) H', St H H' [.sl q.p q.l q.c 5 1 (kints .u8 xs)] → R q.v H') :
    CallsH Tryz.prog 75 #[.slice p l c] H R := by
  have hlen := h.length
  refine Tryz.s75 (br_none (fun hp => ?_) fun a hp => ?_)
  · subst hp
    have : xs = [] := List.eq_nil_iff_forall_not_mem.2 fun v hv => by
      obtain ⟨i, hi⟩ := List.getElem?_of_mem hv
      obtain ⟨a, h1, _⟩ := h.get i _ (kints_get hi)
      cases h1
    subst this
    exact hR .nil H ((St.nil H).nilSl _ _)
  · refine (St.nil H).alcE fun b2 H3 he hs => ?_
    have hs := hs.toSl 0 (l := 0) (k := 1) (fs := []) rfl rfl rfl (by simp)
    refine hs.appI 0 rfl (h.ext he) (kints_one .u8 xs) rfl (by omega) (by omega) fun p' c' H' hs' => ?_
    rw [Nat.zero_add] at hs' ⊢
    exact hR ⟨p', l, c'⟩ H' hs'
def CopyOk (t : T) : Prop := ∀ {H : Heap} {R : Value → Heap → Prop}, rdT H t → okL (layT t) → (∀ t' H', layT t' = layT t → St H H' (resT t') → R (.agg (cellsT t').toArray) H') → CallsH Tryz.prog 52 #[.agg (cellsT t).toArray] H R
theorem all_of {ks : List T} (ih : ∀ t ∈ ks, CopyOk t) {K : Sl3} (hg : grp H K ks) (ho : okKs (layKs ks)) (hl : ks.length ≤ 1000000000) (hR : ∀ (K' : Sl3) ks' H', layKs ks' = layKs ks → St H H' (resG K' ks') → R K'.v H') :
    CallsH Tryz.prog 37 #[K.v] H R := by
  show CallsH Tryz.prog 37 #[.slice K.p K.l K.c] H R
  refine Tryz.s37 ?_
  unfold Tryz.S37
  intro X hX
  have hKl := hg.1.1
  have go : ∀ k, k ≤ ks.length → ∀ p c H1 (built : List T), layKs built = (layKs ks).take k → St H H1 (.sl p k c 61 19 (cellsKs built) :: resKs built) → X [.slice p k c, .int .i64 k] H1 := by
    refine upto fun k hk ihk p c H1 built hb hs => hX _ _ _ _ _ (br_dec (fun hlt => ?_) fun hge => ?_)
    · have hk' : k < ks.length := by omega
      have ht := List.getElem?_eq_getElem hk'
      obtain ⟨a, h1, h2, h3⟩ := (hg.ext hs.ext).get ht
      refine ⟨a, h1, by omega, hlt, (cellsT ks[k]).toArray, by simp [cellsT_len], h2, hs.alcE fun b8 H9 he9 hs9 => ⟨by simp [cellsT_len], hs9.putAll 0 rfl (by simp [cellsT_len]) (by simpa using cellsT_one _) fun H10 hs10 => ?_⟩⟩
      refine ⟨_, ?_, rowIn_whole (hs10.block 0 rfl), ?_⟩
      · simp [cellsT_len]
      refine ih ks[k] (List.getElem_mem hk') (rdT.ext (hs10.ext) _ (rdKs_iff.1 hg.2 _ (List.getElem_mem hk'))) (okKs_iff.1 ho _ (by rw [layKs_map]; exact List.mem_map_of_mem (List.getElem_mem hk'))) fun t' H13 hlay hs13 => ?_
      refine ⟨_, rfl, by simp [cellsT_len], by decide, ?_⟩
      rw [setL_all (by simp [cellsT_len])]
      refine (hs10.callR hs13).alc fun b15 H16 hs16 => ?_
      refine hs16.appC 2 0 rfl rfl (by simp [cellsT_len]) (by simpa using cellsT_one _) (by decide) rfl (by omega) (by omega) fun p' c' H18 hs18 => ?_
      rw [wrap_id (by omega) (by omega)]
      refine ihk hk' p' c' H18 (built ++ [t']) ?_ ?_
      · rw [layKs_app, hb, layKs_map [t'], List.take_add_one]
        have : (layKs ks)[k]? = some (layT ks[k]) := by rw [layKs_map, List.getElem?_map, ht]; rfl
        rw [this, ← hlay]; rfl
      · rw [cellsKs_app, cellsKs_one, resKs_app, resKs_one]
        exact hs18.drop 2
    · have : k = ks.length := by omega
      subst this
      rw [List.take_of_length_le (by rw [layKs_len]; exact Nat.le_refl _)] at hb
      exact hR ⟨p, ks.length, c⟩ built H1 hb hs
  exact go 0 (by omega) none 0 H [] rfl ((St.nil H).nilSl _ _)
theorem c52 : ∀ t, CopyOk t := by
 refine T.ind fun f P M A K ks ih => ?_
 intro H R hr ho hR
 rw [rdT] at hr
 obtain ⟨hP, hM, hA, hK, hks⟩ := hr
 have ho' := ho
 rw [layT, okL] at ho'
 obtain ⟨o1, o2, o3, o4, o5⟩ := ho'
 refine Tryz.s52 ?_
 unfold Tryz.S52
 refine (St.nil H).alcE fun b2 H1 he1 hs1 => hs1.alcE fun b4 H2 he2 hs2 => ?_
 refine ⟨_, _, _, hs2.get 1 rfl rfl, _, _, _, hs2.get 1 rfl rfl, _, _, _, hs2.get 1 rfl rfl, ?_⟩
 refine c73 (hP.ext hs2.ext) o1 fun P' H3 hp3 => ⟨_, _, _, rfl, .inl hp3.ext, ?_⟩
 have hs3 := hs2.callR hp3
 refine c75 (hM.ext hs3.ext) o2 fun M' H4 hp4 => ⟨_, _, _, rfl, .inl hp4.ext, ?_⟩
 have hs4 := hs3.callR hp4
 refine c73 (hA.ext hs4.ext) o3 fun A' H5 hp5 => ⟨_, _, _, rfl, ?_⟩
 have hs5 := hs4.callR hp5
 refine hs5.put 1 rfl (j := 7) (Nat.le_of_ble_eq_true rfl) rfl fun H6 hs6 => hs6.put 1 rfl (j := 8) (Nat.le_of_ble_eq_true rfl) rfl fun H7 hs7 => hs7.put 1 rfl (j := 17) (Nat.le_of_ble_eq_true rfl) rfl fun H8 hs8 => ?_
 refine ⟨_, _, _, hs8.get 1 rfl (j := 18) rfl, ?_⟩
 refine all_of ih (K := K) (grp.ext ⟨hK, hks⟩ hs8.ext) o5 (by rw [layKs_len] at o4; exact o4) fun K' ks' H9 hlay hp9 => ⟨_, _, _, rfl, ?_⟩
 have hs9 := hs8.callR hp9
 refine hs9.put 1 rfl (j := 18) (Nat.le_of_ble_eq_true rfl) rfl fun H10 hs10 => ?_
 refine ⟨_, ?_, rowIn_whole (hs10.block 1 rfl), ?_, ?_⟩
 ·rfl
 ·rfl
 refine hs10.putAll 0 rfl rfl (cellsL_one f P' M' A' K') fun H11 hs11 => ⟨_, rfl, rowIn_whole (hs11.block 0 rfl), ?_⟩
 refine hR (.mk f P' M' A' K' ks') H11 (by rw [layT, layT, hlay]) ?_
 rw [resT_mk]
 exact hs11.drop 2
theorem c37 {K : Sl3} {ks : List T} (hg : grp H K ks) (ho : okKs (layKs ks)) (hl : ks.length ≤ 1000000000) (hR : ∀ (K' : Sl3) ks' H', layKs ks' = layKs ks → St H H' (resG K' ks') → R K'.v H') :
 CallsH Tryz.prog 37 #[K.v] H R := all_of (fun t _ => c52 t) hg ho hl hR
end Go.Proofs
namespace Go.Proofs
open Go.Sh
variable {H0 H : Heap} {R : Value → Heap → Prop}
theorem cellsT_0 (t : T) : (cellsT t).toArray[0]? = some (.int .i64 t.f.id) := by cases t; rfl
theorem cellsT_18 (t : T) : (cellsT t).toArray[18]? = some (.slice t.K.p t.K.l t.K.c) := by cases t; rfl
def CntOk (t : T) : Prop := ∀ {H : Heap} {R : Value → Heap → Prop}, rdT H t → cntKs (layKs t.kids) ≤ 1000000000000 → (∀ H', Ext H H' → R (.int .i64 (cntKs (layKs t.kids))) H') → CallsH Tryz.prog 30 #[t.K.v] H R
theorem take_succ {α : Type} {l : List α} {k : Nat} {x : α} (h : l[k]? = some x) : l.take (k + 1) = l.take k ++ [x] := by rw [List.take_add_one, h]; rfl
theorem layKs_get {ks : List T} {k : Nat} {t : T} (h : ks[k]? = some t) : (layKs ks)[k]? = some (layT t) := by rw [layKs_map, List.getElem?_map, h]; rfl
theorem cntL_T (t : T) : cntL (layT t) = 1 + cntKs (layKs t.kids) := by cases t; rfl
theorem depL_T (t : T) : depL (layT t) = 1 + depKs (layKs t.kids) := by cases t; rfl
theorem cnt_take (ts : List Lay) (k : Nat) : cntKs (ts.take k) ≤ cntKs ts := by
 have := cntKs_app (ts.take k) (ts.drop k)
 rw [List.take_append_drop] at this; omega
theorem cnt_of {ks : List T} (ih : ∀ t ∈ ks, CntOk t) {K : Sl3} (hg : grp H K ks) (ho : cntKs (layKs ks) ≤ 1000000000000) (hR : ∀ H', Ext H H' → R (.int .i64 (cntKs (layKs ks))) H') :
    CallsH Tryz.prog 30 #[K.v] H R := by
  show CallsH Tryz.prog 30 #[.slice K.p K.l K.c] H R
  refine Tryz.s30 ?_
  unfold Tryz.S30
  intro X hX
  have hKl := hg.1.1
  have hlc := len_cnt (layKs ks)
  rw [layKs_len] at hlc
  have go : ∀ k, k ≤ ks.length → ∀ (n : Int) H1, n + k = ks.length + cntKs ((layKs ks).take k) → Ext H H1 → X [.int .i64 n, .int .i64 k] H1 := by
    refine upto fun k hk ihk n H1 hn he => hX _ _ _ (br_dec (fun hlt => ?_) fun hge => ?_)
    · have hk' : k < ks.length := by omega
      have ht := List.getElem?_eq_getElem hk'
      have htm := List.getElem_mem hk'
      generalize ks[k] = t at ht htm
      obtain ⟨a, h1, h2, h3⟩ := (hg.ext he).get ht
      have hcm := cnt_mem (List.mem_of_getElem? (layKs_get ht))
      rw [cntL_T] at hcm
      refine ⟨a, h1, by omega, hlt, (cellsT t).toArray, by simp [cellsT_len], h2, (St.nil H1).alc fun b8 H9 hs9 => ⟨by simp [cellsT_len], hs9.putAll 0 rfl (by simp [cellsT_len]) (by simpa using cellsT_one _) fun H10 hs10 => ?_⟩⟩
      refine ⟨_, _, _, hs10.get 0 rfl (j := 18) (cellsT_18 t), ?_⟩
      refine ih t htm (rdT.ext (he.trans hs10.ext) _ (rdKs_iff.1 hg.2 _ htm)) (by omega) fun H13 he13 => ⟨_, rfl, ?_⟩
      have hts := cntKs_app ((layKs ks).take k) [layT t]
      rw [← take_succ (layKs_get ht), cntKs, cntKs, Nat.add_zero, cntL_T] at hts
      have hle := cnt_take (layKs ks) (k + 1)
      rw [wrap_id (n := n + _) (by omega) (by omega), wrap_id (n := (k : Int) + 1) (by omega) (by omega)]
      exact ihk hk' _ _ (by omega) (he.trans (hs10.ext.trans he13))
    · have : k = ks.length := by omega
      subst this
      rw [List.take_of_length_le (by rw [layKs_len]; exact Nat.le_refl _)] at hn
      have : n = cntKs (layKs ks) := by omega
      subst this
      exact hR H1 he
  have h0 := go 0 (by omega) ks.length H (by simp [cntKs]) (Ext.refl H)
  rw [← hKl] at h0
  exact h0
theorem cnt_all : ∀ t, CntOk t := T.ind fun f P M A K ks ih => fun {H R} hr ho hR => cnt_of ih (rdT.grp hr) ho hR
theorem c30 {K : Sl3} {ks : List T} (hg : grp H K ks) (ho : cntKs (layKs ks) ≤ 1000000000000) (hR : ∀ H', Ext H H' → R (.int .i64 (cntKs (layKs ks))) H') :
 CallsH Tryz.prog 30 #[K.v] H R := cnt_of (fun t _ => cnt_all t) hg ho hR
def DepOk (t : T) : Prop := ∀ {H : Heap} {R : Value → Heap → Prop}, rdT H t → cntKs (layKs t.kids) ≤ 1000000000000 → (∀ H', Ext H H' → R (.int .i64 (depKs (layKs t.kids))) H') → CallsH Tryz.prog 84 #[t.K.v] H R
theorem dep_of {ks : List T} (ih : ∀ t ∈ ks, DepOk t) {K : Sl3} (hg : grp H K ks) (ho : cntKs (layKs ks) ≤ 1000000000000) (hR : ∀ H', Ext H H' → R (.int .i64 (depKs (layKs ks))) H') :
    CallsH Tryz.prog 84 #[K.v] H R := by
  show CallsH Tryz.prog 84 #[.slice K.p K.l K.c] H R
  refine Tryz.s84 ?_
  unfold Tryz.S84
  intro X hX
  have hKl := hg.1.1
  have hlc := len_cnt (layKs ks)
  rw [layKs_len] at hlc
  have go : ∀ k, k ≤ ks.length → ∀ H1, Ext H H1 → X [.int .i64 (depKs ((layKs ks).take k)), .int .i64 k] H1 := by
    refine upto fun k hk ihk H1 he => hX _ _ _ (br_dec (fun hlt => ?_) fun hge => ?_)
    · have hk' : k < ks.length := by omega
      have ht := List.getElem?_eq_getElem hk'
      have htm := List.getElem_mem hk'
      generalize ks[k] = t at ht htm
      obtain ⟨a, h1, h2, h3⟩ := (hg.ext he).get ht
      have hcm := cnt_mem (List.mem_of_getElem? (layKs_get ht))
      rw [cntL_T] at hcm
      refine ⟨a, h1, by omega, hlt, (cellsT t).toArray, by simp [cellsT_len], h2, (St.nil H1).alc fun b8 H9 hs9 => ⟨by simp [cellsT_len], hs9.putAll 0 rfl (by simp [cellsT_len]) (by simpa using cellsT_one _) fun H10 hs10 => ?_⟩⟩
      refine ⟨_, _, _, hs10.get 0 rfl (j := 18) (cellsT_18 t), ?_⟩
      refine ih t htm (rdT.ext (he.trans hs10.ext) _ (rdKs_iff.1 hg.2 _ htm)) (by omega) fun H13 he13 => ⟨_, rfl, ?_⟩
      have hts := depKs_app ((layKs ks).take k) [layT t]
      rw [← take_succ (layKs_get ht), depKs, depKs, depL_T] at hts
      have hd := dep_cnt (layKs t.kids)
      rw [wrap_id (n := 1 + _) (by omega) (by omega), wrap_id (n := (k : Int) + 1) (by omega) (by omega)]
      have := ihk hk' _ (he.trans (hs10.ext.trans he13))
      rw [hts] at this
      have e : ((max (depKs ((layKs ks).take k)) (max (1 + depKs (layKs t.kids)) 0) : Nat) : Int) = max (depKs ((layKs ks).take k) : Int) (1 + (depKs (layKs t.kids) : Int)) := by omega
      rw [e] at this
      exact this
    · have : k = ks.length := by omega
      subst this
      rw [List.take_of_length_le (by rw [layKs_len]; exact Nat.le_refl _)]
      exact hR H1 he
  exact go 0 (by omega) H (Ext.refl H)
theorem dep_all : ∀ t, DepOk t := T.ind fun f P M A K ks ih => fun {H R} hr ho hR => dep_of ih (rdT.grp hr) ho hR
theorem c84 {K : Sl3} {ks : List T} (hg : grp H K ks) (ho : cntKs (layKs ks) ≤ 1000000000000) (hR : ∀ H', Ext H H' → R (.int .i64 (depKs (layKs ks))) H') :
 CallsH Tryz.prog 84 #[K.v] H R := dep_of (fun t _ => dep_all t) hg ho hR
def sizedB (w h : Int) : Bool := decide (1 ≤ w ∧ 1 ≤ h ∧ w ≤ 32768 ∧ h ≤ 32768 ∧ w * h ≤ 4194304)
def docA (w h next : Int) (K : Sl3) : Array Value := #[.int .i64 w, .int .i64 h, .int .i64 next, K.v]
theorem wrap_area {w h : Int} (h1 : 1 ≤ w) (h2 : 1 ≤ h) (h3 : w ≤ 32768) (h4 : h ≤ 32768) : IntKind.wrap .i64 (w * h) = w * h := by
 have := mul_bd (x := w) (y := h) (A := 32768) (B := 32768) (by omega) (by omega)
 exact wrap_id (by omega) (by omega)
theorem c7 {w h : Int} (hR1 : sizedB w h = true → ∀ H', Ext H H' → R (.tuple #[.agg (docA w h 1 .nil), .int .i64 0]) H') (hR2 : sizedB w h = false → ∀ H', Ext H H' → R (.tuple #[.agg (docA 0 0 0 .nil), .int .i64 31]) H') :
    CallsH Tryz.prog 7 #[.int .i64 w, .int .i64 h] H R := by
  refine Tryz.s7 ?_
  unfold Tryz.S7
  refine (St.nil H).alc fun b3 H4 hs4 => ?_
  intro J hJ
  have bad : sizedB w h = false → (#[Value.int .i64 0, Value.int .i64 0, Value.int .i64 0, Value.slice none 0 0].size = 4 ∧ stAt H4 ⟨b3, 0, none⟩ (Array.toList #[Value.int .i64 0, Value.int .i64 0, Value.int .i64 0, Value.slice none 0 0]) fun H_9 => ∃ res10 : Array Value, res10.size = 4 ∧ rowIn H_9 ⟨b3, 0, none⟩ res10 ∧ R (Value.tuple #[Value.agg res10, Value.int .i64 (31 : Int)]) H_9) := fun hb =>
    ⟨rfl, hs4.putAll 0 rfl rfl (by simp [Value.oneCell']) fun H5 hs5 => ⟨_, rfl, rowIn_whole (hs5.block 0 rfl), hR2 hb H5 hs5.ext⟩⟩
  refine br_dec (fun c1 => bad ?_) fun c1 => br_dec (fun c2 => bad ?_) fun c2 => br_dec (fun c3 => bad ?_) fun c3 => br_dec (fun c4 => bad ?_) fun c4 => ?_
  · exact decide_eq_false (by omega)
  · exact decide_eq_false (by omega)
  · exact decide_eq_false (by omega)
  · exact decide_eq_false (by omega)
  rw [wrap_area (by omega) (by omega) (by omega) (by omega)]
  refine br_dec (fun c5 => bad ?_) fun c5 => hJ _ ?_
  · exact decide_eq_false (by omega)
  refine ⟨rfl, hs4.putAll 0 rfl rfl (by simp [Value.oneCell']) fun H5 hs5 => ⟨_, rfl, rowIn_whole (hs5.block 0 rfl), hR1 ?_ H5 hs5.ext⟩⟩
  exact decide_eq_true ⟨by omega, by omega, by omega, by omega, by omega⟩
structure Fr where
 hdr : Sl3
 pre : List T
 f : LayF
 P : Sl3
 M : Sl3
 A : Sl3
 post : List T
def Fr.ad (fr : Fr) : Option Addr := fr.hdr.p.map fun a => a.add (fr.pre.length * 19)
abbrev Z := List Fr × Sl3 × List T
mutual
def fzT (up : List Fr) (K : Sl3) (pre post : List T) (id : Int) : T → Option Z
 | .mk f P M A K' ks => if f.id = id then some (⟨K, pre, f, P, M, A, post⟩ :: up, K', ks) else fzK (⟨K, pre, f, P, M, A, post⟩ :: up) K' [] id ks
def fzK (up : List Fr) (K : Sl3) (pre : List T) (id : Int) : List T → Option Z
 | [] => none
 | t :: ts => match fzT up K pre ts id t with
  | some z => some z
  | none => fzK up K (pre ++ [t]) id ts
end
def resZ : Option Z → Option Addr × Option Addr × Int
 | some (fr1 :: fr2 :: _, _, _) => (fr1.ad, fr2.ad, fr1.pre.length)
 | _ => (none, none, 0)
def FindOk (id : Int) (t : T) : Prop := ∀ {H : Heap} {R : Value → Heap → Prop} {fr : Fr} {up : List Fr} {a : Addr}, fr.ad = some a → rowIn H a (cellsT t).toArray → rdT H t → cntKs (layKs t.kids) ≤ 1000000000000 →
 (∀ H', Ext H H' → (∀ z, fzK (fr :: up) t.K [] id t.kids = some z → (resZ (some z)).1 ≠ none) →
  R (.tuple #[.pointer (resZ (fzK (fr :: up) t.K [] id t.kids)).1, .pointer (resZ (fzK (fr :: up) t.K [] id t.kids)).2.1, .int .i64 (resZ (fzK (fr :: up) t.K [] id t.kids)).2.2]) H') → CallsH Tryz.prog 51 #[.pointer (some a), .int .i64 id] H R
theorem c51 {id : Int} : ∀ t, FindOk id t := by
 refine T.ind fun f P M A K ks ih => ?_
 intro H R fr up a hfa hrow hr ho hR
 have hg := rdT.grp hr
 have hKl := hg.1.1
 have hlc := len_cnt (layKs ks)
 rw [layKs_len] at hlc
 simp only [T.K, T.kids] at hg hKl ho hR
 refine Tryz.s51 ?_
 unfold Tryz.S51
 have hcell : ∀ {H1 : Heap}, Ext H H1 → Sh.cell H1 (a.add 18) = some (.slice K.p K.l K.c) := fun he => he.cell (hrow 18 _ rfl)
 refine ⟨a, rfl, _, _, _, hcell (Ext.refl H), ?_⟩
 intro X hX
 have go : ∀ k, k ≤ ks.length → ∀ H1, Ext H H1 → fzK (fr :: up) K [] id ks = fzK (fr :: up) K (ks.take k) id (ks.drop k) → X [.int .i64 k] H1 := by
  refine upto fun k hk ihk H1 he hz => hX _ _ (br_dec (fun hlt => ?_) fun hge => ?_)
  ·have hk' : k < ks.length := by omega
   have ht := List.getElem?_eq_getElem hk'
   have htm := List.getElem_mem hk'
   rw [List.drop_eq_getElem_cons hk'] at hz
   generalize ks[k] = t at ht htm hz
   obtain ⟨b, h1, h2, h3⟩ := (hg.ext he).get ht
   have hcm := cnt_mem (List.mem_of_getElem? (layKs_get ht))
   rw [cntL_T] at hcm
   have hlen : (ks.take k).length = k := by rw [List.length_take]; omega
   refine ⟨a, rfl, _, _, _, hcell he, b, h1, by omega, hlt, _, rfl, t.f.id, h2 0 _ (cellsT_0 t), br_eq (fun hid => ?_) fun hid => ?_⟩
   ·have e : fzK (fr :: up) K [] id ks = some (⟨K, ks.take k, t.f, t.P', t.M', t.A', ks.drop (k + 1)⟩ :: fr :: up, t.K, t.kids) := by
     rw [hz, fzK]
     cases t with | mk f2 P2 M2 A2 K2 ks2 =>
     rw [fzT, if_pos (show f2.id = id from hid)]
     rfl
    have := hR H1 he fun z hz => by rw [e] at hz; cases hz; simp [resZ, Fr.ad, h1]
    rw [e] at this
    simp only [resZ, Fr.ad, h1, hfa, Option.map_some, hlen] at this
    have hfa' := hfa
    unfold Fr.ad at hfa'
    rw [hfa'] at this
    exact this
   ·have e : ∀ (o : Option Z), fzK (⟨K, ks.take k, t.f, t.P', t.M', t.A', ks.drop (k + 1)⟩ :: fr :: up) t.K [] id t.kids = o → fzK (fr :: up) K [] id ks = (match o with | some z => some z | none => fzK (fr :: up) K (ks.take (k + 1)) id (ks.drop (k + 1))) := fun o ho => by
     rw [hz, fzK, take_succ ht, ← ho]
     cases t with | mk f2 P2 M2 A2 K2 ks2 =>
     rw [fzT, if_neg (show ¬ f2.id = id from hid)]
     rfl
    refine ih t htm (fr := ⟨K, ks.take k, t.f, t.P', t.M', t.A', ks.drop (k + 1)⟩) (up := fr :: up) (by unfold Fr.ad; rw [h1, hlen]; rfl) h2 h3 (by omega) fun H2 he2 hne => ?_
    refine ⟨_, _, _, rfl, ?_⟩
    cases hq : fzK (⟨K, ks.take k, t.f, t.P', t.M', t.A', ks.drop (k + 1)⟩ :: fr :: up) t.K [] id t.kids with
    | none =>
     refine br_f rfl ?_
     rw [wrap_id (by omega) (by omega)]
     exact ihk hk' H2 (he.trans he2) (e _ hq)
    | some z =>
     have hs : fzK (fr :: up) K [] id ks = some z := e _ hq
     have hn := hne z hq
     have := hR H2 (he.trans he2) fun z' hz' => by rw [hs] at hz'; cases hz'; exact hn
     rw [hs] at this
     refine br_t ?_ this
     cases h4 : (resZ (some z)).1 with
     | none => exact absurd h4 hn
     | some _ => rfl
  ·have : k = ks.length := by omega
   subst this
   rw [List.drop_of_length_le (Nat.le_refl _), fzK] at hz
   have := hR H1 he fun z hz' => by rw [hz] at hz'; cases hz'
   rw [hz] at this
   exact this
 exact go 0 (by omega) H (Ext.refl H) rfl
end Go.Proofs
namespace Go.Sh
variable {H0 H H' : Heap} {σ τ : List Rs}
theorem St.slRow (hs : St H0 H σ) (i : Nat) {b l c k j l' : Nat} {el : TypeId} {fs fs' vs : List Value} {f : Heap → Prop} (hi : σ[i]? = some (.sl (some ⟨b, 0, none⟩) l c el k fs)) (hj : j + vs.length ≤ c * k) (ho : ∀ v ∈ vs, v.oneCell' = true)
    (hl' : l' ≤ c) (hlen : fs'.length = l' * k) (hone : ∀ v ∈ fs', v.oneCell' = true) (hget : ∀ (x : Nat) v, fs'[x]? = some v → (if j ≤ x ∧ x < j + vs.length then vs[x - j]? else fs[x]?) = some v)
    (hK : ∀ H', St H0 H' (σ.set i (.sl (some ⟨b, 0, none⟩) l' c el k fs')) → f H') : stAt H ⟨b, j, none⟩ vs f := by
  have hfs := hs.fs i hi
  rcases hfs.at_ with ⟨h1, _⟩ | ⟨blk, cs, h1, h2, h3, h4, h5⟩
  · cases h1
  · cases h1
    refine stAt_some h3 (by omega) ho fun c' hc' hg => hK _ ?_
    refine hs.slSet hi ⟨hlen, hl', hone, .inr ⟨b, c', rfl, Nat.zero_le _, get_set_self h3, by rw [hc', h4], fun x v hv => ?_⟩⟩ (fun b' o ho' hne => get_set_ne (fun he => hne (by rw [he])) ho') (.inl rfl)
    rw [hg]
    have := hget x v hv
    split at this
    · rename_i hc; rw [if_pos hc]; exact this
    · rename_i hc; rw [if_neg hc]; exact h5 x v this
theorem RS.rowPart {H : Heap} {b l k : Nat} {el : TypeId} {fs : List Value} (h : RS H (some ⟨b, 0, none⟩) l el k fs) (j n : Nat) (hj : j + n ≤ fs.length) : Go.Sh.rowOf H (some ⟨b, j, none⟩) n ((fs.drop j).take n).toArray := by
 refine ⟨by simp; omega, fun x v hv => ?_⟩
 rw [add_none]
 rw [List.getElem?_toArray] at hv
 have hx := (List.getElem?_eq_some_iff.1 hv).1
 rw [List.length_take, List.length_drop] at hx
 rw [List.getElem?_take_of_lt (by omega), List.getElem?_drop] at hv
 obtain ⟨blk, h1, h2⟩ := h.cell hv
 cases h1; exact h2
theorem St.appZnew (hs : St H0 H σ) {p : Option Addr} {l c k bytes : Nat} {n : Int} {el : TypeId} {zero : Array Value} {fs : List Value} (hrow : rowOf H p (l * k) fs.toArray) (hfl : fs.length = l * k) (hfo : ∀ v ∈ fs, v.oneCell' = true) (hk : 0 < k) (hz : zero.size = k) (hzo : ∀ v ∈ zero.toList, v.oneCell' = true)
    (hn : 0 ≤ n) (hb : (l + n.toNat) * bytes ≤ 70368744177664) (hm : l + n.toNat ≤ 1000000000000) (hc : c < l + n.toNat) {K : Option Addr → Nat → Nat → Heap → Prop}
    (hK : ∀ b c' H', St H0 H' (.sl (some ⟨b, 0, none⟩) (l + n.toNat) c' el k (fs ++ reps n.toNat zero.toList) :: σ) → K (some ⟨b, 0, none⟩) (l + n.toNat) c' H') : appZ k bytes zero H p l c n el K := by
  refine ⟨hn, by omega, hb, by omega, fun h => by omega, fun _ => ⟨fs.toArray, hrow, fun c' hc' => ?_⟩⟩
  have hlen : (fs ++ reps n.toNat zero.toList).length = (l + n.toNat) * k := by rw [List.length_append, hfl, reps_length, Array.length_toList, hz, Nat.add_mul]
  have hro : ∀ m, ∀ v ∈ reps m zero.toList, v.oneCell' = true := fun m => by
    induction m with
    | zero => intro v hv; cases hv
    | succ m ih => intro v hv; rw [reps, List.mem_append] at hv; exact hv.elim (hzo v) (ih v)
  refine hK H.size c' _ (hs.newSl (Ext.push _ _) ⟨hlen, hc', fun v hv => (List.mem_append.1 hv).elim (hfo v) (hro _ v), .inr ⟨H.size, _, rfl, Nat.le_refl _, get_push_self _ _, ?_, fun i v hv => ?_⟩⟩)
  · rw [zeroCells_eq _ _ (by omega)]
    simp only [Array.size_append, List.size_toArray, reps_length, Array.length_toList, hz, hfl]
    rw [← Nat.add_mul, ← Nat.add_mul]
    congr 1; omega
  · have hi := (List.getElem?_eq_some_iff.1 hv).1
    rw [Array.getElem?_append_left (by simp [reps_length, hfl, hz]; rw [hlen, Nat.add_mul] at hi; omega)]
    have : (fs.toArray ++ (reps n.toNat zero.toList).toArray).toList = fs ++ reps n.toNat zero.toList := by simp
    rw [← Array.getElem?_toList, this]
    exact hv
end Go.Sh
namespace Go.Proofs
open Go.Sh
variable {H0 H : Heap} {σ : List Rs} {R : Value → Heap → Prop}
theorem c98 {a b : Addr} {la ca lb cb : Nat} (hne : a.block ≠ b.block) {x y : Array Value} {tx ty : TypeId} (hx : H[a.block]? = some (.cells x tx (0, 0))) (hy : H[b.block]? = some (.cells y ty (0, 0))) (hy0 : y.size ≠ 0) (hR : R (.bool false) H) :
    CallsH Tryz.prog 98 #[.slice (some a) la ca, .slice (some b) lb cb] H R := by
  refine .inr fun w hw => ⟨.bool false, w, ?_, rfl, Out.refl w, by rw [hw]; exact hR⟩
  have hsl : Tryz.prog.underlying 25 = some (.slice 61) := by kernel_rfl
  have hsa : w.shape? a.block = some (tx, x.size) := by unfold World.shape?; rw [hw, hx]
  have hsb : w.shape? b.block = some (ty, y.size) := by unfold World.shape?; rw [hw, hy]
  have hfa : ∀ o, w.frozen? { block := a.block, off := o } = false := fun o => by unfold World.frozen?; simp only [hw, hx]; simp
  rw [run_callFunc_extern Tryz.func98 (by kernel_rfl) (by kernel_rfl) (by kernel_rfl) (e := Extern.SlicesOverlaps.overlaps #[25, 25] #[4]) (by kernel_rfl),
    Lib.run_overlaps_apart w 25 4 61 hsl 19 (fun w => (Tryz.tok61).sizeOf w) a b la ca lb cb hne tx ty x.size y.size hsa hsb hy0 (hfa a.off) (hfa x.size)]
  rfl
end Go.Proofs
namespace Go.Proofs
open Go.Sh
variable {H0 H : Heap} {σ : List Rs} {R : Value → Heap → Prop}
theorem setL_app (A B v : List Value) {n : Nat} (h : A.length = n) : setL (A ++ B) n v = A ++ v ++ B.drop v.length := by
 subst h
 simp [setL]
theorem offP {b n c k : Nat} (h : c ≠ n) : (if c = n then some (⟨b, 0, none⟩ : Addr) else Option.map (fun x => Addr.add x (n * k)) (some ⟨b, 0, none⟩)) = some ⟨b, n * k, none⟩ := by
 rw [if_neg h]; simp
theorem offP0 {b c : Nat} : (if c = 0 then some (⟨b, 0, none⟩ : Addr) else Option.map (fun x => Addr.add x 0) (some ⟨b, 0, none⟩)) = some ⟨b, 0, none⟩ := by
 split
 ·rfl
 ·simp
theorem copS {H : Heap} {a : Addr} {xs : Array Value} {K : Heap → Prop} (h : stAt H a xs.toList K) : copQ H (some a) xs K := h
theorem _root_.Go.Sh.St.slIn (hs : St H0 H σ) (i : Nat) {b l c k j : Nat} {el : TypeId} {fs vs : List Value} {f : Heap → Prop} (hi : σ[i]? = some (.sl (some ⟨b, 0, none⟩) l c el k fs)) (hj : j + vs.length ≤ fs.length) (ho : ∀ v ∈ vs, v.oneCell' = true)
    (hK : ∀ H', St H0 H' (σ.set i (.sl (some ⟨b, 0, none⟩) l c el k (setL fs j vs))) → f H') : stAt H ⟨b, j, none⟩ vs f := by
  have hf := hs.fs i hi
  have hlc := Nat.mul_le_mul_right k hf.le
  have hlen := hf.len
  refine hs.slRow i hi (by omega) ho hf.le (by rw [setL_len hj]; exact hlen) (fun v hv => ?_) (fun x v hv => by rw [setL_get hj] at hv; exact hv) hK
  unfold setL at hv
  simp only [List.mem_append] at hv
  rcases hv with (hv | hv) | hv
  · exact hf.one v (List.mem_of_mem_take hv)
  · exact ho v hv
  · exact hf.one v (List.mem_of_mem_drop hv)
theorem c83 {K : Sl3} {i b : Nat} {cs : Array Value} {fs : List Value} (hs : St H0 H (.sl K.p K.l K.c 61 19 fs :: .cell b cs 61 :: σ)) (hcs : cs.size = 19) (hco : ∀ v ∈ cs.toList, v.oneCell' = true) (hi : i ≤ K.l) (hl : K.l ≤ 1000000000)
    (hR : ∀ (K' : Sl3) H', K'.l = K.l + 1 → St H0 H' (.sl K'.p K'.l K'.c 61 19 (fs.take (i * 19) ++ cs.toList ++ fs.drop (i * 19)) :: .cell b cs 61 :: σ) → R K'.v H') :
    CallsH Tryz.prog 83 #[K.v, .int .i64 i, .slice (some ⟨b, 0, none⟩) 1 1] H R := by
  obtain ⟨p, l, c⟩ := K
  simp only at hs hi hl hR
  show CallsH Tryz.prog 83 #[.slice p l c, .int .i64 i, .slice (some ⟨b, 0, none⟩) 1 1] H R
  have hfl := (hs.fs 0 rfl).len
  have hfo := (hs.fs 0 rfl).one
  have hlc := (hs.fs 0 rfl).le
  refine Tryz.s83 ?_
  unfold Tryz.S83
  refine ⟨by omega, by omega, br_eq (fun h => absurd h (by decide)) fun _ => br_eq (fun h => ?_) fun h => ?_⟩
  · have : i = l := by omega
    subst this
    refine hs.appC 0 1 rfl rfl (by rw [hcs]) hco (by decide) rfl (by omega) (by omega) fun p' c' H' hs' => ?_
    refine hR ⟨p', i + 1, c'⟩ H' rfl ?_
    rw [List.take_of_length_le (by omega), List.drop_of_length_le (by omega), List.append_nil]
    exact hs'
  · have hil : i < l := by omega
    obtain ⟨b0, rfl⟩ := hs.slSome 0 (j := 0) rfl (by omega)
    rw [wrap_id (n := (l : Int) + ((1 : Nat) : Int)) (by omega) (by omega), wrap_id (n := (l : Int) + ((1 : Nat) : Int) - (i : Int)) (by omega) (by omega), wrap_id (n := (i : Int) + ((1 : Nat) : Int)) (by omega) (by omega)]
    have t1 : Int.toNat ((i : Int) + ((1 : Nat) : Int)) = i + 1 := by omega
    have t2 : Int.toNat (i : Int) = i := rfl
    have t3 : Int.toNat ((l : Int) + ((1 : Nat) : Int)) = l + 1 := by omega
    have t4 : Int.toNat (l : Int) = l := rfl
    simp only [t1, t2, t3, t4, Nat.sub_zero, Nat.zero_mul, offP0]
    have hdl : (fs.drop (i * 19)).length = (l - i) * 19 := by rw [List.length_drop]; omega
    have hdo : ∀ v ∈ fs.drop (i * 19), v.oneCell' = true := fun v hv => hfo v (List.mem_of_mem_drop hv)
    have htl : (fs.take (i * 19)).length = i * 19 := by rw [List.length_take]; omega
    refine br_dec (fun hgrow => ?_) fun hfit => ?_
    · refine ⟨by omega, by omega, ?_⟩
      have hr0 := (hs.rs 0 rfl).rowPart 0 (i * 19) (by omega)
      rw [List.drop_zero] at hr0
      have hn : Int.toNat ((l : Int) + ((1 : Nat) : Int) - (i : Int)) = l + 1 - i := by omega
      refine hs.appZnew (bytes := 216) hr0 htl (fun v hv => hfo v (List.mem_of_mem_take hv)) (by decide) rfl (cellsL_one ⟨0, 0, false, 0, 0, 0, 0, [], [], ⟨0, 0, 0, 0, 0, 0⟩, false, 0, []⟩ .nil .nil .nil .nil) (by omega) (by omega) (by omega) (by omega) fun b' c' H7 hs7 => ?_
      rw [hn] at hs7 ⊢
      have hc7 := (hs7.fs 0 rfl).le
      rw [show i + (l + 1 - i) = l + 1 from by omega] at hs7 hc7 ⊢
      refine ⟨by omega, by omega, cs, ?_, ?_⟩
      · rw [show min 1 (l + 1 - i) = 1 from by omega]
        exact ⟨by rw [hcs], rowIn_whole (hs7.block 2 rfl)⟩
      rw [offP (show c' ≠ i by omega)]
      have hzl : (reps (l + 1 - i) (cellsL ⟨0, 0, false, 0, 0, 0, 0, [], [], ⟨0, 0, 0, 0, 0, 0⟩, false, 0, []⟩ Sl3.nil.v Sl3.nil.v Sl3.nil.v Sl3.nil.v)).length = (l + 1 - i) * 19 := by rw [reps_length]; rfl
      refine copS (hs7.slIn 0 rfl (by
        have h19 : cs.toList.length = 19 := by simpa using hcs
        have e : (fs.take (i * 19) ++ reps (l + 1 - i) (cellsL ⟨0, 0, false, 0, 0, 0, 0, [], [], ⟨0, 0, 0, 0, 0, 0⟩, false, 0, []⟩ Sl3.nil.v Sl3.nil.v Sl3.nil.v Sl3.nil.v)).length = i * 19 + (l + 1 - i) * 19 := by rw [List.length_append, htl, hzl]
        rw [h19]
        refine Nat.le_trans ?_ (Nat.le_of_eq e.symm)
        omega) hco fun H9 hs9 => ⟨by omega, by omega, by omega, by omega, (fs.drop (i * 19)).toArray, ?_, ?_⟩)
      · rw [show min (l - i) (l + 1 - (i + 1)) = l - i from by omega, offP (show c ≠ i by omega)]
        have h1 := (hs9.rs 1 rfl).rowPart (i * 19) ((l - i) * 19) (by omega)
        rw [List.take_of_length_le (by omega)] at h1
        exact h1
      rw [offP (show c' ≠ i + 1 by omega)]
      have h19 : cs.toList.length = 19 := by simpa using hcs
      have e1 : setL (fs.take (i * 19) ++ reps (l + 1 - i) (cellsL ⟨0, 0, false, 0, 0, 0, 0, [], [], ⟨0, 0, 0, 0, 0, 0⟩, false, 0, []⟩ Sl3.nil.v Sl3.nil.v Sl3.nil.v Sl3.nil.v)) (i * 19) cs.toList = fs.take (i * 19) ++ cs.toList ++ (reps (l + 1 - i) (cellsL ⟨0, 0, false, 0, 0, 0, 0, [], [], ⟨0, 0, 0, 0, 0, 0⟩, false, 0, []⟩ Sl3.nil.v Sl3.nil.v Sl3.nil.v Sl3.nil.v)).drop 19 := by rw [setL_app _ _ _ htl, h19]
      have hs9 : St H0 H9 (.sl (some ⟨b', 0, none⟩) (l + 1) c' 61 19 (fs.take (i * 19) ++ cs.toList ++ (reps (l + 1 - i) (cellsL ⟨0, 0, false, 0, 0, 0, 0, [], [], ⟨0, 0, 0, 0, 0, 0⟩, false, 0, []⟩ Sl3.nil.v Sl3.nil.v Sl3.nil.v Sl3.nil.v)).drop 19) :: .sl (some ⟨b0, 0, none⟩) l c 61 19 fs :: .cell b cs 61 :: σ) := by rw [← e1]; exact hs9
      have e3 : ((reps (l + 1 - i) (cellsL ⟨0, 0, false, 0, 0, 0, 0, [], [], ⟨0, 0, 0, 0, 0, 0⟩, false, 0, []⟩ Sl3.nil.v Sl3.nil.v Sl3.nil.v Sl3.nil.v)).drop 19).length = (l - i) * 19 := by rw [List.length_drop, hzl]; omega
      have hacl : (fs.take (i * 19) ++ cs.toList).length = (i + 1) * 19 := by rw [List.length_append, htl, h19]; omega
      refine copS (hs9.slIn 0 rfl (by
        rw [List.length_append, hacl, e3]
        show (i + 1) * 19 + (fs.drop (i * 19)).length ≤ _
        rw [hdl]; exact Nat.le_refl _) (by simpa using hdo) fun H11 hs11 => ?_)
      refine hR ⟨some ⟨b', 0, none⟩, l + 1, c'⟩ H11 rfl ?_
      have e2 : setL (fs.take (i * 19) ++ cs.toList ++ (reps (l + 1 - i) (cellsL ⟨0, 0, false, 0, 0, 0, 0, [], [], ⟨0, 0, 0, 0, 0, 0⟩, false, 0, []⟩ Sl3.nil.v Sl3.nil.v Sl3.nil.v Sl3.nil.v)).drop 19) ((i + 1) * 19) (fs.drop (i * 19)) = fs.take (i * 19) ++ cs.toList ++ fs.drop (i * 19) := by
        rw [setL_app _ _ _ hacl, List.drop_of_length_le (l := (reps (l + 1 - i) (cellsL ⟨0, 0, false, 0, 0, 0, 0, [], [], ⟨0, 0, 0, 0, 0, 0⟩, false, 0, []⟩ Sl3.nil.v Sl3.nil.v Sl3.nil.v Sl3.nil.v)).drop 19) (by rw [e3, hdl]; exact Nat.le_refl _), List.append_nil]
      rw [← e2]
      exact St.del hs11 1
    · refine ⟨by omega, by omega, by omega, by omega, ?_⟩
      rw [offP (show c ≠ i + 1 by omega)]
      have hb0 := (hs.fs 0 rfl).at_
      rcases hb0 with ⟨h1, _⟩ | ⟨blk, cs0, h1, _, h3, h4, h5⟩
      · cases h1
      cases h1
      have hbb := hs.block 1 rfl
      have hne : b ≠ b0 := by
        obtain ⟨_, fps, hl, hn, _⟩ := hs
        match fps, hl with
        | f :: g :: fps, hl =>
          have hf := Rs.sl_at hl.1 rfl
          have hg := hl.2.1.1
          rw [hf, hg] at hn
          simp only [List.flatten_cons, List.cons_append, List.nil_append, List.nodup_cons, List.mem_cons] at hn
          exact fun h => hn.1 (.inl h.symm)
      refine c98 (a := ⟨b, 0, none⟩) (b := ⟨b0, (i + 1) * 19, none⟩) hne hbb h3 (by omega) ⟨false, rfl, br_t rfl ?_⟩
      refine ⟨by omega, by omega, by omega, by omega, (fs.drop (i * 19)).toArray, ?_, ?_⟩
      · rw [show min (l + 1 - i) (l + 1 - (i + 1)) = l - i from by omega, offP (show c ≠ i by omega)]
        have h1 := (hs.rs 0 rfl).rowPart (i * 19) ((l - i) * 19) (by omega)
        rw [List.take_of_length_le (by omega)] at h1
        exact h1
      have htl2 : (fs.take ((i + 1) * 19)).length = (i + 1) * 19 := by rw [List.length_take]; omega
      refine copS (hs.slRow 0 rfl (l' := l + 1) (fs' := fs.take ((i + 1) * 19) ++ fs.drop (i * 19)) (by simp only [List.toList_toArray]; omega) (by simpa using hdo) (by omega) (by rw [List.length_append, htl2, hdl]; omega)
        (fun v hv => (List.mem_append.1 hv).elim (fun h => hfo v (List.mem_of_mem_take h)) (hdo v)) (fun x v hv => ?_) fun H16 hs16 => ?_)
      · simp only [List.toList_toArray]
        rw [List.getElem?_append] at hv
        split at hv
        · rename_i hx
          rw [if_neg (by omega)]
          rw [List.getElem?_take_of_lt (by omega)] at hv
          exact hv
        · rename_i hx
          have := (List.getElem?_eq_some_iff.1 hv).1
          rw [if_pos (by omega)]
          rw [htl2] at hv
          exact hv
      have h19 : cs.toList.length = 19 := by simpa using hcs
      refine ⟨by omega, by omega, cs, ?_, ?_⟩
      · rw [show min 1 (l + 1 - i) = 1 from by omega]
        exact ⟨by rw [hcs], rowIn_whole (hs16.block 1 rfl)⟩
      rw [offP (show c ≠ i by omega)]
      refine copS (hs16.slIn 0 rfl (by rw [List.length_append, htl2, hdl, h19]; omega) hco fun H18 hs18 => ?_)
      refine hR ⟨some ⟨b0, 0, none⟩, l + 1, c⟩ H18 rfl ?_
      have e2 : setL (fs.take ((i + 1) * 19) ++ fs.drop (i * 19)) (i * 19) cs.toList = fs.take (i * 19) ++ cs.toList ++ fs.drop (i * 19) := by
        have e3 : fs.take ((i + 1) * 19) = fs.take (i * 19) ++ (fs.drop (i * 19)).take 19 := by rw [show (i + 1) * 19 = i * 19 + 19 from by omega, List.take_add]
        rw [e3, List.append_assoc, setL_app _ _ _ htl, h19, List.drop_append_of_le_length (by rw [List.length_take]; omega), List.drop_of_length_le (by rw [List.length_take]; omega), List.nil_append]
      rw [← e2]
      exact hs18
theorem c65 {K : Sl3} {i : Nat} {fs : List Value} (hs : St H0 H (.sl K.p K.l K.c 61 19 fs :: σ)) (hi : i < K.l) (hl : K.l ≤ 1000000000)
    (hR : ∀ (K' : Sl3) H', K'.l = K.l - 1 → St H0 H' (.sl K'.p K'.l K'.c 61 19 (fs.take (i * 19) ++ fs.drop ((i + 1) * 19)) :: σ) → R K'.v H') :
    CallsH Tryz.prog 65 #[K.v, .int .i64 i, .int .i64 ((i : Int) + 1)] H R := by
  obtain ⟨p, l, c⟩ := K
  simp only at hs hi hl hR
  show CallsH Tryz.prog 65 #[.slice p l c, .int .i64 i, .int .i64 ((i : Int) + 1)] H R
  have hfl := (hs.fs 0 rfl).len
  have hfo := (hs.fs 0 rfl).one
  have hlc := (hs.fs 0 rfl).le
  obtain ⟨b0, rfl⟩ := hs.slSome 0 (j := 0) rfl (by omega)
  refine Tryz.s65 ?_
  unfold Tryz.S65
  have t1 : Int.toNat ((i : Int) + 1) = i + 1 := by omega
  have t2 : Int.toNat (i : Int) = i := rfl
  have t4 : Int.toNat (l : Int) = l := rfl
  simp only [t1, t2, t4, Nat.sub_zero, Nat.zero_mul, offP0]
  refine ⟨by omega, by omega, by omega, by omega, by omega, by omega, br_eq (fun h => by omega) fun _ => ⟨by omega, by omega, by omega, by omega, ?_⟩⟩
  have hdl : (fs.drop ((i + 1) * 19)).length = (l - (i + 1)) * 19 := by rw [List.length_drop]; omega
  have hdo : ∀ v ∈ fs.drop ((i + 1) * 19), v.oneCell' = true := fun v hv => hfo v (List.mem_of_mem_drop hv)
  have htl : (fs.take (i * 19)).length = i * 19 := by rw [List.length_take]; omega
  refine ⟨by omega, by omega, (fs.drop ((i + 1) * 19)).toArray, ?_, fun _ => ?_, fun h => by omega⟩
  · have h1 := (hs.rs 0 rfl).rowPart ((i + 1) * 19) ((l - (i + 1)) * 19) (by omega)
    rw [List.take_of_length_le (by omega)] at h1
    by_cases hc : c = i + 1
    · have hn : fs.drop ((i + 1) * 19) = [] := List.drop_of_length_le (by omega)
      have hz : l - (i + 1) = 0 := by omega
      rw [if_pos hc, hn, hz]
      exact ⟨rfl, fun j v hv => by simp at hv⟩
    · rw [offP hc]; exact h1
  show stAt H ((⟨b0, 0, none⟩ : Addr).add (i * 19)) _ _
  rw [add_none, Nat.zero_add]
  -- the row moves down; what was last stays behind
  refine hs.slRow 0 rfl (l' := l) (fs' := fs.take (i * 19) ++ fs.drop ((i + 1) * 19) ++ fs.drop ((l - 1) * 19)) (by simp only [List.toList_toArray]; omega) (by simpa using hdo) (by omega) (by rw [List.length_append, List.length_append, htl, hdl, List.length_drop]; omega)
    (fun v hv => by
      simp only [List.mem_append] at hv
      rcases hv with (hv | hv) | hv
      · exact hfo v (List.mem_of_mem_take hv)
      · exact hdo v hv
      · exact hfo v (List.mem_of_mem_drop hv)) (fun x v hv => ?_) fun H5 hs5 => ?_
  · simp only [List.toList_toArray]
    rw [List.getElem?_append] at hv
    have hab : (fs.take (i * 19) ++ fs.drop ((i + 1) * 19)).length = (l - 1) * 19 := by rw [List.length_append, htl, hdl]; omega
    rw [hab] at hv
    split at hv
    · rename_i hx
      rw [List.getElem?_append] at hv
      split at hv
      · rename_i hx2
        rw [if_neg (by omega)]
        rw [List.getElem?_take_of_lt (by omega)] at hv
        exact hv
      · rename_i hx2
        rw [if_pos (by omega)]
        rw [htl] at hv
        exact hv
    · rename_i hx
      rw [if_neg (by omega)]
      rw [List.getElem?_drop] at hv
      rw [show x = (l - 1) * 19 + (x - (l - 1) * 19) from by omega]
      exact hv
  have t7 : Int.toNat ((l - 1 : Nat) : Int) = l - 1 := rfl
  have t6 : i + (l - (i + 1)) = l - 1 := by omega
  simp only [t6, t7]
  refine ⟨by omega, by omega, by omega, by omega, fun h => by omega, fun _ => ?_⟩
  rw [offP (show c ≠ l - 1 by omega), show l - (l - 1) = 1 from by omega]
  have hab : (fs.take (i * 19) ++ fs.drop ((i + 1) * 19)).length = (l - 1) * 19 := by rw [List.length_append, htl, hdl]; omega
  have hone := cellsL_one ⟨0, 0, false, 0, 0, 0, 0, [], [], ⟨0, 0, 0, 0, 0, 0⟩, false, 0, []⟩ .nil .nil .nil .nil
  refine hs5.slRow 0 rfl (l' := l - 1) (fs' := fs.take (i * 19) ++ fs.drop ((i + 1) * 19)) ?_ ?_ (by omega) hab
    (fun v hv => by
      simp only [List.mem_append] at hv
      rcases hv with hv | hv
      · exact hfo v (List.mem_of_mem_take hv)
      · exact hdo v hv) (fun x v hv => ?_) fun H6 hs6 => ?_
  · show (l - 1) * 19 + 19 ≤ c * 19; omega
  · exact hone
  · have hx := (List.getElem?_eq_some_iff.1 hv).1
    rw [hab] at hx
    rw [if_neg (by omega), List.getElem?_append_left (by rw [hab]; exact hx)]
    exact hv
  exact hR ⟨some ⟨b0, 0, none⟩, l - 1, c⟩ H6 rfl hs6
end Go.Proofs
namespace Go.Sh
variable {H0 H H' : Heap} {σ τ : List Rs}
theorem permC {α : Type} {a b : List α} (h : ∀ (_ : DecidableEq α) (x : α), a.count x = b.count x) : a.Perm b := by
 haveI : DecidableEq α := fun a b => Classical.propDecidable (a = b)
 exact List.perm_iff_count.2 (h inferInstance)
theorem perm_front {r : Rs} : ∀ (l : List Rs) (i : Nat), l[i]? = some r → l.Perm (r :: l.eraseIdx i) ∧ ∀ r', (l.set i r').Perm (r' :: l.eraseIdx i)
 | [], i, h => by simp at h
 | x :: l, 0, h => by simp at h; subst h; exact ⟨List.Perm.refl _, fun _ => List.Perm.refl _⟩
 | x :: l, i + 1, h => by
  obtain ⟨h1, h2⟩ := perm_front l i (by simpa using h)
  exact ⟨(h1.cons x).trans (List.Perm.swap _ _ _), fun r' => ((h2 r').cons x).trans (List.Perm.swap _ _ _)⟩
theorem St.two (hs : St H0 H σ) (i m : Nat) {r s : Rs} (hi : σ[i]? = some r) (hm : σ[m]? = some s) (hne : m ≠ i) : ∃ σ2, St H0 H (r :: s :: σ2) ∧ ∀ {H' r'}, St H0 H' (r' :: s :: σ2) → St H0 H' (σ.set i r') := by
 obtain ⟨h1, h2⟩ := perm_front σ i hi
 have hm' : (σ.eraseIdx i)[if m < i then m else m - 1]? = some s := by
  rw [List.getElem?_eraseIdx]
  by_cases h : m < i
  ·rw [if_pos h, if_pos h]; exact hm
  ·rw [if_neg h, if_neg (by omega), show m - 1 + 1 = m from by omega]; exact hm
 obtain ⟨h3, _⟩ := perm_front _ _ hm'
 exact ⟨_, hs.perm (h1.trans (h3.cons r)), fun hs' => hs'.perm ((h3.symm.cons _).trans (h2 _).symm)⟩
theorem St.one (hs : St H0 H σ) (i : Nat) {r : Rs} (hi : σ[i]? = some r) : ∃ σ2, St H0 H (r :: σ2) ∧ ∀ {H' r'}, St H0 H' (r' :: σ2) → St H0 H' (σ.set i r') := by
 obtain ⟨h1, h2⟩ := perm_front σ i hi
 exact ⟨_, hs.perm h1, fun hs' => hs'.perm (h2 _).symm⟩
theorem St.elCell (hs : St H0 H σ) (i : Nat) {p : Option Addr} {l c n : Nat} {el : TypeId} {A cs B : List Value} (hi : σ[i]? = some (.sl p l c el 19 (A ++ cs ++ B))) (hA : A.length = n * 19) {j : Nat} {v : Value} (hv : cs[j]? = some v) {a : Addr} (ha : p.map (fun a => a.add (n * 19)) = some a) :
    Sh.cell H (a.add j) = some v := by
  have hj := (List.getElem?_eq_some_iff.1 hv).1
  obtain ⟨blk, h1, h2⟩ := (hs.rs i hi).cell (i := n * 19 + j) (v := v) (by
    rw [List.append_assoc, List.getElem?_append_right (by omega), hA, show n * 19 + j - n * 19 = j from by omega, List.getElem?_append_left hj]; exact hv)
  subst h1
  cases ha
  show Sh.cell H (((⟨blk, 0, none⟩ : Addr).add (n * 19)).add j) = some v
  rw [add_none, add_none, Nat.zero_add]
  exact h2
theorem St.elRow (hs : St H0 H σ) (i : Nat) {p : Option Addr} {l c n : Nat} {el : TypeId} {A cs B : List Value} (hi : σ[i]? = some (.sl p l c el 19 (A ++ cs ++ B))) (hA : A.length = n * 19) {a : Addr} (ha : p.map (fun a => a.add (n * 19)) = some a) :
 rowIn H a cs.toArray := fun j v hv => hs.elCell i hi hA (by simpa using hv) ha
theorem St.elAd (hs : St H0 H σ) (i : Nat) {p : Option Addr} {l c n : Nat} {el : TypeId} {A cs B : List Value} (hi : σ[i]? = some (.sl p l c el 19 (A ++ cs ++ B))) (hc : cs.length = 19) : ∃ a, p.map (fun a => a.add (n * 19)) = some a := by
 obtain ⟨b, h⟩ := hs.slSome i (j := 0) hi (by simp; omega)
 rw [h]; exact ⟨_, rfl⟩
theorem St.elPut (hs : St H0 H σ) (i : Nat) {p : Option Addr} {l c n : Nat} {el : TypeId} {A cs B : List Value} (hi : σ[i]? = some (.sl p l c el 19 (A ++ cs ++ B))) (hA : A.length = n * 19) {j : Nat} (hj : j < cs.length) {v : Value} (hv : v.oneCell' = true) {a : Addr} (ha : p.map (fun a => a.add (n * 19)) = some a)
    {f : Heap → Prop} (hK : ∀ H', St H0 H' (σ.set i (.sl p l c el 19 (A ++ cs.set j v ++ B))) → f H') : stAt H (a.add j) [v] f := by
  obtain ⟨b, hb⟩ := hs.slSome i (j := 0) hi (by simp; omega)
  subst hb
  cases ha
  show stAt H (((⟨b, 0, none⟩ : Addr).add (n * 19)).add j) [v] f
  rw [add_none, add_none, Nat.zero_add]
  refine hs.slPut i hi (by simp; omega) hv fun H' hs' => hK H' ?_
  rw [List.append_assoc, List.set_append_right _ _ (by omega), hA, show n * 19 + j - n * 19 = j from by omega, List.set_append_left _ _ hj, ← List.append_assoc] at hs'
  exact hs'
end Go.Sh
namespace Go.Proofs
open Go.Sh
variable {H0 H : Heap} {σ : List Rs} {R : Value → Heap → Prop}
def Fr.cells (fr : Fr) (K : Sl3) : List Value := cellsL fr.f fr.P.v fr.M.v fr.A.v K.v
def Fr.node (fr : Fr) (K : Sl3) (ks : List T) : T := .mk fr.f fr.P fr.M fr.A K ks
def plugZ : List Fr → Sl3 → List T → Sl3 × List T
 | [], K, ks => (K, ks)
 | fr :: up, K, ks => plugZ up fr.hdr (fr.pre ++ fr.node K ks :: fr.post)
def resFr (fr : Fr) (K : Sl3) : List Rs :=
 .sl fr.hdr.p fr.hdr.l fr.hdr.c 61 19 (cellsKs fr.pre ++ fr.cells K ++ cellsKs fr.post) :: .sl fr.P.p fr.P.l fr.P.c 3 1 (ints fr.f.p) :: .sl fr.M.p fr.M.l fr.M.c 5 1 (kints .u8 fr.f.mask) :: .sl fr.A.p fr.A.l fr.A.c 3 1 (ints fr.f.params) :: (resKs fr.pre ++ resKs fr.post)
def resUp : List Fr → Sl3 → List Rs
 | [], _ => []
 | fr :: up, K => resFr fr K ++ resUp up fr.hdr
def openR (fr : Fr) (up : List Fr) (K : Sl3) (ks : List T) : List Rs :=
 .sl fr.hdr.p fr.hdr.l fr.hdr.c 61 19 (cellsKs fr.pre ++ fr.cells K ++ cellsKs fr.post) :: .sl fr.P.p fr.P.l fr.P.c 3 1 (ints fr.f.p) :: .sl fr.M.p fr.M.l fr.M.c 5 1 (kints .u8 fr.f.mask) :: .sl fr.A.p fr.A.l fr.A.c 3 1 (ints fr.f.params) ::
  .sl K.p K.l K.c 61 19 (cellsKs ks) :: (resKs ks ++ (resKs fr.pre ++ (resKs fr.post ++ resUp up fr.hdr)))
theorem cells_mid (fr : Fr) (K : Sl3) (ks : List T) : cellsKs (fr.pre ++ fr.node K ks :: fr.post) = cellsKs fr.pre ++ fr.cells K ++ cellsKs fr.post := by
 rw [cellsKs_app, cellsKs_cons, List.append_assoc]; rfl
theorem resKs_mid (fr : Fr) (K : Sl3) (ks : List T) : resKs (fr.pre ++ fr.node K ks :: fr.post) = resKs fr.pre ++ (resT (fr.node K ks) ++ resKs fr.post) := by
 rw [resKs_app, resKs_cons]
theorem plug_res : ∀ (up : List Fr) (K : Sl3) (ks : List T), (resG (plugZ up K ks).1 (plugZ up K ks).2).Perm (resG K ks ++ resUp up K)
 | [], K, ks => by rw [resUp, List.append_nil]; exact List.Perm.refl _
 | fr :: up, K, ks => by
  rw [plugZ]
  refine (plug_res up fr.hdr _).trans ?_
  refine permC fun _ x => ?_
  simp only [resG, cells_mid, resKs_mid]
  simp only [Fr.node, resT_mk, resG, resUp, resFr, List.count_append, List.count_cons]
  ac_rfl
theorem open_perm (fr : Fr) (up : List Fr) (K : Sl3) (ks : List T) : (resG (plugZ (fr :: up) K ks).1 (plugZ (fr :: up) K ks).2).Perm (openR fr up K ks) := by
 refine (plug_res (fr :: up) K ks).trans (permC fun _ x => ?_)
 simp only [resG, resUp, resFr, openR, List.count_append, List.count_cons]
 ac_rfl
theorem _root_.Go.Sh.St.opened {S : Sl3} {ss : List T} (hs : St H0 H (resG S ss ++ σ)) {fr : Fr} {up : List Fr} {K : Sl3} {ks : List T} (h : plugZ (fr :: up) K ks = (S, ss)) : St H0 H (openR fr up K ks ++ σ) := by
 have := open_perm fr up K ks
 rw [h] at this
 exact hs.perm (this.append_right σ)
theorem _root_.Go.Sh.St.closed {fr : Fr} {up : List Fr} {K : Sl3} {ks : List T} (hs : St H0 H (openR fr up K ks ++ σ)) : St H0 H (resG (plugZ (fr :: up) K ks).1 (plugZ (fr :: up) K ks).2 ++ σ) :=
 hs.perm ((open_perm fr up K ks).symm.append_right σ)
theorem fz_plug (id : Int) : (∀ (t : T) (up : List Fr) (K : Sl3) (pre post : List T) (z : Z), fzT up K pre post id t = some z → plugZ z.1 z.2.1 z.2.2 = plugZ up K (pre ++ t :: post)) := by
 refine T.ind fun f P M A K' ks ih up K pre post z hz => ?_
 rw [fzT] at hz
 split at hz
 ·cases hz; rfl
 ·have : ∀ (ts : List T), (∀ t ∈ ts, t ∈ ks) → ∀ (u : List Fr) (K0 : Sl3) (pre0 : List T), fzK u K0 pre0 id ts = some z → plugZ z.1 z.2.1 z.2.2 = plugZ u K0 (pre0 ++ ts) := by
   intro ts
   induction ts with
   | nil => intro _ u K0 pre0 h; rw [fzK] at h; cases h
   | cons t ts ih2 =>
    intro hm u K0 pre0 h
    rw [fzK] at h
    split at h
    ·rename_i z' hz'
     cases h
     exact ih t (hm t List.mem_cons_self) _ _ _ _ _ hz'
    ·rw [ih2 (fun t ht => hm t (List.mem_cons_of_mem _ ht)) _ _ _ h, List.append_assoc]; rfl
  rw [this ks (fun _ h => h) _ _ _ hz]
  rfl
theorem fzK_plug {id : Int} : ∀ (ts : List T) (up : List Fr) (K : Sl3) (pre : List T) (z : Z), fzK up K pre id ts = some z → plugZ z.1 z.2.1 z.2.2 = plugZ up K (pre ++ ts)
 | [], up, K, pre, z, h => by rw [fzK] at h; cases h
 | t :: ts, up, K, pre, z, h => by
  rw [fzK] at h
  split at h
  ·rename_i z' hz'
   cases h
   exact fz_plug id t _ _ _ _ _ hz'
  ·rw [fzK_plug ts _ _ _ _ h, List.append_assoc]; rfl
theorem fz_suf (id : Int) : (∀ (t : T) (up : List Fr) (K : Sl3) (pre post : List T) (z : Z), fzT up K pre post id t = some z → ∃ fr u, z.1 = fr :: u ++ up ∧ fr.f.id = id) := by
 refine T.ind fun f P M A K' ks ih up K pre post z hz => ?_
 rw [fzT] at hz
 split at hz
 ·rename_i h; cases hz; exact ⟨_, [], rfl, h⟩
 ·have : ∀ (ts : List T), (∀ t ∈ ts, t ∈ ks) → ∀ (u : List Fr) (K0 : Sl3) (pre0 : List T), fzK u K0 pre0 id ts = some z → ∃ fr u', z.1 = fr :: u' ++ u ∧ fr.f.id = id := by
   intro ts
   induction ts with
   | nil => intro _ u K0 pre0 h; rw [fzK] at h; cases h
   | cons t ts ih2 =>
    intro hm u K0 pre0 h
    rw [fzK] at h
    split at h
    ·rename_i z' hz'
     cases h
     exact ih t (hm t List.mem_cons_self) _ _ _ _ _ hz'
    ·exact ih2 (fun t ht => hm t (List.mem_cons_of_mem _ ht)) _ _ _ h
  obtain ⟨fr, u', h1, h2⟩ := this ks (fun _ h => h) _ _ _ hz
  exact ⟨fr, u' ++ [⟨K, pre, f, P, M, A, post⟩], by rw [h1]; simp, h2⟩
theorem fzK_suf {id : Int} : ∀ (ts : List T) (up : List Fr) (K : Sl3) (pre : List T) (z : Z), fzK up K pre id ts = some z → ∃ fr u, z.1 = fr :: u ++ up ∧ fr.f.id = id
 | [], up, K, pre, z, h => by rw [fzK] at h; cases h
 | t :: ts, up, K, pre, z, h => by
  rw [fzK] at h
  split at h
  ·rename_i z' hz'
   cases h
   exact fz_suf id t _ _ _ _ _ hz'
  ·exact fzK_suf ts _ _ _ _ h
def rootF : LayF := ⟨0, 1, false, 0, 0, 0, 0, [], [], ⟨0, 0, 0, 0, 0, 0⟩, false, 0, []⟩
def rootT (K : Sl3) (ks : List T) : T := .mk rootF .nil .nil .nil K ks
def rootS (b : Nat) : Sl3 := ⟨some ⟨b, 0, none⟩, 1, 1⟩
def rootFr (b : Nat) : Fr := ⟨rootS b, [], rootF, .nil, .nil, .nil, []⟩
theorem root_ad (b : Nat) : (rootFr b).ad = some ⟨b, 0, none⟩ := by unfold Fr.ad rootFr rootS; simp
theorem plug_root (b : Nat) : ∀ (u : List Fr) (K : Sl3) (ks : List T), plugZ (u ++ [rootFr b]) K ks = (rootS b, [rootT (plugZ u K ks).1 (plugZ u K ks).2])
 | [], K, ks => rfl
 | fr :: u, K, ks => by rw [List.cons_append, plugZ, plug_root b u]; rfl
def resRoot (b : Nat) (K : Sl3) (ks : List T) : List Rs := resG (rootS b) [rootT K ks]
theorem found_open {b : Nat} {K : Sl3} {ks : List T} (hs : St H0 H (resRoot b K ks ++ σ)) {id : Int} {fr : Fr} {up : List Fr} {K' : Sl3} {ks' : List T} (h : fzK [rootFr b] K [] id ks = some (fr :: up, K', ks')) : St H0 H (openR fr up K' ks' ++ σ) :=
 hs.opened (by
  have := fzK_plug ks _ _ _ _ h
  rw [this]; rfl)
theorem close_at {b : Nat} {fr : Fr} {u : List Fr} {K : Sl3} {ks : List T} (hs : St H0 H (openR fr (u ++ [rootFr b]) K ks ++ σ)) : St H0 H (resRoot b (plugZ (fr :: u) K ks).1 (plugZ (fr :: u) K ks).2 ++ σ) := by
 have := hs.closed
 rw [← List.cons_append, plug_root] at this
 exact this
end Go.Proofs
