/-
  OWN WORK. Several texts in one: GFunD, GFun, HuffH, HuffI, HuffJ, HuffK, HuffL, FlD, FlG, FlB, FlC, FlH, FlI, FlJ.
-/
import Derived.Test.YtckbndhljfijhaaMgFlateRightB

set_option linter.unusedVariables false
set_option maxRecDepth 100000
set_option linter.unusedSimpArgs false
namespace Go.Proofs
open Go.Sh Go.Sh.Plan
open Go.IntKind (wrap)
open Int (toNat)
def Try.S81 (l1p : OA) (l1l l1c : Nat) (H : Heap) (R : Kv) : Prop :=
 br (decide (((l1l : Int) : Int) > 300))
 (R (.tuple #[.int .i64 0, .bool false]) H)
 (∀ X2 : Kl, (∀ (su3 i4 : Int) H5, (br (decide (i4 < (l1l : Int)))
 (∀ J6 : Kl, (∀ H7, (∃ a8, l1p = some a8 ∧ 0 ≤ i4 ∧ i4 < (l1l : Int) ∧ ∃ v9, cell H7 (.add a8 (toNat i4 * 1)) = some (.int .i64 v9) ∧ br (decide (v9 > 0))
 (∃ a10, l1p = some a10 ∧ 0 ≤ i4 ∧ i4 < (l1l : Int) ∧ ∃ v11, cell H7 (.add a10 (toNat i4 * 1)) = some (.int .i64 v11) ∧ 0 ≤ v11 ∧ X2 [.int .i64 (wrap .i64 (su3 + (shrI .i64 65536 v11))), .int .i64 (wrap .i64 (i4 + 1))] H7)
 (X2 [.int .i64 su3, .int .i64 (wrap .i64 (i4 + 1))] H7)) → J6 [] H7) →
 ∃ a12, l1p = some a12 ∧ 0 ≤ i4 ∧ i4 < (l1l : Int) ∧ ∃ v13, cell H5 (.add a12 (toNat i4 * 1)) = some (.int .i64 v13) ∧ br (decide (v13 < 0)) (R (.tuple #[.int .i64 0, .bool false]) H5) (∃ a14, l1p = some a14 ∧ 0 ≤ i4 ∧ i4 < (l1l : Int) ∧ ∃ v15, cell H5 (.add a14 (toNat i4 * 1)) = some (.int .i64 v15) ∧ br (decide (v15 > 16))
 (R (.tuple #[.int .i64 0, .bool false]) H5)
 (J6 [] H5)))
 (R (.tuple #[.int .i64 su3, .bool true]) H5)) → X2 [.int .i64 su3, .int .i64 i4] H5) → X2 [.int .i64 0, .int .i64 0] H)
def Try.p81 : Plan := (tl (tg (tl (two (tl (one (loop [(4, 3), (5, 3)] [0] (two (tl (tl leaf)) (two (one (two (join [] [0, 4, 5] g0) (tl (tl leaf)))) leaf))))) (tl leaf)))))
theorem Try.s81 {l1p : OA} {l1l l1c : Nat} {H R} (h : Try.S81 l1p l1l l1c H R) : Try.C 81 #[.slice l1p l1l l1c] H R := vcs Try.tab_ok Try.mixed Try.func81 Try.cal81 Try.p81 h (by kernel_rfl)
def Try.S82 (l1p : OA) (l1l l1c : Nat) (H : Heap) (R : Kv) : Prop :=
 Try.C 81 #[.slice l1p l1l l1c] H fun r2 H3 => ∃ r4 r5, r2 = .tuple #[.int .i64 r4, .bool r5] ∧ ∀ J6 : Kl, (∀ H7, (0 ≤ (l1l : Int) ∧ (l1l : Int) ≤ (l1l : Int) ∧ ((8 : Nat) : Int) * (l1l : Int) ≤ 281474976710656 ∧ (l1l : Int) ≤ 281474976710656 ∧ alc H7 (.cells (List.toArray (reps (toNat (l1l : Int)) (Array.toList #[.int .i64 0]))) 3) fun b8 H9 => ∀ X10 : Kl, (∀ (co11 la12 n13 : Int) H14, (br (decide (n13 ≤ 16))
 (∀ X15 : Kl, (∀ (co16 la17 s18 : Int) H19, (br (decide (s18 < (l1l : Int)))
 (∃ a20, l1p = some a20 ∧ 0 ≤ s18 ∧ s18 < (l1l : Int) ∧ ∃ v21, cell H19 (.add a20 (toNat s18 * 1)) = some (.int .i64 v21) ∧ br (v21 != n13)
 (X15 [.int .i64 co16, .int .i64 la17, .int .i64 (wrap .i64 (s18 + 1))] H19)
 (∀ J22 : Kl, (∀ (co23 : Int) H24, (∃ a25, (some ⟨b8, 0, none⟩) = some a25 ∧ 0 ≤ s18 ∧ s18 < (((toNat (l1l : Int)) : Nat) : Int) ∧ stAt H24 (.add a25 (toNat s18 * 1)) [.int .i64 co23] fun H26 => X15 [.int .i64 co23, .int .i64 n13, .int .i64 (wrap .i64 (s18 + 1))] H26) → J22 [.int .i64 co23] H24) →
 br (decide (la17 > 0))
 (0 ≤ (wrap .i64 (n13 - la17)) ∧ J22 [.int .i64 (shlI .i64 (wrap .i64 (co16 + 1)) (wrap .i64 (n13 - la17)))] H19)
 (J22 [.int .i64 co16] H19)))
 (X10 [.int .i64 co16, .int .i64 la17, .int .i64 (wrap .i64 (n13 + 1))] H19)) → X15 [.int .i64 co16, .int .i64 la17, .int .i64 s18] H19) → X15 [.int .i64 co11, .int .i64 la12, .int .i64 0] H14)
 (R (.tuple #[.slice (some ⟨b8, 0, none⟩) (toNat (l1l : Int)) (toNat (l1l : Int)), .bool true]) H14)) → X10 [.int .i64 co11, .int .i64 la12, .int .i64 n13] H14) → X10 [.int .i64 0, .int .i64 0, .int .i64 1] H9) → J6 [] H7) →
 br (!r5) (R (.tuple #[.slice none 0 0, .bool false]) H3) (br (decide (r4 > 65536))
 (R (.tuple #[.slice none 0 0, .bool false]) H3)
 (J6 [] H3))
def Try.p82 : Plan := (tl (tl (two (join [] [0] g0) (tl (tl (tl (two (tl (one (loop [(7, 3), (8, 3), (9, 3)] [0, 6] (two (tl (tl leaf)) (two (one (tl (one (loop [(7, 3), (8, 3), (10, 3)] [0, 6, 9] (two (tl (tl leaf)) (two (one (two (tl (tl leaf)) (two (join [(7, 3)] [0, 6, 9, 10] (tl (tl leaf))) (tl leaf)))) leaf)))))) leaf))))) (tl leaf))))))))
theorem Try.s82 {l1p : OA} {l1l l1c : Nat} {H R} (h : Try.S82 l1p l1l l1c H R) : Try.C 82 #[.slice l1p l1l l1c] H R := vcs Try.tab_ok Try.mixed Try.func82 Try.cal82 Try.p82 h (by kernel_rfl)
def Try.S83 (l1p : OA) (l1l l1c : Nat) (co2p : OA) (co2l co2c : Nat) (n3 v4 : Int) (H : Heap) (R : Kv) : Prop :=
 ∀ X5 : Kl, (∀ (s6 : Int) H7, (br (decide (s6 < (l1l : Int)))
 (∃ a8, l1p = some a8 ∧ 0 ≤ s6 ∧ s6 < (l1l : Int) ∧ ∃ v9, cell H7 (.add a8 (toNat s6 * 1)) = some (.int .i64 v9) ∧ br (v9 == n3) (∃ a10, co2p = some a10 ∧ 0 ≤ s6 ∧ s6 < (co2l : Int) ∧ ∃ v11, cell H7 (.add a10 (toNat s6 * 1)) = some (.int .i64 v11) ∧ br (v11 == v4)
 (R (.int .i64 s6) H7)
 (X5 [.int .i64 (wrap .i64 (s6 + 1))] H7)) (X5 [.int .i64 (wrap .i64 (s6 + 1))] H7))
 (R (.int .i64 (-1 : Int)) H7)) → X5 [.int .i64 s6] H7) → X5 [.int .i64 0] H
def Try.p83 : Plan := (tl (two (tl (one (loop [(9, 3)] [0, 1, 2, 3] (two (tl (tl leaf)) (two (one g0) leaf))))) (tl leaf)))
theorem Try.s83 {l1p : OA} {l1l l1c : Nat} {co2p : OA} {co2l co2c : Nat} {n3 v4 : Int} {H R} (h : Try.S83 l1p l1l l1c co2p co2l co2c n3 v4 H R) : Try.C 83 #[.slice l1p l1l l1c, .slice co2p co2l co2c, .int .i64 n3, .int .i64 v4] H R := vcs Try.tab_ok Try.mixed Try.func83 Try.cal83 Try.p83 h (by kernel_rfl)
def Try.S84 (l1p : OA) (l1l l1c : Nat) (co2p : OA) (co2l co2c : Nat) (n3 v4 : Int) (H : Heap) (R : Kv) : Prop :=
 ∀ X5 : Kl, (∀ (s6 : Int) H7, (br (decide (s6 < (l1l : Int)))
 (∃ a8, l1p = some a8 ∧ 0 ≤ s6 ∧ s6 < (l1l : Int) ∧ ∃ v9, cell H7 (.add a8 (toNat s6 * 1)) = some (.int .i64 v9) ∧ br (decide (v9 > n3)) (∃ a10, co2p = some a10 ∧ 0 ≤ s6 ∧ s6 < (co2l : Int) ∧ ∃ v11, cell H7 (.add a10 (toNat s6 * 1)) = some (.int .i64 v11) ∧ ∃ a12, l1p = some a12 ∧ 0 ≤ s6 ∧ s6 < (l1l : Int) ∧ ∃ v13, cell H7 (.add a12 (toNat s6 * 1)) = some (.int .i64 v13) ∧ 0 ≤ (wrap .i64 (v13 - n3)) ∧ br (((shrI .i64 v11 (wrap .i64 (v13 - n3))) : Int) == v4)
 (R (.bool true) H7)
 (X5 [.int .i64 (wrap .i64 (s6 + 1))] H7)) (X5 [.int .i64 (wrap .i64 (s6 + 1))] H7))
 (R (.bool false) H7)) → X5 [.int .i64 s6] H7) → X5 [.int .i64 0] H
def Try.p84 : Plan := (tl (two (tl (one (loop [(9, 3)] [0, 1, 2, 3] (two (tl (tl leaf)) (two (one g0) leaf))))) (tl leaf)))
theorem Try.s84 {l1p : OA} {l1l l1c : Nat} {co2p : OA} {co2l co2c : Nat} {n3 v4 : Int} {H R} (h : Try.S84 l1p l1l l1c co2p co2l co2c n3 v4 H R) : Try.C 84 #[.slice l1p l1l l1c, .slice co2p co2l co2c, .int .i64 n3, .int .i64 v4] H R := vcs Try.tab_ok Try.mixed Try.func84 Try.cal84 Try.p84 h (by kernel_rfl)
def Try.S85 (s1 : Int) (H : Heap) (R : Kv) : Prop :=
 br (s1 == 285)
 (R (.tuple #[.int .i64 258, .int .i64 0]) H)
 (∀ X2 : Kl, (∀ (ba3 k4 : Int) H5, (br (decide (k4 < s1))
 (Try.C 91 #[.int .i64 k4] H5 fun r6 H7 => ∃ r8, r6 = .int .i64 r8 ∧ 0 ≤ r8 ∧ X2 [.int .i64 (wrap .i64 (ba3 + (shlI .i64 1 r8))), .int .i64 (wrap .i64 (k4 + 1))] H7)
 (Try.C 91 #[.int .i64 s1] H5 fun r9 H10 => ∃ r11, r9 = .int .i64 r11 ∧ R (.tuple #[.int .i64 ba3, .int .i64 r11]) H10)) → X2 [.int .i64 ba3, .int .i64 k4] H5) → X2 [.int .i64 3, .int .i64 257] H)
def Try.p85 : Plan := (tl (tg (tl (two (tl (one (loop [(4, 3), (5, 3)] [0] (two (tl (tl leaf)) (two (one leaf) leaf))))) (tl leaf)))))
theorem Try.s85 {s1 : Int} {H R} (h : Try.S85 s1 H R) : Try.C 85 #[.int .i64 s1] H R := vcs Try.tab_ok Try.mixed Try.func85 Try.cal85 Try.p85 h (by kernel_rfl)
def Try.S86 (s1 : Int) (H : Heap) (R : Kv) : Prop :=
 ∀ X2 : Kl, (∀ (ba3 k4 : Int) H5, (br (decide (k4 < s1))
 (Try.C 92 #[.int .i64 k4] H5 fun r6 H7 => ∃ r8, r6 = .int .i64 r8 ∧ 0 ≤ r8 ∧ X2 [.int .i64 (wrap .i64 (ba3 + (shlI .i64 1 r8))), .int .i64 (wrap .i64 (k4 + 1))] H7)
 (Try.C 92 #[.int .i64 s1] H5 fun r9 H10 => ∃ r11, r9 = .int .i64 r11 ∧ R (.tuple #[.int .i64 ba3, .int .i64 r11]) H10)) → X2 [.int .i64 ba3, .int .i64 k4] H5) → X2 [.int .i64 1, .int .i64 0] H
def Try.p86 : Plan := (tl (tl (two (tl (one (loop [(4, 3), (5, 3)] [0] (two (tl (tl leaf)) (two (one leaf) leaf))))) (tl leaf))))
theorem Try.s86 {s1 : Int} {H R} (h : Try.S86 s1 H R) : Try.C 86 #[.int .i64 s1] H R := vcs Try.tab_ok Try.mixed Try.func86 Try.cal86 Try.p86 h (by kernel_rfl)
def Try.S87 (l1p : OA) (l1l l1c : Nat) (H : Heap) (R : Kv) : Prop :=
 ∀ X2 : Kl, (∀ (n3 i4 : Int) H5, (br (decide (i4 < (l1l : Int)))
 (∃ a6, l1p = some a6 ∧ 0 ≤ i4 ∧ i4 < (l1l : Int) ∧ ∃ v7, cell H5 (.add a6 (toNat i4 * 1)) = some (.int .i64 v7) ∧ br (decide (v7 > 0))
 (X2 [.int .i64 (wrap .i64 (n3 + 1)), .int .i64 (wrap .i64 (i4 + 1))] H5)
 (X2 [.int .i64 n3, .int .i64 (wrap .i64 (i4 + 1))] H5))
 (R (.int .i64 n3) H5)) → X2 [.int .i64 n3, .int .i64 i4] H5) → X2 [.int .i64 0, .int .i64 0] H
def Try.p87 : Plan := (tl (tl (two (tl (one (loop [(3, 3), (4, 3)] [0] (two (tl (tl leaf)) (two (one (tl (tl leaf))) leaf))))) (tl leaf))))
theorem Try.s87 {l1p : OA} {l1l l1c : Nat} {H R} (h : Try.S87 l1p l1l l1c H R) : Try.C 87 #[.slice l1p l1l l1c] H R := vcs Try.tab_ok Try.mixed Try.func87 Try.cal87 Try.p87 h (by kernel_rfl)
def Try.S88 (da1p : OA) (da1l da1c : Nat) (n2 : Int) (cm3g : Nat) (cm3x cm3y : AV) (H : Heap) (R : Kv) : Prop :=
 ∀ X4 : Kl, (∀ (a5 b6 : Int) H7, (br (decide (b6 ≤ n2))
 (Try.C 93 #[.slice da1p da1l da1c, .int .i64 a5, .int .i64 b6, .func (.func cm3g) cm3x cm3y] H7 fun r8 H9 => r8 = .tuple #[] ∧ X4 [.int .i64 b6, .int .i64 (wrap .i64 (b6 + 20))] H9)
 (Try.C 93 #[.slice da1p da1l da1c, .int .i64 a5, .int .i64 n2, .func (.func cm3g) cm3x cm3y] H7 fun r10 H11 => r10 = .tuple #[] ∧ ∀ X12 : Kl, (∀ (bl13 : Int) H14, (br (decide (bl13 < n2))
 (∀ X15 : Kl, (∀ (a16 b17 : Int) H18, (br (decide (b17 ≤ n2))
 (Try.C 94 #[.slice da1p da1l da1c, .int .i64 a16, .int .i64 (wrap .i64 (a16 + bl13)), .int .i64 b17, .func (.func cm3g) cm3x cm3y] H18 fun r19 H20 => r19 = .tuple #[] ∧ X15 [.int .i64 b17, .int .i64 (wrap .i64 (b17 + (wrap .i64 ((2 : Int) * bl13))))] H20)
 (br (decide (((wrap .i64 (a16 + bl13)) : Int) < n2))
 (Try.C 94 #[.slice da1p da1l da1c, .int .i64 a16, .int .i64 (wrap .i64 (a16 + bl13)), .int .i64 n2, .func (.func cm3g) cm3x cm3y] H18 fun r21 H22 => r21 = .tuple #[] ∧ X12 [.int .i64 (wrap .i64 (bl13 * 2))] H22)
 (X12 [.int .i64 (wrap .i64 (bl13 * 2))] H18))) → X15 [.int .i64 a16, .int .i64 b17] H18) → X15 [.int .i64 0, .int .i64 (wrap .i64 ((2 : Int) * bl13))] H14)
 (R (.tuple #[]) H14)) → X12 [.int .i64 bl13] H14) → X12 [.int .i64 20] H11)) → X4 [.int .i64 a5, .int .i64 b6] H7) → X4 [.int .i64 0, .int .i64 20] H
def Try.p88 : Plan := (tl (tl (two (one (loop [(7, 3), (8, 3)] [0, 1, 2, 6] (two (tl (tl leaf)) (one (tl (tl leaf)))))) (tl (one (loop [(6, 3)] [0, 1, 2] (two (tl (tl leaf)) (one (tl (two (one (loop [(7, 3), (8, 3)] [0, 1, 2, 6] (two (tl (tl leaf)) (one (tl (tl leaf)))))) (two (tl (tl (tl leaf))) leaf)))))))))))
theorem Try.s88 {da1p : OA} {da1l da1c : Nat} {n2 : Int} {cm3g : Nat} {cm3x cm3y : AV} {H R} (h : Try.S88 da1p da1l da1c n2 cm3g cm3x cm3y H R) : Try.C 88 #[.slice da1p da1l da1c, .int .i64 n2, .func (.func cm3g) cm3x cm3y] H R := vcs Try.tab_ok Try.mixed Try.func88 Try.cal88 Try.p88 h (by kernel_rfl)
def Try.S89 (sl1p : OA) (sl1l sl1c : Nat) (H : Heap) (R : Kv) : Prop :=
 ∀ X2 : Kl, (∀ (si3 t4 : Int) H5, (br (decide (t4 < (sl1l : Int)))
 (∃ a6, sl1p = some a6 ∧ 0 ≤ t4 ∧ t4 < (sl1l : Int) ∧ ∃ s7p s7l s7c, cell H5 (.add a6 (toNat t4 * 1)) = some (.slice s7p s7l s7c) ∧ br (decide (((wrap .i64 (si3 + (s7l : Int))) : Int) < 0))
 (False)
 (X2 [.int .i64 (wrap .i64 (si3 + (s7l : Int))), .int .i64 (wrap .i64 (t4 + 1))] H5))
 (Try.C 95 #[.slice none 0 0, .int .i64 si3] H5 fun r8 H9 => ∃ ne10p ne10l ne10c, r8 = .slice ne10p ne10l ne10c ∧ ∀ X11 : Kl, (∀ (ne12p : OA) (ne12l ne12c : Nat) (t13 : Int) H14, (br (decide (t13 < (sl1l : Int)))
 (∃ a15, sl1p = some a15 ∧ 0 ≤ t13 ∧ t13 < (sl1l : Int) ∧ ∃ s16p s16l s16c, cell H14 (.add a15 (toNat t13 * 1)) = some (.slice s16p s16l s16c) ∧ appQ 2 32 #[.int .i64 0, .slice none 0 0] H14 ne12p ne12l ne12c s16p s16l 128 fun ne17p ne17l ne17c H18 => X11 [.slice ne17p ne17l ne17c, .int .i64 (wrap .i64 (t13 + 1))] H18)
 (R (.slice ne12p ne12l ne12c) H14)) → X11 [.slice ne12p ne12l ne12c, .int .i64 t13] H14) → X11 [.slice ne10p ne10l ne10c, .int .i64 0] H9)) → X2 [.int .i64 si3, .int .i64 t4] H5) → X2 [.int .i64 0, .int .i64 0] H
def Try.p89 : Plan := (tl (tl (two (tl (one (loop [(3, 3), (11, 3)] [0, 9, 10] (tl (two (tl leaf) (two (one (tl (tl (tl (tl leaf))))) leaf)))))) (tl (two (tl (one (loop [(6, 126), (27, 3)] [25, 26] (tl (two (tl leaf) (two (one (tl leaf)) leaf)))))) (tl leaf))))))
theorem Try.s89 {sl1p : OA} {sl1l sl1c : Nat} {H R} (h : Try.S89 sl1p sl1l sl1c H R) : Try.C 89 #[.slice sl1p sl1l sl1c] H R := vcs Try.tab_ok Try.mixed Try.func89 Try.cal89 Try.p89 h (by kernel_rfl)
def Try.S90 (x1 y2 : AV) (H : Heap) (R : Kv) : Prop :=
 alc H (.cells x1 128) fun b3 H4 => alc H4 (.cells y2 128) fun b5 H6 => ∃ co7, cell H6 (.add ⟨b3, 0, none⟩ 0) = some (.int .i64 co7) ∧ ∃ co8, cell H6 (.add ⟨b5, 0, none⟩ 0) = some (.int .i64 co8) ∧ R (.int .i64 (wrap .i64 (co7 - co8))) H6
def Try.p90 : Plan := (tl (tl leaf))
theorem Try.s90 {x1 y2 : AV} {H R} (h : Try.S90 x1 y2 H R) : Try.C 90 #[.agg x1, .agg y2] H R := vcs Try.tab_ok Try.mixed Try.func90 Try.cal90 Try.p90 h (by kernel_rfl)
def Try.S91 (s1 : Int) (H : Heap) (R : Kv) : Prop :=
 br (decide (s1 < 265))
 (R (.int .i64 0) H)
 ((4 : Int) ≠ 0 ∧ R (.int .i64 (wrap .i64 (Int.tdiv (wrap .i64 (s1 - 261)) 4))) H)
def Try.p91 : Plan := (tl (tg (tl leaf)))
theorem Try.s91 {s1 : Int} {H R} (h : Try.S91 s1 H R) : Try.C 91 #[.int .i64 s1] H R := vcs Try.tab_ok Try.mixed Try.func91 Try.cal91 Try.p91 h (by kernel_rfl)
def Try.S92 (s1 : Int) (H : Heap) (R : Kv) : Prop :=
 br (decide (s1 < 4))
 (R (.int .i64 0) H)
 ((2 : Int) ≠ 0 ∧ R (.int .i64 (wrap .i64 (Int.tdiv (wrap .i64 (s1 - 2)) 2))) H)
def Try.p92 : Plan := (tl (tg (tl leaf)))
theorem Try.s92 {s1 : Int} {H R} (h : Try.S92 s1 H R) : Try.C 92 #[.int .i64 s1] H R := vcs Try.tab_ok Try.mixed Try.func92 Try.cal92 Try.p92 h (by kernel_rfl)
def Try.S93 (da1p : OA) (da1l da1c : Nat) (a2 b3 : Int) (cm4g : Nat) (cm4x cm4y : AV) (H : Heap) (R : Kv) : Prop :=
 ∀ X5 : Kl, (∀ (i6 : Int) H7, (br (decide (i6 < b3))
 (∀ X8 : Kl, (∀ (j9 : Int) H10, (∀ J11 : Kl, (∀ H12, (∃ a13, da1p = some a13 ∧ 0 ≤ (wrap .i64 (j9 - 1)) ∧ (wrap .i64 (j9 - 1)) < (da1l : Int) ∧ ∃ v14, v14.size = 2 ∧ rowIn H12 (.add a13 (toNat (wrap .i64 (j9 - 1)) * 2)) v14 ∧ ∃ a15, da1p = some a15 ∧ 0 ≤ j9 ∧ j9 < (da1l : Int) ∧ ∃ v16, v16.size = 2 ∧ rowIn H12 (.add a15 (toNat j9 * 2)) v16 ∧ ∃ a17, da1p = some a17 ∧ 0 ≤ j9 ∧ j9 < (da1l : Int) ∧ v14.size = 2 ∧ stAt H12 (.add a17 (toNat j9 * 2)) v14.toList fun H18 => ∃ a19, da1p = some a19 ∧ 0 ≤ (wrap .i64 (j9 - 1)) ∧ (wrap .i64 (j9 - 1)) < (da1l : Int) ∧ v16.size = 2 ∧ stAt H18 (.add a19 (toNat (wrap .i64 (j9 - 1)) * 2)) v16.toList fun H20 => X8 [.int .i64 (wrap .i64 (j9 - 1))] H20) → J11 [] H12) →
 br (decide (j9 > a2)) (∃ a21, da1p = some a21 ∧ 0 ≤ j9 ∧ j9 < (da1l : Int) ∧ ∃ v22, v22.size = 2 ∧ rowIn H10 (.add a21 (toNat j9 * 2)) v22 ∧ ∃ a23, da1p = some a23 ∧ 0 ≤ (wrap .i64 (j9 - 1)) ∧ (wrap .i64 (j9 - 1)) < (da1l : Int) ∧ ∃ v24, v24.size = 2 ∧ rowIn H10 (.add a23 (toNat (wrap .i64 (j9 - 1)) * 2)) v24 ∧ Try.C cm4g (List.toArray (Array.toList cm4x ++ [Value.agg v22, Value.agg v24] ++ Array.toList cm4y)) H10 fun r25 H26 => ∃ r27, r25 = .int .i64 r27 ∧ br (decide (r27 < 0))
 (J11 [] H26)
 (X5 [.int .i64 (wrap .i64 (i6 + 1))] H26)) (X5 [.int .i64 (wrap .i64 (i6 + 1))] H10)) → X8 [.int .i64 j9] H10) → X8 [.int .i64 i6] H7)
 (R (.tuple #[]) H7)) → X5 [.int .i64 i6] H7) → X5 [.int .i64 (wrap .i64 (a2 + 1))] H
def Try.p93 : Plan := (tl (one (loop [(8, 3)] [0, 1, 2, 3] (two (tl (tl leaf)) (two (one (tl (one (loop [(9, 3)] [0, 1, 2, 3, 8] (two (join [] [0, 1, 2, 3, 8, 9] (tl (tl leaf))) (two (one leaf) leaf)))))) leaf)))))
theorem Try.s93 {da1p : OA} {da1l da1c : Nat} {a2 b3 : Int} {cm4g : Nat} {cm4x cm4y : AV} {H R} (h : Try.S93 da1p da1l da1c a2 b3 cm4g cm4x cm4y H R) : Try.C 93 #[.slice da1p da1l da1c, .int .i64 a2, .int .i64 b3, .func (.func cm4g) cm4x cm4y] H R := vcs Try.tab_ok Try.mixed Try.func93 Try.cal93 Try.p93 h (by kernel_rfl)
def Try.S94 (da1p : OA) (da1l da1c : Nat) (a2 m3 b4 : Int) (cm5g : Nat) (cm5x cm5y : AV) (H : Heap) (R : Kv) : Prop :=
 br (((wrap .i64 (m3 - a2)) : Int) == 1)
 (∀ X6 : Kl, (∀ (i7 j8 : Int) H9, (br (decide (i7 < j8))
 (0 ≤ (1 : Int) ∧ ∃ a10, da1p = some a10 ∧ 0 ≤ (wrap .i64 (shrI .u64 (wrap .u64 (wrap .i64 (i7 + j8))) 1)) ∧ (wrap .i64 (shrI .u64 (wrap .u64 (wrap .i64 (i7 + j8))) 1)) < (da1l : Int) ∧ ∃ v11, v11.size = 2 ∧ rowIn H9 (.add a10 (toNat (wrap .i64 (shrI .u64 (wrap .u64 (wrap .i64 (i7 + j8))) 1)) * 2)) v11 ∧ ∃ a12, da1p = some a12 ∧ 0 ≤ a2 ∧ a2 < (da1l : Int) ∧ ∃ v13, v13.size = 2 ∧ rowIn H9 (.add a12 (toNat a2 * 2)) v13 ∧ Try.C cm5g (List.toArray (Array.toList cm5x ++ [Value.agg v11, Value.agg v13] ++ Array.toList cm5y)) H9 fun r14 H15 => ∃ r16, r14 = .int .i64 r16 ∧ br (decide (r16 < 0))
 (X6 [.int .i64 (wrap .i64 ((wrap .i64 (shrI .u64 (wrap .u64 (wrap .i64 (i7 + j8))) 1)) + 1)), .int .i64 j8] H15)
 (X6 [.int .i64 i7, .int .i64 (wrap .i64 (shrI .u64 (wrap .u64 (wrap .i64 (i7 + j8))) 1))] H15))
 (∀ X17 : Kl, (∀ (k18 : Int) H19, (br (decide (k18 < (wrap .i64 (i7 - 1))))
 (∃ a20, da1p = some a20 ∧ 0 ≤ (wrap .i64 (k18 + 1)) ∧ (wrap .i64 (k18 + 1)) < (da1l : Int) ∧ ∃ v21, v21.size = 2 ∧ rowIn H19 (.add a20 (toNat (wrap .i64 (k18 + 1)) * 2)) v21 ∧ ∃ a22, da1p = some a22 ∧ 0 ≤ k18 ∧ k18 < (da1l : Int) ∧ ∃ v23, v23.size = 2 ∧ rowIn H19 (.add a22 (toNat k18 * 2)) v23 ∧ ∃ a24, da1p = some a24 ∧ 0 ≤ k18 ∧ k18 < (da1l : Int) ∧ v21.size = 2 ∧ stAt H19 (.add a24 (toNat k18 * 2)) v21.toList fun H25 => ∃ a26, da1p = some a26 ∧ 0 ≤ (wrap .i64 (k18 + 1)) ∧ (wrap .i64 (k18 + 1)) < (da1l : Int) ∧ v23.size = 2 ∧ stAt H25 (.add a26 (toNat (wrap .i64 (k18 + 1)) * 2)) v23.toList fun H27 => X17 [.int .i64 (wrap .i64 (k18 + 1))] H27)
 (R (.tuple #[]) H19)) → X17 [.int .i64 k18] H19) → X17 [.int .i64 a2] H9)) → X6 [.int .i64 i7, .int .i64 j8] H9) → X6 [.int .i64 m3, .int .i64 b4] H)
 (br (((wrap .i64 (b4 - m3)) : Int) == 1)
 (∀ X28 : Kl, (∀ (i29 j30 : Int) H31, (br (decide (i29 < j30))
 (0 ≤ (1 : Int) ∧ ∃ a32, da1p = some a32 ∧ 0 ≤ m3 ∧ m3 < (da1l : Int) ∧ ∃ v33, v33.size = 2 ∧ rowIn H31 (.add a32 (toNat m3 * 2)) v33 ∧ ∃ a34, da1p = some a34 ∧ 0 ≤ (wrap .i64 (shrI .u64 (wrap .u64 (wrap .i64 (i29 + j30))) 1)) ∧ (wrap .i64 (shrI .u64 (wrap .u64 (wrap .i64 (i29 + j30))) 1)) < (da1l : Int) ∧ ∃ v35, v35.size = 2 ∧ rowIn H31 (.add a34 (toNat (wrap .i64 (shrI .u64 (wrap .u64 (wrap .i64 (i29 + j30))) 1)) * 2)) v35 ∧ Try.C cm5g (List.toArray (Array.toList cm5x ++ [Value.agg v33, Value.agg v35] ++ Array.toList cm5y)) H31 fun r36 H37 => ∃ r38, r36 = .int .i64 r38 ∧ br (!(decide (r38 < 0)))
 (X28 [.int .i64 (wrap .i64 ((wrap .i64 (shrI .u64 (wrap .u64 (wrap .i64 (i29 + j30))) 1)) + 1)), .int .i64 j30] H37)
 (X28 [.int .i64 i29, .int .i64 (wrap .i64 (shrI .u64 (wrap .u64 (wrap .i64 (i29 + j30))) 1))] H37))
 (∀ X39 : Kl, (∀ (k40 : Int) H41, (br (decide (k40 > i29))
 (∃ a42, da1p = some a42 ∧ 0 ≤ (wrap .i64 (k40 - 1)) ∧ (wrap .i64 (k40 - 1)) < (da1l : Int) ∧ ∃ v43, v43.size = 2 ∧ rowIn H41 (.add a42 (toNat (wrap .i64 (k40 - 1)) * 2)) v43 ∧ ∃ a44, da1p = some a44 ∧ 0 ≤ k40 ∧ k40 < (da1l : Int) ∧ ∃ v45, v45.size = 2 ∧ rowIn H41 (.add a44 (toNat k40 * 2)) v45 ∧ ∃ a46, da1p = some a46 ∧ 0 ≤ k40 ∧ k40 < (da1l : Int) ∧ v43.size = 2 ∧ stAt H41 (.add a46 (toNat k40 * 2)) v43.toList fun H47 => ∃ a48, da1p = some a48 ∧ 0 ≤ (wrap .i64 (k40 - 1)) ∧ (wrap .i64 (k40 - 1)) < (da1l : Int) ∧ v45.size = 2 ∧ stAt H47 (.add a48 (toNat (wrap .i64 (k40 - 1)) * 2)) v45.toList fun H49 => X39 [.int .i64 (wrap .i64 (k40 - 1))] H49)
 (R (.tuple #[]) H41)) → X39 [.int .i64 k40] H41) → X39 [.int .i64 m3] H31)) → X28 [.int .i64 i29, .int .i64 j30] H31) → X28 [.int .i64 a2, .int .i64 m3] H)
 (0 ≤ (1 : Int) ∧ ∀ J50 : Kl, (∀ (st51 r52 : Int) H53, (∀ X54 : Kl, (∀ (st55 r56 : Int) H57, (br (decide (st55 < r56))
 (0 ≤ (1 : Int) ∧ ∃ a58, da1p = some a58 ∧ 0 ≤ (wrap .i64 ((wrap .i64 ((wrap .i64 ((wrap .i64 (shrI .u64 (wrap .u64 (wrap .i64 (a2 + b4))) 1)) + m3)) - 1)) - (wrap .i64 (shrI .u64 (wrap .u64 (wrap .i64 (st55 + r56))) 1)))) ∧ (wrap .i64 ((wrap .i64 ((wrap .i64 ((wrap .i64 (shrI .u64 (wrap .u64 (wrap .i64 (a2 + b4))) 1)) + m3)) - 1)) - (wrap .i64 (shrI .u64 (wrap .u64 (wrap .i64 (st55 + r56))) 1)))) < (da1l : Int) ∧ ∃ v59, v59.size = 2 ∧ rowIn H57 (.add a58 (toNat (wrap .i64 ((wrap .i64 ((wrap .i64 ((wrap .i64 (shrI .u64 (wrap .u64 (wrap .i64 (a2 + b4))) 1)) + m3)) - 1)) - (wrap .i64 (shrI .u64 (wrap .u64 (wrap .i64 (st55 + r56))) 1)))) * 2)) v59 ∧ ∃ a60, da1p = some a60 ∧ 0 ≤ (wrap .i64 (shrI .u64 (wrap .u64 (wrap .i64 (st55 + r56))) 1)) ∧ (wrap .i64 (shrI .u64 (wrap .u64 (wrap .i64 (st55 + r56))) 1)) < (da1l : Int) ∧ ∃ v61, v61.size = 2 ∧ rowIn H57 (.add a60 (toNat (wrap .i64 (shrI .u64 (wrap .u64 (wrap .i64 (st55 + r56))) 1)) * 2)) v61 ∧ Try.C cm5g (List.toArray (Array.toList cm5x ++ [Value.agg v59, Value.agg v61] ++ Array.toList cm5y)) H57 fun r62 H63 => ∃ r64, r62 = .int .i64 r64 ∧ br (!(decide (r64 < 0)))
 (X54 [.int .i64 (wrap .i64 ((wrap .i64 (shrI .u64 (wrap .u64 (wrap .i64 (st55 + r56))) 1)) + 1)), .int .i64 r56] H63)
 (X54 [.int .i64 st55, .int .i64 (wrap .i64 (shrI .u64 (wrap .u64 (wrap .i64 (st55 + r56))) 1))] H63))
 (∀ J65 : Kl, (∀ H66, (∀ J67 : Kl, (∀ H68, (br (decide (((wrap .i64 (shrI .u64 (wrap .u64 (wrap .i64 (a2 + b4))) 1)) : Int) < (wrap .i64 ((wrap .i64 ((wrap .i64 (shrI .u64 (wrap .u64 (wrap .i64 (a2 + b4))) 1)) + m3)) - st55)))) (br (decide (((wrap .i64 ((wrap .i64 ((wrap .i64 (shrI .u64 (wrap .u64 (wrap .i64 (a2 + b4))) 1)) + m3)) - st55)) : Int) < b4))
 (Try.C 94 #[.slice da1p da1l da1c, .int .i64 (wrap .i64 (shrI .u64 (wrap .u64 (wrap .i64 (a2 + b4))) 1)), .int .i64 (wrap .i64 ((wrap .i64 ((wrap .i64 (shrI .u64 (wrap .u64 (wrap .i64 (a2 + b4))) 1)) + m3)) - st55)), .int .i64 b4, .func (.func cm5g) cm5x cm5y] H68 fun r69 H70 => r69 = .tuple #[] ∧ R (.tuple #[]) H70)
 (R (.tuple #[]) H68)) (R (.tuple #[]) H68)) → J67 [] H68) →
 br (decide (a2 < st55)) (br (decide (st55 < (wrap .i64 (shrI .u64 (wrap .u64 (wrap .i64 (a2 + b4))) 1))))
 (Try.C 94 #[.slice da1p da1l da1c, .int .i64 a2, .int .i64 st55, .int .i64 (wrap .i64 (shrI .u64 (wrap .u64 (wrap .i64 (a2 + b4))) 1)), .func (.func cm5g) cm5x cm5y] H66 fun r71 H72 => r71 = .tuple #[] ∧ J67 [] H72)
 (J67 [] H66)) (J67 [] H66)) → J65 [] H66) →
 br (decide (st55 < m3)) (br (decide (m3 < (wrap .i64 ((wrap .i64 ((wrap .i64 (shrI .u64 (wrap .u64 (wrap .i64 (a2 + b4))) 1)) + m3)) - st55))))
 (Try.C 96 #[.slice da1p da1l da1c, .int .i64 st55, .int .i64 m3, .int .i64 (wrap .i64 ((wrap .i64 ((wrap .i64 (shrI .u64 (wrap .u64 (wrap .i64 (a2 + b4))) 1)) + m3)) - st55)), .func (.func cm5g) cm5x cm5y] H57 fun r73 H74 => r73 = .tuple #[] ∧ J65 [] H74)
 (J65 [] H57)) (J65 [] H57))) → X54 [.int .i64 st55, .int .i64 r56] H57) → X54 [.int .i64 st51, .int .i64 r52] H53) → J50 [.int .i64 st51, .int .i64 r52] H53) →
 br (decide (m3 > (wrap .i64 (shrI .u64 (wrap .u64 (wrap .i64 (a2 + b4))) 1))))
 (J50 [.int .i64 (wrap .i64 ((wrap .i64 ((wrap .i64 (shrI .u64 (wrap .u64 (wrap .i64 (a2 + b4))) 1)) + m3)) - b4)), .int .i64 (wrap .i64 (shrI .u64 (wrap .u64 (wrap .i64 (a2 + b4))) 1))] H)
 (J50 [.int .i64 a2, .int .i64 m3] H)))
def Try.p94 : Plan := (two (tl (two (tl (tl (two (one (loop [(10, 3), (11, 3)] [0, 1, 4] (two (tl (tl leaf)) (one (tl (tl (tl leaf))))))) (two (tl (one (loop [(13, 3)] [0, 10] (two (tl (tl leaf)) (two (one leaf) leaf))))) leaf)))) leaf)) (two (tl (two (tl (tl (two (one (loop [(14, 3), (15, 3)] [0, 2, 4] (two (tl (tl leaf)) (one (tl (tl (tl leaf))))))) (two (tl (one (loop [(17, 3)] [0, 14] (two (tl (tl leaf)) (two (one leaf) leaf))))) leaf)))) leaf)) (tl (tl (tl (two (join [(20, 3), (21, 3)] [0, 1, 2, 3, 4, 18, 19] (tl (two (tl leaf) (tl leaf)))) (tl (two (one (loop [(20, 3), (21, 3)] [0, 1, 2, 3, 4, 18, 19, 22] (two (tl (tl leaf)) (one (tl (tl (tl leaf))))))) (tl (two (join [] [0, 1, 3, 4, 18, 20, 24] (tl (tl leaf))) (two (join [] [0, 3, 4, 18, 24] (tl (tl leaf))) (tl (tl leaf)))))))))))))
theorem Try.s94 {da1p : OA} {da1l da1c : Nat} {a2 m3 b4 : Int} {cm5g : Nat} {cm5x cm5y : AV} {H R} (h : Try.S94 da1p da1l da1c a2 m3 b4 cm5g cm5x cm5y H R) : Try.C 94 #[.slice da1p da1l da1c, .int .i64 a2, .int .i64 m3, .int .i64 b4, .func (.func cm5g) cm5x cm5y] H R := vcs Try.tab_ok Try.mixed Try.func94 Try.cal94 Try.p94 h (by kernel_rfl)
def Try.S95 (s1p : OA) (s1l s1c : Nat) (n2 : Int) (H : Heap) (R : Kv) : Prop :=
 ∀ J3 : Kl, (∀ H4, (br (decide (((wrap .i64 (n2 - (wrap .i64 ((s1c : Int) - (s1l : Int))))) : Int) > 0))
 (0 ≤ (s1c : Int) ∧ (s1c : Int) ≤ (s1c : Int) ∧ appZ 2 32 #[.int .i64 0, .slice none 0 0] H4 (if s1c = 0 then s1p else Option.map (fun x => Addr.add x (0 * 2)) s1p) ((toNat (s1c : Int)) - 0) (s1c - 0) (wrap .i64 (n2 - (wrap .i64 ((s1c : Int) - (s1l : Int))))) 128 fun ap5p ap5l ap5c H6 => 0 ≤ (s1l : Int) ∧ (s1l : Int) ≤ (ap5c : Int) ∧ R (.slice (if ap5c = 0 then ap5p else Option.map (fun x => Addr.add x (0 * 2)) ap5p) ((toNat (s1l : Int)) - 0) (ap5c - 0)) H6)
 (R (.slice s1p s1l s1c) H4)) → J3 [] H4) →
 br (decide (n2 < 0))
 (False)
 (J3 [] H)
def Try.p95 : Plan := (tl (two (join [] [0, 1] (tl (tl leaf))) (two (tl (tl (tl leaf))) (tl leaf))))
theorem Try.s95 {s1p : OA} {s1l s1c : Nat} {n2 : Int} {H R} (h : Try.S95 s1p s1l s1c n2 H R) : Try.C 95 #[.slice s1p s1l s1c, .int .i64 n2] H R := vcs Try.tab_ok Try.mixed Try.func95 Try.cal95 Try.p95 h (by kernel_rfl)
def Try.S96 (da1p : OA) (da1l da1c : Nat) (a2 m3 b4 : Int) (cm5g : Nat) (cm5x cm5y : AV) (H : Heap) (R : Kv) : Prop :=
 ∀ X6 : Kl, (∀ (i7 j8 : Int) H9, (br (i7 != j8)
 (br (decide (i7 > j8))
 (Try.C 97 #[.slice da1p da1l da1c, .int .i64 (wrap .i64 (m3 - i7)), .int .i64 m3, .int .i64 j8, .func (.func cm5g) cm5x cm5y] H9 fun r10 H11 => r10 = .tuple #[] ∧ X6 [.int .i64 (wrap .i64 (i7 - j8)), .int .i64 j8] H11)
 (Try.C 97 #[.slice da1p da1l da1c, .int .i64 (wrap .i64 (m3 - i7)), .int .i64 (wrap .i64 ((wrap .i64 (m3 + j8)) - i7)), .int .i64 i7, .func (.func cm5g) cm5x cm5y] H9 fun r12 H13 => r12 = .tuple #[] ∧ X6 [.int .i64 i7, .int .i64 (wrap .i64 (j8 - i7))] H13))
 (Try.C 97 #[.slice da1p da1l da1c, .int .i64 (wrap .i64 (m3 - i7)), .int .i64 m3, .int .i64 i7, .func (.func cm5g) cm5x cm5y] H9 fun r14 H15 => r14 = .tuple #[] ∧ R (.tuple #[]) H15)) → X6 [.int .i64 i7, .int .i64 j8] H9) → X6 [.int .i64 (wrap .i64 (m3 - a2)), .int .i64 (wrap .i64 (b4 - m3))] H
def Try.p96 : Plan := (tl (tl (two (one (loop [(10, 3), (11, 3)] [0, 2, 4] (two (tl (tl leaf)) (one (tl (two (tl leaf) (tl leaf))))))) leaf)))
theorem Try.s96 {da1p : OA} {da1l da1c : Nat} {a2 m3 b4 : Int} {cm5g : Nat} {cm5x cm5y : AV} {H R} (h : Try.S96 da1p da1l da1c a2 m3 b4 cm5g cm5x cm5y H R) : Try.C 96 #[.slice da1p da1l da1c, .int .i64 a2, .int .i64 m3, .int .i64 b4, .func (.func cm5g) cm5x cm5y] H R := vcs Try.tab_ok Try.mixed Try.func96 Try.cal96 Try.p96 h (by kernel_rfl)
def Try.S97 (da1p : OA) (da1l da1c : Nat) (a2 b3 n4 : Int) (cm5g : Nat) (cm5x cm5y : AV) (H : Heap) (R : Kv) : Prop :=
 ∀ X6 : Kl, (∀ (i7 : Int) H8, (br (decide (i7 < n4))
 (∃ a9, da1p = some a9 ∧ 0 ≤ (wrap .i64 (b3 + i7)) ∧ (wrap .i64 (b3 + i7)) < (da1l : Int) ∧ ∃ v10, v10.size = 2 ∧ rowIn H8 (.add a9 (toNat (wrap .i64 (b3 + i7)) * 2)) v10 ∧ ∃ a11, da1p = some a11 ∧ 0 ≤ (wrap .i64 (a2 + i7)) ∧ (wrap .i64 (a2 + i7)) < (da1l : Int) ∧ ∃ v12, v12.size = 2 ∧ rowIn H8 (.add a11 (toNat (wrap .i64 (a2 + i7)) * 2)) v12 ∧ ∃ a13, da1p = some a13 ∧ 0 ≤ (wrap .i64 (a2 + i7)) ∧ (wrap .i64 (a2 + i7)) < (da1l : Int) ∧ v10.size = 2 ∧ stAt H8 (.add a13 (toNat (wrap .i64 (a2 + i7)) * 2)) v10.toList fun H14 => ∃ a15, da1p = some a15 ∧ 0 ≤ (wrap .i64 (b3 + i7)) ∧ (wrap .i64 (b3 + i7)) < (da1l : Int) ∧ v12.size = 2 ∧ stAt H14 (.add a15 (toNat (wrap .i64 (b3 + i7)) * 2)) v12.toList fun H16 => X6 [.int .i64 (wrap .i64 (i7 + 1))] H16)
 (R (.tuple #[]) H8)) → X6 [.int .i64 i7] H8) → X6 [.int .i64 0] H
def Try.p97 : Plan := (tl (one (loop [(10, 3)] [0, 1, 2, 3] (two (tl (tl leaf)) (two (one leaf) leaf)))))
theorem Try.s97 {da1p : OA} {da1l da1c : Nat} {a2 b3 n4 : Int} {cm5g : Nat} {cm5x cm5y : AV} {H R} (h : Try.S97 da1p da1l da1c a2 b3 n4 cm5g cm5x cm5y H R) : Try.C 97 #[.slice da1p da1l da1c, .int .i64 a2, .int .i64 b3, .int .i64 n4, .func (.func cm5g) cm5x cm5y] H R := vcs Try.tab_ok Try.mixed Try.func97 Try.cal97 Try.p97 h (by kernel_rfl)
end Go.Proofs
namespace Go.Proofs
open Go.Sh
theorem shl64 {x k : Int} (h0 : 0 ≤ x) (h1 : x ≤ 1099511627776) (k0 : 0 ≤ k) (k1 : k ≤ 16) : shlI .i64 x k = x * 2 ^ k.toNat := by
 unfold shlI
 have hb : min k.toNat (IntKind.bits .i64) = k.toNat := by
  have : IntKind.bits .i64 = 64 := rfl
  rw [this]; omega
 rw [hb]
 have hp : (2 : Int) ^ k.toNat ≤ 65536 := by
  have h2 : 2 ^ k.toNat ≤ 2 ^ 16 := Nat.pow_le_pow_right (by omega) (by omega)
  have h3 : ((2 ^ k.toNat : Nat) : Int) = (2 : Int) ^ k.toNat := by simp
  have h4 : (2 : Nat) ^ 16 = 65536 := rfl
  omega
 have hq : (0 : Int) ≤ 2 ^ k.toNat := Int.pow_nonneg (by omega)
 have hm : x * 2 ^ k.toNat ≤ 1099511627776 * 65536 := Int.mul_le_mul h1 hp hq (by omega)
 have hm0 : 0 ≤ x * 2 ^ k.toNat := Int.mul_nonneg h0 hq
 exact wrap_id (by omega) (by omega)
theorem shr64 {x k : Int} (k0 : 0 ≤ k) (k1 : k ≤ 16) : shrI .i64 x k = x / 2 ^ k.toNat := by
 unfold shrI
 have hb : min k.toNat (IntKind.bits .i64) = k.toNat := by
  have : IntKind.bits .i64 = 64 := rfl
  rw [this]; omega
 rw [hb]
 exact Int.fdiv_eq_ediv_of_nonneg _ (Int.pow_nonneg (by omega))
def wt (n : Int) : Int := if n > 0 then 2 ^ (16 - n).toNat else 0
def wtM (ls : List Int) : Int := (ls.map wt).sum
structure OkW (ls : List Int) : Prop where
 len : ls.length ≤ 300
 rng : ∀ n ∈ ls, 0 ≤ n ∧ n ≤ 16
theorem wt_rng {n : Int} (h : 0 ≤ n ∧ n ≤ 16) : 0 ≤ wt n ∧ wt n ≤ 32768 := by
 unfold wt
 have : n = 0 ∨ n = 1 ∨ n = 2 ∨ n = 3 ∨ n = 4 ∨ n = 5 ∨ n = 6 ∨ n = 7 ∨ n = 8 ∨ n = 9 ∨ n = 10 ∨ n = 11 ∨ n = 12 ∨ n = 13 ∨ n = 14 ∨ n = 15 ∨ n = 16 := by omega
 rcases this with h | h | h | h | h | h | h | h | h | h | h | h | h | h | h | h | h <;> subst h <;> decide
theorem wt_shr {n : Int} (h : 0 < n ∧ n ≤ 16) : shrI .i64 (65536 : Int) n = wt n := by
 have : n = 1 ∨ n = 2 ∨ n = 3 ∨ n = 4 ∨ n = 5 ∨ n = 6 ∨ n = 7 ∨ n = 8 ∨ n = 9 ∨ n = 10 ∨ n = 11 ∨ n = 12 ∨ n = 13 ∨ n = 14 ∨ n = 15 ∨ n = 16 := by omega
 rcases this with h | h | h | h | h | h | h | h | h | h | h | h | h | h | h | h <;> subst h <;> decide
theorem wt_shl {n : Int} (h : 0 < n ∧ n ≤ 16) : shlI .i64 (1 : Int) (16 - n) = wt n := by
 rw [shl64 (by omega) (by omega) (by omega) (by omega)]
 unfold wt
 rw [if_pos h.1]
 omega
theorem sum_append (a b : List Int) : (a ++ b).sum = a.sum + b.sum := by
 induction a with
 | nil => simp
 | cons x r ih => simp [ih]; omega
theorem wtM_snoc (a : List Int) (n : Int) : wtM (a ++ [n]) = wtM a + wt n := by unfold wtM; rw [List.map_append, sum_append]; simp
theorem wtM_rng {ls : List Int} (h : ∀ n ∈ ls, 0 ≤ n ∧ n ≤ 16) : 0 ≤ wtM ls ∧ wtM ls ≤ 32768 * ls.length := by
 induction ls with
 | nil => simp [wtM]
 | cons n r ih =>
  have h1 := wt_rng (h n List.mem_cons_self)
  have h2 := ih fun x hx => h x (List.mem_cons_of_mem _ hx)
  unfold wtM at *
  simp only [List.map_cons, List.sum_cons, List.length_cons]
  omega
theorem c71 {H : Heap} {p : Option Addr} {l c : Nat} {ls : List Int} (h : IS H p l (ints ls)) {R : Value → Heap → Prop} (hbad : ¬ OkW ls → R (.tuple #[.int .i64 0, .bool false]) H) (hgood : OkW ls → R (.tuple #[.int .i64 (wtM ls), .bool true]) H) :
    CallsH Try.prog 71 #[.slice p l c] H R := by
  have hl : ls.length = l := by have := h.len; rw [ints_len] at this; omega
  refine Try.s71 ?_
  unfold Try.S71
  refine br_dec (fun hb => hbad fun ok => by have := ok.len; omega) (fun hb => ?_)
  intro X hX
  have loop : ∀ (m s : Nat), l - s = m → s ≤ l → (∀ n ∈ ls.take s, 0 ≤ n ∧ n ≤ 16) → X [.int .i64 (wtM (ls.take s)), .int .i64 s] H := by
    intro m
    induction m with
    | zero =>
      intro s hm hs rg
      rw [List.take_of_length_le (by omega)] at rg ⊢
      exact hX _ _ H (br_n (by omega) (hgood ⟨by omega, rg⟩))
    | succ m ih =>
      intro s hm hs rg
      have ws : IntKind.wrap .i64 ((s : Int) + 1) = ((s + 1 : Nat) : Int) := by rw [wrap_id (by omega) (by omega)]; omega
      have hsl : s < ls.length := by omega
      have hv : ls[s]? = some ls[s] := List.getElem?_eq_getElem hsl
      have htake : ls.take (s + 1) = ls.take s ++ [ls[s]] := List.take_succ_eq_append_getElem hsl
      have hmem : ls[s] ∈ ls := List.getElem_mem hsl
      have hnx := ih (s + 1) (by omega) (by omega)
      rw [htake] at hnx
      generalize ls[s] = n at hv htake hmem hnx
      obtain ⟨blk, hp, cv⟩ := h.cell (ints_get hv)
      have hw := wtM_rng rg
      have htl : (ls.take s).length ≤ 300 := by simp; omega
      refine hX _ _ H (br_y (by omega) ⟨_, hp, by omega, by omega, n, by simpa using cv, ?_⟩)
      rw [ws]
      intro J hJ
      refine br_dec (fun hn => hbad fun ok => by have := ok.rng n hmem; omega) (fun n0 => br_dec (fun hn => hbad fun ok => by have := ok.rng n hmem; omega) (fun n16 => hJ H ?_))
      have rg' : ∀ x ∈ ls.take s ++ [n], 0 ≤ x ∧ x ≤ 16 := fun x hx => by
        rcases List.mem_append.1 hx with hx | hx
        · exact rg x hx
        · rw [List.mem_singleton] at hx; subst hx; omega
      have hwn := wt_rng (n := n) (by omega)
      have hnx := hnx rg'
      rw [wtM_snoc] at hnx
      refine br_dec (fun hpos => ?_) (fun hz => ?_)
      · have w1 : IntKind.wrap .i64 ((16 : Int) - n) = 16 - n := wrap_id (by omega) (by omega)
        rw [w1, wt_shl (by omega), wrap_id (n := wtM (ls.take s) + wt n) (by omega) (by omega)]
        exact ⟨by omega, hnx⟩
      · have : wt n = 0 := by unfold wt; rw [if_neg hz]
        rw [this, Int.add_zero] at hnx
        exact hnx
  have := loop l 0 (by omega) (by omega) (fun n hn => by simp at hn)
  simpa [wtM] using this
theorem c81 {H : Heap} {p : Option Addr} {l c : Nat} {ls : List Int} (h : IS H p l (ints ls)) {R : Value → Heap → Prop} (hbad : ¬ OkW ls → R (.tuple #[.int .i64 0, .bool false]) H) (hgood : OkW ls → R (.tuple #[.int .i64 (wtM ls), .bool true]) H) :
    CallsH Try.prog 81 #[.slice p l c] H R := by
  have hl : ls.length = l := by have := h.len; rw [ints_len] at this; omega
  refine Try.s81 ?_
  unfold Try.S81
  refine br_dec (fun hb => hbad fun ok => by have := ok.len; omega) (fun hb => ?_)
  intro X hX
  have loop : ∀ (m s : Nat), l - s = m → s ≤ l → (∀ n ∈ ls.take s, 0 ≤ n ∧ n ≤ 16) → X [.int .i64 (wtM (ls.take s)), .int .i64 s] H := by
    intro m
    induction m with
    | zero =>
      intro s hm hs rg
      rw [List.take_of_length_le (by omega)] at rg ⊢
      exact hX _ _ H (br_n (by omega) (hgood ⟨by omega, rg⟩))
    | succ m ih =>
      intro s hm hs rg
      have ws : IntKind.wrap .i64 ((s : Int) + 1) = ((s + 1 : Nat) : Int) := by rw [wrap_id (by omega) (by omega)]; omega
      have hsl : s < ls.length := by omega
      have hv : ls[s]? = some ls[s] := List.getElem?_eq_getElem hsl
      have htake : ls.take (s + 1) = ls.take s ++ [ls[s]] := List.take_succ_eq_append_getElem hsl
      have hmem : ls[s] ∈ ls := List.getElem_mem hsl
      have hnx := ih (s + 1) (by omega) (by omega)
      rw [htake] at hnx
      generalize ls[s] = n at hv htake hmem hnx
      obtain ⟨blk, hp, cv⟩ := h.cell (ints_get hv)
      have hw := wtM_rng rg
      have htl : (ls.take s).length ≤ 300 := by simp; omega
      refine hX _ _ H (br_y (by omega) ?_)
      rw [ws]
      intro J hJ
      refine ⟨_, hp, by omega, by omega, n, by simpa using cv, br_dec (fun hn => hbad fun ok => by have := ok.rng n hmem; omega) (fun n0 => ⟨_, hp, by omega, by omega, n, by simpa using cv, br_dec (fun hn => hbad fun ok => by have := ok.rng n hmem; omega) (fun n16 => hJ H ?_)⟩)⟩
      have rg' : ∀ x ∈ ls.take s ++ [n], 0 ≤ x ∧ x ≤ 16 := fun x hx => by
        rcases List.mem_append.1 hx with hx | hx
        · exact rg x hx
        · rw [List.mem_singleton] at hx; subst hx; omega
      have hwn := wt_rng (n := n) (by omega)
      have hnx := hnx rg'
      rw [wtM_snoc] at hnx
      refine ⟨_, hp, by omega, by omega, n, by simpa using cv, br_dec (fun hpos => ⟨_, hp, by omega, by omega, n, by simpa using cv, by omega, ?_⟩) (fun hz => ?_)⟩
      · rw [wt_shr (by omega), wrap_id (n := wtM (ls.take s) + wt n) (by omega) (by omega)]
        exact hnx
      · have : wt n = 0 := by unfold wt; rw [if_neg hz]
        rw [this, Int.add_zero] at hnx
        exact hnx
  have := loop l 0 (by omega) (by omega) (fun n hn => by simp at hn)
  simpa [wtM] using this
def rank (ls : List Int) (s n : Nat) : Nat := (ls.take s).countP (fun x => x == (n : Int))
def cnt (ls : List Int) (n : Nat) : Nat := if n = 0 then 0 else rank ls ls.length n
def base (ls : List Int) : Nat → Int
 | 0 => 0
 | n + 1 => 2 * (base ls n + cnt ls n)
def codeM (ls : List Int) (s : Nat) : Int := match ls[s]? with
 | some n => if n > 0 then base ls n.toNat + rank ls s n.toNat else 0
 | none => 0
def codesM (ls : List Int) : List Int := (List.range ls.length).map (codeM ls)
structure OkC (ls : List Int) : Prop where
 w : OkW ls
 le : wtM ls ≤ 65536
theorem rank_le (ls : List Int) (s n : Nat) : rank ls s n ≤ ls.length := Nat.le_trans List.countP_le_length (by simp; omega)
theorem cnt_le (ls : List Int) (n : Nat) : cnt ls n ≤ ls.length := by unfold cnt; split; omega; exact rank_le _ _ _
theorem base_rng (ls : List Int) : ∀ n, 0 ≤ base ls n ∧ base ls n ≤ ls.length * (2 ^ (n + 1) - 2)
 | 0 => by simp [base]
 | n + 1 => by
  have ih := base_rng ls n
  have hc := cnt_le ls n
  have e : (2 : Int) ^ (n + 1 + 1) = 2 ^ (n + 1) * 2 := Int.pow_succ ..
  rw [e]
  show 0 ≤ 2 * (base ls n + cnt ls n) ∧ 2 * (base ls n + cnt ls n) ≤ _
  generalize (2 : Int) ^ (n + 1) = z at *
  have e2 : (ls.length : Int) * (z * 2 - 2) = 2 * (ls.length * (z - 2)) + 2 * ls.length := by
   rw [Int.mul_sub, Int.mul_sub, ← Int.mul_assoc]; omega
  rw [e2]
  omega
theorem base_small {ls : List Int} (hl : ls.length ≤ 300) {n : Nat} (hn : n ≤ 16) : 0 ≤ base ls n ∧ base ls n ≤ 40000000 := by
 have h := base_rng ls n
 have h2 : 2 ^ (n + 1) ≤ 2 ^ 17 := Nat.pow_le_pow_right (by omega) (by omega)
 have h3 : ((2 ^ (n + 1) : Nat) : Int) = (2 : Int) ^ (n + 1) := by simp
 have h4 : (2 : Nat) ^ 17 = 131072 := rfl
 have h5 : (ls.length : Int) * (2 ^ (n + 1) - 2) ≤ 300 * (2 ^ (n + 1) - 2) := Int.mul_le_mul_of_nonneg_right (by omega) (by have := Nat.one_le_two_pow (n := n); have : (2:Nat)^(n+1) = 2^n * 2 := Nat.pow_succ ..; omega)
 omega
theorem rank_snoc {ls : List Int} {s : Nat} {v : Int} (h : ls[s]? = some v) (n : Nat) : rank ls (s + 1) n = rank ls s n + if v = (n : Int) then 1 else 0 := by
 obtain ⟨hl, hv⟩ := List.getElem?_eq_some_iff.1 h
 unfold rank
 rw [List.take_succ_eq_append_getElem hl, List.countP_append, hv]
 by_cases hvn : v = (n : Int) <;> simp [hvn]
def partM (ls : List Int) (n s i : Nat) : Int := match ls[i]? with
 | some v => if v > 0 ∧ (v < n ∨ (v = n ∧ i < s)) then codeM ls i else 0
 | none => 0
def partsM (ls : List Int) (n s : Nat) : List Int := (List.range ls.length).map (partM ls n s)
theorem partsM_set {ls : List Int} {n s : Nat} {v : Int} (h : ls[s]? = some v) (hv : v = (n : Int)) (hn : 0 < n) : (partsM ls n s).set s (codeM ls s) = partsM ls n (s + 1) := by
 apply List.ext_getElem?
 intro i
 have hsl := (List.getElem?_eq_some_iff.1 h).1
 have hpl : (partsM ls n s).length = ls.length := by simp [partsM]
 rw [List.getElem?_set]
 by_cases hi : i < ls.length
 ·have e1 : (partsM ls n (s + 1))[i]? = some (partM ls n (s + 1) i) := by simp [partsM, hi]
  have e0 : (partsM ls n s)[i]? = some (partM ls n s i) := by simp [partsM, hi]
  rw [e1, e0]
  by_cases hsi : s = i
  ·subst hsi
   rw [if_pos rfl, if_pos (by omega)]
   unfold partM
   rw [h]
   simp only
   rw [if_pos ⟨by omega, by omega⟩]
  ·rw [if_neg hsi]
   unfold partM
   have hg : ls[i]? = some ls[i] := List.getElem?_eq_getElem hi
   rw [hg]
   simp only
   by_cases hc : ls[i] > 0 ∧ (ls[i] < n ∨ (ls[i] = n ∧ i < s))
   ·rw [if_pos hc, if_pos ⟨hc.1, by omega⟩]
   ·rw [if_neg hc, if_neg fun hh => hc ⟨hh.1, by omega⟩]
 ·rw [List.getElem?_eq_none_iff.2 (by simp [partsM]; omega), List.getElem?_eq_none_iff.2 (by simp [partsM]; omega), if_neg (by omega)]
theorem partsM_skip {ls : List Int} {n s : Nat} {v : Int} (h : ls[s]? = some v) (hv : v ≠ (n : Int)) : partsM ls n s = partsM ls n (s + 1) := by
 apply List.map_congr_left
 intro i hi
 unfold partM
 have hil : i < ls.length := List.mem_range.1 hi
 have hg : ls[i]? = some ls[i] := List.getElem?_eq_getElem hil
 rw [hg]
 simp only
 by_cases hsi : i = s
 ·subst hsi
  rw [hg] at h; cases h
  by_cases hc : ls[i] > 0 ∧ (ls[i] < n ∨ (ls[i] = n ∧ i < i))
  ·rw [if_pos hc, if_pos ⟨hc.1, by omega⟩]
  ·rw [if_neg hc, if_neg fun hh => hc ⟨hh.1, by omega⟩]
 ·by_cases hc : ls[i] > 0 ∧ (ls[i] < n ∨ (ls[i] = n ∧ i < s))
  ·rw [if_pos hc, if_pos ⟨hc.1, by omega⟩]
  ·rw [if_neg hc, if_neg fun hh => hc ⟨hh.1, by omega⟩]
theorem partsM_next (ls : List Int) (n : Nat) : partsM ls n ls.length = partsM ls (n + 1) 0 := by
 apply List.map_congr_left
 intro i hi
 unfold partM
 have hil : i < ls.length := List.mem_range.1 hi
 have hg : ls[i]? = some ls[i] := List.getElem?_eq_getElem hil
 rw [hg]
 simp only
 by_cases hc : ls[i] > 0 ∧ (ls[i] < n ∨ (ls[i] = n ∧ i < ls.length))
 ·rw [if_pos hc, if_pos ⟨hc.1, by omega⟩]
 ·rw [if_neg hc, if_neg fun hh => hc ⟨hh.1, by omega⟩]
theorem partsM_first (ls : List Int) : partsM ls 1 0 = List.replicate ls.length 0 := by
 apply List.ext_getElem?
 intro i
 by_cases hi : i < ls.length
 ·simp only [partsM, List.getElem?_map, List.getElem?_range hi, Option.map_some, List.getElem?_replicate, if_pos hi]
  unfold partM
  have hg : ls[i]? = some ls[i] := List.getElem?_eq_getElem hi
  rw [hg]
  simp only
  rw [if_neg (by omega)]
 ·rw [List.getElem?_eq_none_iff.2 (by simp [partsM]; omega), List.getElem?_eq_none_iff.2 (by simp; omega)]
theorem partsM_last {ls : List Int} (h : ∀ n ∈ ls, 0 ≤ n ∧ n ≤ 16) : partsM ls 17 0 = codesM ls := by
 apply List.map_congr_left
 intro i hi
 have hil : i < ls.length := List.mem_range.1 hi
 have hg : ls[i]? = some ls[i] := List.getElem?_eq_getElem hil
 have hr := h _ (List.getElem_mem hil)
 unfold partM
 rw [hg]
 simp only
 by_cases hp : ls[i] > 0
 ·rw [if_pos ⟨hp, by omega⟩]
 ·rw [if_neg (fun hh => hp hh.1)]
  unfold codeM
  rw [hg]
  simp only
  rw [if_neg hp]
set_option maxHeartbeats 1000000 in
theorem c47 {H : Heap} {p : Option Addr} {l c : Nat} {ls : List Int} (h : IS H p l (ints ls)) {R : Value → Heap → Prop} (hbad : ¬ OkC ls → R (.tuple #[.slice none 0 0, .bool false]) H)
    (hgood : OkC ls → ∀ H' b, FS H.size H' (some ⟨b, 0, none⟩) l l 3 1 (ints (codesM ls)) → Ext H H' → R (.tuple #[.slice (some ⟨b, 0, none⟩) l l, .bool true]) H') : CallsH Try.prog 47 #[.slice p l c] H R := by
  have hl : ls.length = l := by have := h.len; rw [ints_len] at this; omega
  refine Try.s47 ?_
  unfold Try.S47 alc
  refine c71 h (fun hn => ⟨_, _, rfl, fun J hJ => br_t rfl (hbad fun ok => hn ok.w)⟩) (fun okw => ⟨_, _, rfl, ?_⟩)
  intro J hJ
  refine br_f rfl (br_dec (fun hgt => hbad fun ok => by have := ok.le; omega) (fun hle => hJ H ?_))
  have ok : OkC ls := ⟨okw, by omega⟩
  have l300 := okw.len
  rw [Int.toNat_natCast]
  refine ⟨by omega, by omega, by omega, by omega, ?_⟩
  have hb2 := get_push_self H (.cells (List.toArray (reps l [Value.int .i64 0])) 3)
  have e2 : Ext H (H.push (.cells (List.toArray (reps l [Value.int .i64 0])) 3)) := Ext.push _ _
  have out2 : FS H.size (H.push (.cells (List.toArray (reps l [Value.int .i64 0])) 3)) (some ⟨H.size, 0, none⟩) l l 3 1 (ints (partsM ls 1 0)) := by
    rw [partsM_first, hl]; exact zeros_FS (Nat.le_refl _) hb2
  generalize H.push (.cells (List.toArray (reps l [Value.int .i64 0])) 3) = H2 at e2 out2
  intro X hX
  have one : (0 : Int) ≤ 1 := by omega
  have levels : ∀ (m n : Nat) (H3 : Heap), 17 - n = m → 1 ≤ n → n ≤ 17 → Ext H H3 → FS H.size H3 (some ⟨H.size, 0, none⟩) l l 3 1 (ints (partsM ls n 0)) → X [.int .i64 (base ls (n - 1) + cnt ls (n - 1)), .int .i64 n] H3 := by
    intro m
    induction m with
    | zero =>
      intro n H3 hm hn1 hn e3 f3
      have : n = 17 := by omega
      subst this
      rw [partsM_last okw.rng] at f3
      exact hX _ _ H3 (br_n (by omega) (hgood ok H3 H.size f3 e3))
    | succ m ih =>
      intro n H3 hm hn1 hn e3 f3
      have wn : IntKind.wrap .i64 ((n : Int) + 1) = ((n + 1 : Nat) : Int) := by rw [wrap_id (by omega) (by omega)]; omega
      have hbs := base_small l300 (n := n - 1) (by omega)
      have hcs := cnt_le ls (n - 1)
      have hbn : shlI .i64 (base ls (n - 1) + cnt ls (n - 1)) (1 : Int) = base ls n := by
        rw [shl64 (by omega) (by omega) (by omega) (by omega)]
        have : n = n - 1 + 1 := by omega
        rw [this]
        show _ = 2 * (base ls (n - 1) + cnt ls (n - 1))
        simp; omega
      refine hX _ _ H3 (br_y (by omega) ⟨one, ?_⟩)
      rw [hbn, wn]
      intro Y hY
      have inner : ∀ (m2 s : Nat) (H4 : Heap), l - s = m2 → s ≤ l → Ext H H4 → FS H.size H4 (some ⟨H.size, 0, none⟩) l l 3 1 (ints (partsM ls n s)) → Y [.int .i64 (base ls n + rank ls s n), .int .i64 s] H4 := by
        intro m2
        induction m2 with
        | zero =>
          intro s H4 hm2 hs e4 f4
          have : s = ls.length := by omega
          subst this
          refine hY _ _ H4 (br_n (by omega) ?_)
          rw [partsM_next] at f4
          have := ih (n + 1) H4 (by omega) (by omega) (by omega) e4 f4
          have hc : cnt ls (n + 1 - 1) = rank ls ls.length n := by rw [Nat.add_sub_cancel]; unfold cnt; rw [if_neg (by omega)]
          rw [hc, Nat.add_sub_cancel] at this
          exact this
        | succ m2 ih2 =>
          intro s H4 hm2 hs e4 f4
          have ws : IntKind.wrap .i64 ((s : Int) + 1) = ((s + 1 : Nat) : Int) := by rw [wrap_id (by omega) (by omega)]; omega
          have hsl : s < ls.length := by omega
          have hv : ls[s]? = some ls[s] := List.getElem?_eq_getElem hsl
          generalize ls[s] = v at hv
          obtain ⟨blk, hp, cv⟩ := (h.ext e4).cell (ints_get hv)
          have hb := base_small l300 (n := n) (by omega)
          have hr := rank_le ls s n
          have hrs := rank_snoc hv n
          refine hY _ _ H4 (br_y (by omega) ⟨_, hp, by omega, by omega, v, by simpa using cv, br_eq (fun heq => ⟨_, rfl, by omega, by omega, ?_⟩) (fun hne => ?_)⟩)
          · rw [ws]
            simp only [add_none, Nat.zero_add, Nat.mul_one, Int.toNat_natCast]
            have hcode : base ls n + (rank ls s n : Int) = codeM ls s := by
              unfold codeM
              rw [hv]
              simp only
              rw [if_pos (by omega), heq, Int.toNat_natCast]
            have hw : IntKind.wrap .i64 (base ls n + (rank ls s n : Int) + 1) = base ls n + (rank ls (s + 1) n : Int) := by
              rw [wrap_id (by omega) (by omega), hrs, if_pos heq]; omega
            rw [hw]
            refine f4.set (by rw [ints_len]; simp [partsM]; omega) rfl fun H5 f5 hk5 hs5 => ?_
            rw [ints_set, hcode, partsM_set hv heq (by omega)] at f5
            exact ih2 (s + 1) H5 (by omega) (by omega) (fun b o hb => hk5 b o (e4 b o hb) (by have := lt_of_get hb; omega)) f5
          · rw [ws]
            rw [partsM_skip hv hne] at f4
            have := ih2 (s + 1) H4 (by omega) (by omega) e4 f4
            rw [hrs, if_neg hne, Nat.add_zero] at this
            exact this
      have := inner l 0 H3 (by omega) (by omega) e3 f3
      simpa [rank] using this
  have := levels 16 1 H2 rfl (by omega) (by omega) e2 out2
  simpa [base, cnt] using this
set_option maxHeartbeats 1000000 in
theorem c82 {H : Heap} {p : Option Addr} {l c : Nat} {ls : List Int} (h : IS H p l (ints ls)) {R : Value → Heap → Prop} (hbad : ¬ OkC ls → R (.tuple #[.slice none 0 0, .bool false]) H)
    (hgood : OkC ls → ∀ H' b, FS H.size H' (some ⟨b, 0, none⟩) l l 3 1 (ints (codesM ls)) → Ext H H' → R (.tuple #[.slice (some ⟨b, 0, none⟩) l l, .bool true]) H') : CallsH Try.prog 82 #[.slice p l c] H R := by
  have hl : ls.length = l := by have := h.len; rw [ints_len] at this; omega
  refine Try.s82 ?_
  unfold Try.S82 alc
  refine c81 h (fun hn => ⟨_, _, rfl, fun J hJ => br_t rfl (hbad fun ok => hn ok.w)⟩) (fun okw => ⟨_, _, rfl, ?_⟩)
  intro J hJ
  refine br_f rfl (br_dec (fun hgt => hbad fun ok => by have := ok.le; omega) (fun hle => hJ H ?_))
  have ok : OkC ls := ⟨okw, by omega⟩
  have l300 := okw.len
  rw [Int.toNat_natCast]
  refine ⟨by omega, by omega, by omega, by omega, ?_⟩
  have hb2 := get_push_self H (.cells (List.toArray (reps l [Value.int .i64 0])) 3)
  have e2 : Ext H (H.push (.cells (List.toArray (reps l [Value.int .i64 0])) 3)) := Ext.push _ _
  have out2 : FS H.size (H.push (.cells (List.toArray (reps l [Value.int .i64 0])) 3)) (some ⟨H.size, 0, none⟩) l l 3 1 (ints (partsM ls 1 0)) := by
    rw [partsM_first, hl]; exact zeros_FS (Nat.le_refl _) hb2
  generalize H.push (.cells (List.toArray (reps l [Value.int .i64 0])) 3) = H2 at e2 out2
  intro X hX
  -- the code given last, and its length
  let Inv : Nat → Nat → Int → Nat → Prop := fun n s code last => (last = 0 ∧ code = 0 ∧ base ls n + rank ls s n = 0) ∨ (1 ≤ last ∧ last ≤ n ∧ 0 ≤ code ∧ (code + 1) * 2 ^ (n - last) = base ls n + rank ls s n)
  have levels : ∀ (m n : Nat) (H3 : Heap) (code : Int) (last : Nat), 17 - n = m → 1 ≤ n → n ≤ 17 → Ext H H3 → FS H.size H3 (some ⟨H.size, 0, none⟩) l l 3 1 (ints (partsM ls n 0)) → Inv n 0 code last → X [.int .i64 code, .int .i64 last, .int .i64 n] H3 := by
    intro m
    induction m with
    | zero =>
      intro n H3 code last hm hn1 hn e3 f3 hi
      have : n = 17 := by omega
      subst this
      rw [partsM_last okw.rng] at f3
      exact hX _ _ _ H3 (br_n (by omega) (hgood ok H3 H.size f3 e3))
    | succ m ih =>
      intro n H3 code last hm hn1 hn e3 f3 hi
      have wn : IntKind.wrap .i64 ((n : Int) + 1) = ((n + 1 : Nat) : Int) := by rw [wrap_id (by omega) (by omega)]; omega
      have hb := base_small l300 (n := n) (by omega)
      refine hX _ _ _ H3 (br_y (by omega) ?_)
      rw [wn]
      intro Y hY
      have inner : ∀ (m2 s : Nat) (H4 : Heap) (code : Int) (last : Nat), l - s = m2 → s ≤ l → Ext H H4 → FS H.size H4 (some ⟨H.size, 0, none⟩) l l 3 1 (ints (partsM ls n s)) → Inv n s code last → Y [.int .i64 code, .int .i64 last, .int .i64 s] H4 := by
        intro m2
        induction m2 with
        | zero =>
          intro s H4 code last hm2 hs e4 f4 hi
          have : s = ls.length := by omega
          subst this
          refine hY _ _ _ H4 (br_n (by omega) ?_)
          rw [partsM_next] at f4
          refine ih (n + 1) H4 code last (by omega) (by omega) (by omega) e4 f4 ?_
          have hc : base ls (n + 1) = 2 * (base ls n + rank ls ls.length n) := by
            show 2 * (base ls n + cnt ls n) = _
            unfold cnt; rw [if_neg (by omega)]
          have hr0 : rank ls 0 (n + 1) = 0 := by simp [rank]
          rcases hi with ⟨a1, a2, a3⟩ | ⟨a1, a2, a3, a4⟩
          · exact .inl ⟨a1, a2, by rw [hc, hr0]; omega⟩
          · refine .inr ⟨a1, by omega, a3, ?_⟩
            have e : n + 1 - last = n - last + 1 := by omega
            rw [hc, hr0, ← a4, e, Int.pow_succ, ← Int.mul_assoc]
            omega
        | succ m2 ih2 =>
          intro s H4 code last hm2 hs e4 f4 hi
          have ws : IntKind.wrap .i64 ((s : Int) + 1) = ((s + 1 : Nat) : Int) := by rw [wrap_id (by omega) (by omega)]; omega
          have hsl : s < ls.length := by omega
          have hv : ls[s]? = some ls[s] := List.getElem?_eq_getElem hsl
          generalize ls[s] = v at hv
          obtain ⟨blk, hp, cv⟩ := (h.ext e4).cell (ints_get hv)
          have hr := rank_le ls s n
          have hrs := rank_snoc hv n
          refine hY _ _ _ H4 (br_y (by omega) ⟨_, hp, by omega, by omega, v, by simpa using cv, br_ne (fun hne => ?_) (fun heq => ?_)⟩)
          · rw [ws]
            rw [partsM_skip hv hne] at f4
            refine ih2 (s + 1) H4 code last (by omega) (by omega) e4 f4 ?_
            show (_ ∧ _ ∧ base ls n + (rank ls (s + 1) n : Int) = 0) ∨ (_ ∧ _ ∧ _ ∧ _ = base ls n + (rank ls (s + 1) n : Int))
            rw [hrs, if_neg hne, Nat.add_zero]
            exact hi
          · intro J2 hJ2
            have hcode : base ls n + (rank ls s n : Int) = codeM ls s := by
              unfold codeM
              rw [hv]
              simp only
              rw [if_pos (by omega), heq, Int.toNat_natCast]
            have go : J2 [.int .i64 (base ls n + (rank ls s n : Int))] H4 := by
              refine hJ2 _ H4 ⟨_, rfl, by omega, by omega, ?_⟩
              rw [ws]
              simp only [add_none, Nat.zero_add, Nat.mul_one, Int.toNat_natCast]
              refine f4.set (by rw [ints_len]; simp [partsM]; omega) rfl fun H5 f5 hk5 hs5 => ?_
              rw [ints_set, hcode, partsM_set hv heq (by omega)] at f5
              refine ih2 (s + 1) H5 _ n (by omega) (by omega) (fun b o hb => hk5 b o (e4 b o hb) (by have := lt_of_get hb; omega)) f5 (.inr ⟨hn1, Nat.le_refl _, by omega, ?_⟩)
              rw [hrs, if_pos heq, Nat.sub_self]
              simp; omega
            rcases hi with ⟨a1, a2, a3⟩ | ⟨a1, a2, a3, a4⟩
            · refine br_n (by omega) ?_
              rw [a2, ← a3]; exact go
            · refine br_y (by omega) ?_
              have w1 : IntKind.wrap .i64 ((n : Int) - last) = ((n - last : Nat) : Int) := by rw [wrap_id (by omega) (by omega)]; omega
              have p1 : (1 : Int) ≤ 2 ^ (n - last) := Int.pow_pos (by omega)
              have hcb : code + 1 ≤ (code + 1) * 2 ^ (n - last) := by
                have := Int.mul_le_mul_of_nonneg_left p1 (show 0 ≤ code + 1 by omega)
                omega
              have w2 : IntKind.wrap .i64 (code + 1) = code + 1 := wrap_id (by omega) (by omega)
              rw [w1, w2, shl64 (by omega) (by omega) (by omega) (by omega), Int.toNat_natCast, a4]
              exact ⟨by omega, go⟩
      exact inner l 0 H3 code last (by omega) (by omega) e3 f3 hi
  exact levels 16 1 H2 0 0 rfl (by omega) (by omega) e2 out2 (.inl ⟨rfl, rfl, by simp [base, cnt, rank]⟩)
end Go.Proofs
namespace Go.Proofs
open Go.Sh
def W (ls : List Int) : Nat → Int
 | 0 => 0
 | n + 1 => W ls n + (rank ls ls.length (n + 1) : Int) * 2 ^ (16 - (n + 1))
theorem rank_all_cons (n : Int) (r : List Int) (k : Nat) : (rank (n :: r) (n :: r).length k : Int) = rank r r.length k + if n = (k : Int) then 1 else 0 := by
 unfold rank
 rw [List.take_length, List.take_length, List.countP_cons]
 by_cases h : n = (k : Int) <;> simp [h]
theorem W_cons (n : Int) (r : List Int) (h0 : 0 ≤ n) : ∀ m : Nat, W (n :: r) m = W r m + if 1 ≤ n ∧ n ≤ (m : Int) then 2 ^ (16 - n.toNat) else 0
 | 0 => by
  simp only [W]
  rw [if_neg (by omega)]; rfl
 | m + 1 => by
  simp only [W]
  rw [W_cons n r h0 m, rank_all_cons, Int.add_mul]
  by_cases hn : n = ((m + 1 : Nat) : Int)
  ·rw [if_neg (by omega), if_pos hn, if_pos (by omega)]
   have : n.toNat = m + 1 := by omega
   rw [this]; omega
  ·rw [if_neg hn]
   by_cases h : 1 ≤ n ∧ n ≤ (m : Int)
   ·rw [if_pos h, if_pos (by omega)]; omega
   ·rw [if_neg h, if_neg (by omega)]; omega
theorem W_all {ls : List Int} (h : ∀ n ∈ ls, 0 ≤ n ∧ n ≤ 16) : W ls 16 = wtM ls := by
 induction ls with
 | nil => simp [W, wtM, rank]
 | cons n r ih =>
  have hn := h n List.mem_cons_self
  rw [W_cons n r hn.1, ih fun x hx => h x (List.mem_cons_of_mem _ hx)]
  unfold wtM
  simp only [List.map_cons, List.sum_cons]
  unfold wt
  by_cases hp : n > 0
  ·rw [if_pos (by omega), if_pos hp]
   have : (16 - n).toNat = 16 - n.toNat := by omega
   rw [this]; omega
  ·rw [if_neg (by omega), if_neg hp]; omega
theorem W_mono (ls : List Int) {m n : Nat} (h : m ≤ n) : W ls m ≤ W ls n := by
  induction n with
  | zero => have : m = 0 := by omega
            subst this; exact Int.le_refl _
  | succ n ih =>
    by_cases hm : m = n + 1
    · subst hm; exact Int.le_refl _
    · have := ih (by omega)
      have h2 : 0 ≤ (rank ls ls.length (n + 1) : Int) * 2 ^ (16 - (n + 1)) := Int.mul_nonneg (by omega) (Int.pow_nonneg (by omega))
      simp only [W]
      omega
theorem base_W (ls : List Int) : ∀ n : Nat, n ≤ 16 → (base ls n + cnt ls n) * 2 ^ (16 - n) = W ls n
 | 0, _ => by simp [base, cnt, W]
 | n + 1, h => by
  have ih := base_W ls n (by omega)
  have hc : cnt ls (n + 1) = rank ls ls.length (n + 1) := by unfold cnt; rw [if_neg (by omega)]
  have e : 16 - n = 16 - (n + 1) + 1 := by omega
  rw [e, Int.pow_succ] at ih
  simp only [W, base]
  rw [hc, Int.add_mul, ← ih]
  generalize (2 : Int) ^ (16 - (n + 1)) = z
  rw [Int.mul_comm z 2, ← Int.mul_assoc, Int.mul_comm (base ls n + (cnt ls n : Int)) 2]
theorem pow_split {n : Nat} (h : n ≤ 16) : (65536 : Int) = 2 ^ n * 2 ^ (16 - n) := by
 rw [← Int.pow_add]
 have : n + (16 - n) = 16 := by omega
 rw [this]; decide
theorem base_cnt_le {ls : List Int} (ok : OkC ls) {n : Nat} (hn : n ≤ 16) : base ls n + cnt ls n ≤ 2 ^ n := by
 have h1 := base_W ls n hn
 have h2 := W_mono ls hn
 rw [W_all ok.w.rng] at h2
 have h3 := ok.le
 have h4 := pow_split hn
 have hp : (0 : Int) < 2 ^ (16 - n) := Int.pow_pos (by omega)
 rw [← h1] at h2
 have : (base ls n + cnt ls n) * 2 ^ (16 - n) ≤ 2 ^ n * 2 ^ (16 - n) := by omega
 exact Int.le_of_mul_le_mul_right this hp
theorem rank_mono (ls : List Int) (n : Nat) {i j : Nat} (h : i ≤ j) : rank ls i n ≤ rank ls j n := by
 unfold rank
 have : (ls.take i) = (ls.take j).take i := by rw [List.take_take]; congr 1; omega
 rw [this]
 exact List.Sublist.countP_le (List.take_sublist _ _)
theorem rank_lt {ls : List Int} {i j n : Nat} (hi : ls[i]? = some (n : Int)) (h : i < j) : rank ls i n < rank ls j n := by
 have h1 := rank_snoc hi n
 rw [if_pos rfl] at h1
 have := rank_mono ls n (show i + 1 ≤ j by omega)
 omega
theorem rank_lt_cnt {ls : List Int} {i n : Nat} (hi : ls[i]? = some (n : Int)) (hn : 0 < n) : rank ls i n < cnt ls n := by
 unfold cnt
 rw [if_neg (by omega)]
 exact rank_lt hi (List.getElem?_eq_some_iff.1 hi).1
theorem codeM_pos {ls : List Int} {i n : Nat} (hi : ls[i]? = some (n : Int)) (hn : 0 < n) : codeM ls i = base ls n + rank ls i n := by
 unfold codeM
 rw [hi]
 simp only
 rw [if_pos (by omega), Int.toNat_natCast]
theorem code_rng {ls : List Int} (ok : OkC ls) {i n : Nat} (hi : ls[i]? = some (n : Int)) (hn : 0 < n) : 0 ≤ codeM ls i ∧ codeM ls i < 2 ^ n := by
 have hr := ok.w.rng _ (List.mem_of_getElem? hi)
 have h1 := base_cnt_le ok (n := n) (by omega)
 have h2 := rank_lt_cnt hi hn
 have h3 := (base_rng ls n).1
 rw [codeM_pos hi hn]
 omega
theorem base_later {ls : List Int} {n : Nat} (hn : 0 < n) : ∀ d : Nat, 0 < d → (base ls n + cnt ls n) * 2 ^ d ≤ base ls (n + d)
 | 0, h => by omega
 | 1, _ => by
  show _ ≤ 2 * (base ls n + cnt ls n)
  simp; omega
 | d + 2, _ => by
  have ih := base_later (ls := ls) hn (d + 1) (by omega)
  have e : n + (d + 2) = n + (d + 1) + 1 := by omega
  rw [e, Int.pow_succ, ← Int.mul_assoc]
  show _ ≤ 2 * (base ls (n + (d + 1)) + cnt ls (n + (d + 1)))
  omega
theorem no_prefix {ls : List Int} (ok : OkC ls) {i j n m : Nat} (hij : i ≠ j) (hi : ls[i]? = some (n : Int)) (hj : ls[j]? = some (m : Int)) (hn : 0 < n) (hnm : n ≤ m) : codeM ls j / 2 ^ (m - n) ≠ codeM ls i := by
 intro he
 have ci := codeM_pos hi hn
 have cj := codeM_pos hj (by omega)
 have ri := rank_lt_cnt hi hn
 by_cases h : m = n
 ·subst h
  rw [Nat.sub_self, Int.pow_zero, Int.ediv_one, ci, cj] at he
  rcases Nat.lt_or_ge i j with h | h
  ·have := rank_lt hi h; omega
  ·have := rank_lt hj (show j < i by omega); omega
 ·have hb := base_later (ls := ls) hn (m - n) (by omega)
  have e : n + (m - n) = m := by omega
  rw [e] at hb
  have hp : (0 : Int) < 2 ^ (m - n) := Int.pow_pos (by omega)
  have h1 : base ls n + cnt ls n ≤ codeM ls j / 2 ^ (m - n) := by
   refine (Int.le_ediv_iff_mul_le hp).2 ?_
   rw [cj]; omega
  rw [he, ci] at h1
  omega
theorem codesM_get {ls : List Int} {i : Nat} (hi : i < ls.length) : (codesM ls)[i]? = some (codeM ls i) := by simp [codesM, hi]
end Go.Proofs
namespace Go.Proofs
open Go.Sh
theorem andI_one (a : Int) : andI .i64 a (1 : Int) = a % 2 := by
 unfold andI
 have hb : IntKind.bits .i64 = 64 := rfl
 rw [hb, BitVec.toNat_and, BitVec.toNat_ofInt, BitVec.toNat_ofInt]
 have h1 : ((1 : Int) % ((2 ^ 64 : Nat) : Int)).toNat = 1 := by decide
 rw [h1, Nat.and_one_is_mod]
 have h2 : (((a % ((2 ^ 64 : Nat) : Int)).toNat % 2 : Nat) : Int) = a % 2 := by
  have e : ((2 ^ 64 : Nat) : Int) = 18446744073709551616 := by decide
  rw [e]; omega
 rw [h2]
 exact wrap_id (by omega) (by omega)
structure Trie (ls : List Int) (Ins Beg : Nat → Prop) (P : List (Nat × Int)) (F : List Int) : Prop where
 len : F.length = P.length * 2
 root : P[0]? = some (0, 0)
 inj : ∀ (i j : Nat) (x : Nat × Int), P[i]? = some x → P[j]? = some x → i = j
 up : ∀ (k n : Nat) (v : Int) (b : Nat) (x : Int), P[k]? = some (n, v) → b < 2 → F[k * 2 + b]? = some x → 0 < x → P[x.toNat]? = some (n + 1, 2 * v + b)
 sy : ∀ (k n : Nat) (v : Int) (b : Nat) (x : Int), P[k]? = some (n, v) → b < 2 → F[k * 2 + b]? = some x → x < 0 → ∃ s : Nat, Ins s ∧ x = -1 - (s : Int) ∧ ls[s]? = some ((n + 1 : Nat) : Int) ∧ codeM ls s = 2 * v + b
 no : ∀ (k n : Nat) (v : Int) (b : Nat), P[k]? = some (n, v) → b < 2 → F[k * 2 + b]? = some 0 → (∀ j : Nat, P[j]? ≠ some (n + 1, 2 * v + b)) ∧ ∀ s : Nat, Ins s → ls[s]? = some ((n + 1 : Nat) : Int) → codeM ls s ≠ 2 * v + b
 par : ∀ (k n : Nat) (v : Int), P[k]? = some (n + 1, v) → ∃ j : Nat, P[j]? = some (n, v / 2)
 ins : ∀ (s n : Nat), Ins s → ls[s]? = some (n : Int) → 0 < n → ∀ j, j < n → ∃ k : Nat, P[k]? = some (j, codeM ls s / 2 ^ (n - j))
 beg : ∀ (k n : Nat) (v : Int), P[k]? = some (n, v) → 0 < n → ∃ s m : Nat, Beg s ∧ ls[s]? = some (m : Int) ∧ n < m ∧ codeM ls s / 2 ^ (m - n) = v
section
variable {ls : List Int} {Ins Beg : Nat → Prop} {P : List (Nat × Int)} {F : List Int}
theorem Trie.get (t : Trie ls Ins Beg P F) {k : Nat} {y : Nat × Int} (h : P[k]? = some y) {b : Nat} (hb : b < 2) : ∃ x, F[k * 2 + b]? = some x := by
 have := (List.getElem?_eq_some_iff.1 h).1
 have := t.len
 exact ⟨_, List.getElem?_eq_getElem (by omega)⟩
theorem half_bit (v : Int) (b : Nat) (hb : b < 2) : (2 * v + b) / 2 = v ∧ (2 * v + b) % 2 = b := by omega
theorem div_two_pow (c : Int) (d : Nat) : c / 2 ^ (d + 1) = c / 2 ^ d / 2 := by
 rw [Int.pow_succ, Int.ediv_ediv_of_nonneg (Int.pow_nonneg (by omega))]
theorem Trie.step (t : Trie ls Ins Beg P F) (ok : OkC ls) (hb : ∀ s, Beg s → s < ls.length) {k n : Nat} {v x : Int} {b : Nat} (hk : P[k]? = some (n, v)) (hb2 : b < 2) (hx : F[k * 2 + b]? = some x) :
    (∀ s : Nat, Ins s → ls[s]? = some ((n + 1 : Nat) : Int) → codeM ls s = 2 * v + b → x = -1 - (s : Int)) ∧
    (∀ s m : Nat, Ins s → ls[s]? = some (m : Int) → n + 1 < m → codeM ls s / 2 ^ (m - (n + 1)) = 2 * v + b → 0 < x ∧ P[x.toNat]? = some (n + 1, 2 * v + b)) := by
  have noBeg : ∀ (s m s' : Nat), ls[s]? = some (m : Int) → 0 < m → s ≠ s' → ∀ m' : Nat, ls[s']? = some (m' : Int) → m ≤ m' → codeM ls s' / 2 ^ (m' - m) ≠ codeM ls s := fun s m s' h1 h2 h3 m' h4 h5 => no_prefix ok h3 h1 h4 h2 h5
  refine ⟨fun s hs hl hc => ?_, fun s m hs hl hm hc => ?_⟩
  · rcases Int.lt_trichotomy x 0 with h | h | h
    · obtain ⟨s', i', e, l', c'⟩ := t.sy k n v b x hk hb2 hx h
      by_cases hss : s = s'
      · rw [hss]; exact e
      · have := noBeg s (n + 1) s' hl (by omega) hss (n + 1) l' (Nat.le_refl _)
        rw [Nat.sub_self, Int.pow_zero, Int.ediv_one, hc, c'] at this
        exact absurd rfl this
    · subst h
      exact absurd hc ((t.no k n v b hk hb2 hx).2 s hs hl)
    · have hp := t.up k n v b x hk hb2 hx h
      obtain ⟨s', m', _, l', hm', c'⟩ := t.beg _ _ _ hp (by omega)
      have hss : s ≠ s' := fun hh => by subst hh; rw [hl] at l'; have := Option.some.inj l'; omega
      have := noBeg s (n + 1) s' hl (by omega) hss m' l' (by omega)
      rw [c', hc] at this
      exact absurd rfl this
  · obtain ⟨k', hk'⟩ := t.ins s m hs hl (by omega) (n + 1) hm
    rw [hc] at hk'
    rcases Int.lt_trichotomy x 0 with h | h | h
    · obtain ⟨s', i', e, l', c'⟩ := t.sy k n v b x hk hb2 hx h
      have hss : s' ≠ s := fun hh => by subst hh; rw [hl] at l'; have := Option.some.inj l'; omega
      have := noBeg s' (n + 1) s l' (by omega) hss m hl (by omega)
      rw [hc, c'] at this
      exact absurd rfl this
    · subst h
      exact absurd hk' ((t.no k n v b hk hb2 hx).1 k')
    · exact ⟨h, t.up k n v b x hk hb2 hx h⟩
theorem Trie.leaf (t : Trie ls Ins Beg P F) (ok : OkC ls) {s n : Nat} (hl : ls[s]? = some ((n + 1 : Nat) : Int)) (hs : Beg s) (hns : ¬ Ins s) {k : Nat} (hk : P[k]? = some (n, codeM ls s / 2)) (hib : ∀ i, Ins i → Beg i)
    (path : ∀ j, j ≤ n → ∃ k : Nat, P[k]? = some (j, codeM ls s / 2 ^ (n + 1 - j))) :
    Trie ls (fun i => Ins i ∨ i = s) Beg P (F.set (k * 2 + (codeM ls s % 2).toNat) (-1 - (s : Int))) := by
  have hb2 : (codeM ls s % 2).toNat < 2 := by omega
  have hcode : 2 * (codeM ls s / 2) + ((codeM ls s % 2).toNat : Int) = codeM ls s := by omega
  obtain ⟨x, hx⟩ := t.get hk hb2
  have hx0 : x = 0 := by
    rcases Int.lt_trichotomy x 0 with h | h | h
    · obtain ⟨s', i', e, l', c'⟩ := t.sy _ _ _ _ _ hk hb2 hx h
      rw [hcode] at c'
      have hss : s ≠ s' := fun hh => by subst hh; exact hns i'
      have := no_prefix ok hss hl l' (by omega) (Nat.le_refl _)
      rw [Nat.sub_self, Int.pow_zero, Int.ediv_one, c'] at this
      exact absurd rfl this
    · exact h
    · have hp := t.up _ _ _ _ _ hk hb2 hx h
      rw [hcode] at hp
      obtain ⟨s', m', _, l', hm', c'⟩ := t.beg _ _ _ hp (by omega)
      have hss : s ≠ s' := fun hh => by subst hh; rw [hl] at l'; have := Option.some.inj l'; omega
      exact absurd c' (no_prefix ok hss hl l' (by omega) (by omega))
  subst hx0
  have hkl := (List.getElem?_eq_some_iff.1 hx).1
  have get : ∀ (k' b : Nat) (y : Int), b < 2 → (F.set (k * 2 + (codeM ls s % 2).toNat) (-1 - (s : Int)))[k' * 2 + b]? = some y → (k' = k ∧ b = (codeM ls s % 2).toNat ∧ y = -1 - (s : Int)) ∨ (¬ (k' = k ∧ b = (codeM ls s % 2).toNat) ∧ F[k' * 2 + b]? = some y) := fun k' b y hb hy => by
    rw [List.getElem?_set] at hy
    split at hy
    · rename_i he
      left
      first
        | (cases hy; exact ⟨by omega, by omega, rfl⟩)
        | (split at hy
           · cases hy; exact ⟨by omega, by omega, rfl⟩
           · cases hy)
    · rename_i he
      exact .inr ⟨fun hh => he (by rw [hh.1, hh.2]), hy⟩
  refine ⟨by rw [List.length_set]; exact t.len, t.root, t.inj, fun k' n' v b y h1 h2 h3 h4 => ?_, fun k' n' v b y h1 h2 h3 h4 => ?_, fun k' n' v b h1 h2 h3 => ?_, t.par, fun i m h1 h2 h3 j hj => ?_, t.beg⟩
  · rcases get k' b y h2 h3 with ⟨_, _, rfl⟩ | ⟨_, h⟩
    · omega
    · exact t.up k' n' v b y h1 h2 h h4
  · rcases get k' b y h2 h3 with ⟨rfl, rfl, rfl⟩ | ⟨_, h⟩
    · rw [hk] at h1; cases h1
      exact ⟨s, .inr rfl, rfl, hl, hcode.symm⟩
    · obtain ⟨s', a, b', c⟩ := t.sy k' n' v b y h1 h2 h h4
      exact ⟨s', .inl a, b', c⟩
  · rcases get k' b 0 h2 h3 with ⟨rfl, rfl, h⟩ | ⟨hne, h⟩
    · omega
    · obtain ⟨a, c⟩ := t.no k' n' v b h1 h2 h
      refine ⟨a, fun i hi hli hci => ?_⟩
      rcases hi with hi | rfl
      · exact c i hi hli hci
      · rw [hl] at hli
        have hnn : n = n' := by have := Option.some.inj hli; omega
        subst hnn
        have hv : codeM ls i / 2 = v := by rw [hci]; exact (half_bit v b h2).1
        rw [hv] at hk
        have := t.inj _ _ _ hk h1
        subst this
        refine hne ⟨rfl, ?_⟩
        rw [hci, (half_bit v b h2).2]; omega
  · rcases h1 with h1 | rfl
    · exact t.ins i m h1 h2 h3 j hj
    · rw [hl] at h2
      have hm : n + 1 = m := by have := Option.some.inj h2; omega
      subst hm
      exact path j (by omega)
theorem Trie.node (t : Trie ls Ins Beg P F) (ok : OkC ls) {s m n : Nat} {v : Int} {b : Nat} (hl : ls[s]? = some (m : Int)) (hs : Beg s) (hk0 : n + 1 < m) {k : Nat} (hk : P[k]? = some (n, v)) (hb2 : b < 2) (hcode : codeM ls s / 2 ^ (m - (n + 1)) = 2 * v + b)
    (hx : F[k * 2 + b]? = some 0) : Trie ls Ins Beg (P ++ [(n + 1, 2 * v + b)]) ((F ++ [0, 0]).set (k * 2 + b) P.length) := by
  have hF := t.len
  have hkl := (List.getElem?_eq_some_iff.1 hk).1
  obtain ⟨hno1, hno2⟩ := t.no k n v b hk hb2 hx
  have pg : ∀ (i : Nat) y, (P ++ [(n + 1, 2 * v + b)])[i]? = some y → (P[i]? = some y) ∨ (i = P.length ∧ y = (n + 1, 2 * v + b)) := fun i y hy => by
    by_cases hi : i < P.length
    · rw [List.getElem?_append_left hi] at hy; exact .inl hy
    · rw [List.getElem?_append_right (by omega)] at hy
      have hlt := (List.getElem?_eq_some_iff.1 hy).1
      have : i - P.length = 0 := by simpa using hlt
      rw [this] at hy
      simp at hy
      exact .inr ⟨by omega, hy.symm⟩
  have pk : ∀ {i : Nat} {y : Nat × Int}, P[i]? = some y → (P ++ [(n + 1, 2 * v + b)])[i]? = some y := fun {i y} hy => by
    rw [List.getElem?_append_left (List.getElem?_eq_some_iff.1 hy).1]; exact hy
  have pnew : (P ++ [(n + 1, 2 * v + b)])[P.length]? = some (n + 1, 2 * v + b) := by simp
  have get : ∀ (k' b' : Nat) (y : Int), b' < 2 → ((F ++ [0, 0]).set (k * 2 + b) (P.length : Int))[k' * 2 + b']? = some y → (k' = k ∧ b' = b ∧ y = P.length) ∨ (k' = P.length ∧ y = 0) ∨ (¬ (k' = k ∧ b' = b) ∧ F[k' * 2 + b']? = some y) := fun k' b' y hb hy => by
    rw [List.getElem?_set] at hy
    split at hy
    · rename_i he
      left
      first
        | (cases hy; exact ⟨by omega, by omega, rfl⟩)
        | (split at hy
           · cases hy; exact ⟨by omega, by omega, rfl⟩
           · cases hy)
    · rename_i he
      by_cases hlt : k' * 2 + b' < F.length
      · rw [List.getElem?_append_left hlt] at hy
        exact .inr (.inr ⟨fun hh => he (by rw [hh.1, hh.2]), hy⟩)
      · rw [List.getElem?_append_right (by omega)] at hy
        have hlt2 := (List.getElem?_eq_some_iff.1 hy).1
        simp at hlt2
        refine .inr (.inl ⟨by omega, ?_⟩)
        have : k' * 2 + b' - F.length = 0 ∨ k' * 2 + b' - F.length = 1 := by omega
        rcases this with h | h <;> (rw [h] at hy; simp at hy; exact hy.symm)
  -- nothing is below the new node yet
  have below : ∀ (w : Int) (b' : Nat), b' < 2 → w = 2 * v + b → ∀ j : Nat, P[j]? ≠ some (n + 1 + 1, 2 * w + b') := fun w b' hb' hw j hj => by
    obtain ⟨j', hj'⟩ := t.par j (n + 1) _ hj
    rw [(half_bit w b' hb').1, hw] at hj'
    exact hno1 j' hj'
  refine ⟨by simp; omega, pk t.root, fun i j y h1 h2 => ?_, fun k' n' v' b' y h1 h2 h3 h4 => ?_, fun k' n' v' b' y h1 h2 h3 h4 => ?_, fun k' n' v' b' h1 h2 h3 => ?_, fun k' n' v' h1 => ?_, fun i m' h1 h2 h3 j hj => ?_, fun k' n' v' h1 h2 => ?_⟩
  · rcases pg i y h1 with h1 | ⟨e1, y1⟩
    · rcases pg j y h2 with h2 | ⟨e2, y2⟩
      · exact t.inj i j y h1 h2
      · rw [y2] at h1; exact absurd h1 (hno1 i)
    · rcases pg j y h2 with h2 | ⟨e2, y2⟩
      · rw [y1] at h2; exact absurd h2 (hno1 j)
      · omega
  · rcases get k' b' y h2 h3 with ⟨rfl, rfl, rfl⟩ | ⟨rfl, rfl⟩ | ⟨_, h⟩
    · rw [pk hk] at h1; cases h1
      rw [Int.toNat_natCast]; exact pnew
    · omega
    · rcases pg k' _ h1 with h1 | ⟨e, _⟩
      · exact pk (t.up k' n' v' b' y h1 h2 h h4)
      · have := (List.getElem?_eq_some_iff.1 h).1; omega
  · rcases get k' b' y h2 h3 with ⟨rfl, rfl, rfl⟩ | ⟨rfl, rfl⟩ | ⟨_, h⟩
    · omega
    · omega
    · rcases pg k' _ h1 with h1 | ⟨e, _⟩
      · exact t.sy k' n' v' b' y h1 h2 h h4
      · have := (List.getElem?_eq_some_iff.1 h).1; omega
  · rcases get k' b' 0 h2 h3 with ⟨rfl, rfl, h⟩ | ⟨rfl, _⟩ | ⟨hne, h⟩
    · omega
    · rw [pnew] at h1; cases h1
      refine ⟨fun j hj => ?_, fun i hi hli hci => ?_⟩
      · rcases pg j _ hj with hj | ⟨_, he⟩
        · exact below _ b' h2 rfl j hj
        · cases he
      · obtain ⟨k2, hk2⟩ := t.ins i (n + 1 + 1) hi hli (by omega) (n + 1) (by omega)
        have e : n + 1 + 1 - (n + 1) = 1 := by omega
        rw [e, Int.pow_one, hci, (half_bit _ b' h2).1] at hk2
        exact hno1 k2 hk2
    · rcases pg k' _ h1 with h1 | ⟨e, _⟩
      · obtain ⟨a, c⟩ := t.no k' n' v' b' h1 h2 h
        refine ⟨fun j hj => ?_, c⟩
        rcases pg j _ hj with hj | ⟨_, he⟩
        · exact a j hj
        · rw [Prod.mk.injEq] at he
          have hv : v' = v ∧ b' = b := by omega
          have hn : n' = n := by omega
          rw [hn, hv.1] at h1
          exact hne ⟨t.inj _ _ _ h1 hk, hv.2⟩
      · have := (List.getElem?_eq_some_iff.1 h).1; omega
  · rcases pg k' _ h1 with h1 | ⟨_, he⟩
    · obtain ⟨j, hj⟩ := t.par k' n' v' h1; exact ⟨j, pk hj⟩
    · rw [Prod.mk.injEq] at he
      refine ⟨k, ?_⟩
      rw [he.2, (half_bit v b hb2).1]
      have : n' = n := by omega
      rw [this]; exact pk hk
  · obtain ⟨k', hk'⟩ := t.ins i m' h1 h2 h3 j hj
    exact ⟨k', pk hk'⟩
  · rcases pg k' _ h1 with h1 | ⟨_, he⟩
    · exact t.beg k' n' v' h1 h2
    · rw [Prod.mk.injEq] at he
      exact ⟨s, m, hs, hl, by omega, by rw [he.1, he.2]; exact hcode⟩
theorem Trie.first (ls : List Int) (Beg : Nat → Prop) : Trie ls (fun _ => False) Beg [(0, 0)] [0, 0] := by
 have one : ∀ {k : Nat} {y : Nat × Int}, [((0 : Nat), (0 : Int))][k]? = some y → k = 0 ∧ y = (0, 0) := fun {k y} h => by
  cases k with
  | zero => simp at h; exact ⟨rfl, h.symm⟩
  | succ k => simp at h
 have zz : ∀ {k b : Nat} {y : Int}, k = 0 → b < 2 → ([0, 0] : List Int)[k * 2 + b]? = some y → y = 0 := fun {k b y} hk hb h => by
  subst hk
  have : b = 0 ∨ b = 1 := by omega
  rcases this with rfl | rfl <;> (simp at h; exact h.symm)
 refine ⟨rfl, rfl, fun i j x h1 h2 => by rw [(one h1).1, (one h2).1], fun k n v b x h1 h2 h3 h4 => ?_, fun k n v b x h1 h2 h3 h4 => ?_, fun k n v b h1 h2 h3 => ⟨fun j hj => ?_, fun s hs => hs.elim⟩, fun k n v h1 => ?_, fun s n hs => hs.elim, fun k n v h1 h2 => ?_⟩
 ·have := zz (one h1).1 h2 h3; omega
 ·have := zz (one h1).1 h2 h3; omega
 ·have := (one hj).2; simp at this
 ·have := (one h1).2; simp at this
 ·have := (one h1).2; rw [Prod.mk.injEq] at this; omega
theorem Trie.mono {Ins' Beg' : Nat → Prop} (t : Trie ls Ins Beg P F) (h1 : ∀ s, Ins s ↔ Ins' s) (h2 : ∀ s, Beg s → Beg' s) : Trie ls Ins' Beg' P F := by
 refine ⟨t.len, t.root, t.inj, t.up, fun k n v b x a1 a2 a3 a4 => ?_, fun k n v b a1 a2 a3 => ?_, t.par, fun s n a1 => t.ins s n ((h1 s).2 a1), fun k n v a1 a2 => ?_⟩
 ·obtain ⟨s, a, b'⟩ := t.sy k n v b x a1 a2 a3 a4; exact ⟨s, (h1 s).1 a, b'⟩
 ·obtain ⟨a, b'⟩ := t.no k n v b a1 a2 a3; exact ⟨a, fun s hs => b' s ((h1 s).2 hs)⟩
 ·obtain ⟨s, m, a, b'⟩ := t.beg k n v a1 a2; exact ⟨s, m, h2 s a, b'⟩
end
end Go.Proofs
namespace Go.Proofs
open Go.Sh
theorem Trie.mono2 {ls : List Int} {Ins Beg Ins' Beg' : Nat → Prop} {P : List (Nat × Int)} {F : List Int} (t : Trie ls Ins Beg P F) (h1 : ∀ s, Ins s → Ins' s) (h1' : ∀ s n : Nat, Ins' s → ls[s]? = some (n : Int) → 0 < n → Ins s) (h2 : ∀ s, Beg s → Beg' s) : Trie ls Ins' Beg' P F := by
 refine ⟨t.len, t.root, t.inj, t.up, fun k n v b x a1 a2 a3 a4 => ?_, fun k n v b a1 a2 a3 => ?_, t.par, fun s n a1 a2 a3 => t.ins s n (h1' s n a1 a2 a3) a2 a3, fun k n v a1 a2 => ?_⟩
 ·obtain ⟨s, a, b'⟩ := t.sy k n v b x a1 a2 a3 a4; exact ⟨s, h1 s a, b'⟩
 ·obtain ⟨a, b'⟩ := t.no k n v b a1 a2 a3; exact ⟨a, fun s hs hl => b' s (h1' s _ hs hl (by omega)) hl⟩
 ·obtain ⟨s, m, a, b'⟩ := t.beg k n v a1 a2; exact ⟨s, m, h2 s a, b'⟩
theorem Trie.rng {ls : List Int} {Beg : Nat → Prop} {P : List (Nat × Int)} {F : List Int} {S : Nat} (t : Trie ls (· < S) Beg P F) : ∀ x ∈ F, -(S : Int) ≤ x ∧ x < P.length := fun x hx => by
 obtain ⟨i, hi⟩ := List.getElem?_of_mem hx
 have hil := (List.getElem?_eq_some_iff.1 hi).1
 have hl := t.len
 obtain ⟨y, hy⟩ : ∃ y, P[i / 2]? = some y := ⟨_, List.getElem?_eq_getElem (by omega)⟩
 obtain ⟨n, v⟩ := y
 have e : i / 2 * 2 + i % 2 = i := by omega
 have hi' : F[i / 2 * 2 + i % 2]? = some x := by rw [e]; exact hi
 have hp : 0 < P.length := by have := (List.getElem?_eq_some_iff.1 t.root).1; omega
 rcases Int.lt_trichotomy x 0 with h | h | h
 ·obtain ⟨s, a, b, _⟩ := t.sy _ _ _ _ _ hy (by omega) hi' h
  have a : s < S := a
  omega
 ·omega
 ·have := (List.getElem?_eq_some_iff.1 (t.up _ _ _ _ _ hy (by omega) hi' h)).1
  omega
set_option maxHeartbeats 4000000 in
theorem newDec {H : Heap} {p : Option Addr} {l c : Nat} {ls : List Int} (h : IS H p l (ints ls)) {R : Value → Heap → Prop} (hbad : ¬ OkC ls → R (.tuple #[.pointer none, .bool false]) H)
    (hgood : OkC ls → ∀ H' b q L k P F, H.size ≤ b → H'[b]? = some (.cells #[.slice q L k] 108) → FS H.size H' q L k 109 2 (ints F) → P.length = L → L ≤ 5000 → Trie ls (· < ls.length) (· < ls.length) P F → Ext H H' → R (.tuple #[.pointer (some ⟨b, 0, none⟩), .bool true]) H') :
    CallsH Try.prog 27 #[.slice p l c] H R := by
  have hl : ls.length = l := by have := h.len; rw [ints_len] at this; omega
  refine Try.s27 ?_
  unfold Try.S27 alc
  refine c47 h (fun hn => ⟨_, _, _, _, rfl, br_t rfl (hbad hn)⟩) fun ok H1 cb fc e1 => ⟨_, _, _, _, rfl, br_f rfl ⟨by omega, by omega, by omega, by omega, ?_⟩⟩
  have l300 := ok.w.len
  have hz : (List.toArray (reps (Int.toNat (1 : Int)) (Array.toList #[Value.int .i64 0, Value.int .i64 0]))) = #[Value.int .i64 0, Value.int .i64 0] := rfl
  have h1 : Int.toNat (1 : Int) = 1 := rfl
  rw [hz, h1]
  dsimp only
  have hb2 := get_push_self H1 (.cells #[Value.int .i64 0, Value.int .i64 0] 109)
  have e2 : Ext H1 (H1.push (.cells #[Value.int .i64 0, Value.int .i64 0] 109)) := Ext.push _ _
  have hs2 : (H1.push (.cells #[Value.int .i64 0, Value.int .i64 0] 109)).size = H1.size + 1 := by simp
  generalize H1.push (.cells #[Value.int .i64 0, Value.int .i64 0] 109) = H2 at hb2 e2 hs2
  have hb3 := get_push_self H2 (.cells #[Value.slice (some ⟨H1.size, 0, none⟩) 1 1] 108)
  have e3 : Ext H2 (H2.push (.cells #[Value.slice (some ⟨H1.size, 0, none⟩) 1 1] 108)) := Ext.push _ _
  have hs3 : (H2.push (.cells #[Value.slice (some ⟨H1.size, 0, none⟩) 1 1] 108)).size = H2.size + 1 := by simp
  generalize H2.push (.cells #[Value.slice (some ⟨H1.size, 0, none⟩) 1 1] 108) = H3 at hb3 e3 hs3
  have hsz1 := e1.size
  have fs3 : FS H.size H3 (some ⟨H1.size, 0, none⟩) 1 1 109 2 (ints [0, 0]) := ⟨rfl, Nat.le_refl _, ints_one _, .inr ⟨H1.size, _, rfl, hsz1, e3 _ _ hb2, rfl, fun i v hv => by simpa [ints] using hv⟩⟩
  have cget : ∀ {Hx : Heap}, RS Hx (some ⟨cb, 0, none⟩) l 3 1 (ints (codesM ls)) → ∀ i, i < l → cell Hx ⟨cb, i, none⟩ = some (.int .i64 (codeM ls i)) := fun hx i hi => by
    obtain ⟨blk, q1, v1⟩ := hx.cell (ints_get (codesM_get (ls := ls) (i := i) (by omega)))
    cases q1; exact v1
  have lget : ∀ i, i < l → ∃ n : Nat, ls[i]? = some (n : Int) ∧ n ≤ 16 := fun i hi => by
    have hv : ls[i]? = some ls[i] := List.getElem?_eq_getElem (by omega)
    have hr := ok.w.rng _ (List.mem_of_getElem? hv)
    refine ⟨ls[i].toNat, ?_, by omega⟩
    rw [hv]; congr 1; omega
  generalize hB : H2.size = B at hb3 ⊢
  have dget : ∀ {Hx : Heap} {q : Option Addr} {L k : Nat}, Hx[B]? = some (.cells #[.slice q L k] 108) → cell Hx ⟨B, 0, none⟩ = some (.slice q L k) := fun h => cell_get h rfl
  have hBs : H.size ≤ B := by omega
  intro X hX
  have outer : ∀ (m s : Nat) (H4 : Heap) (q : Option Addr) (L k : Nat) (P : List (Nat × Int)) (F : List Int), l - s = m → s ≤ l → Ext H H4 → RS H4 (some ⟨cb, 0, none⟩) l 3 1 (ints (codesM ls)) → H4[B]? = some (.cells #[.slice q L k] 108) → FS H.size H4 q L k 109 2 (ints F) →
      P.length = L → L ≤ 1 + 16 * s → Trie ls (· < s) (· < s) P F → X [.int .i64 s] H4 := by
    intro m
    induction m with
    | zero =>
      intro s H4 q L k P F hm hs e4 rc hd fs hP hL t
      have : s = ls.length := by omega
      subst this
      exact hX _ H4 (br_n (by omega) (hgood ok H4 B q L k P F hBs hd fs hP (by omega) t e4))
    | succ m ih =>
      intro s H4 q L k P F hm hs e4 rc hd fs hP hL t
      have ws : IntKind.wrap .i64 ((s : Int) + 1) = ((s + 1 : Nat) : Int) := by rw [wrap_id (by omega) (by omega)]; omega
      have wns : IntKind.wrap .i64 ((-1 : Int) - (s : Int)) = -1 - (s : Int) := wrap_id (by omega) (by omega)
      obtain ⟨n, hn, hn16⟩ := lget s (by omega)
      obtain ⟨a, hp, cv⟩ := (h.ext e4).cell (ints_get hn)
      refine hX _ H4 (br_y (by omega) ⟨_, hp, by omega, by omega, n, by simpa using cv, ?_⟩)
      rw [ws, wns]
      have nxt : ∀ (H5 : Heap) (q : Option Addr) (L k : Nat) (P : List (Nat × Int)) (F : List Int), Ext H H5 → RS H5 (some ⟨cb, 0, none⟩) l 3 1 (ints (codesM ls)) → H5[B]? = some (.cells #[.slice q L k] 108) → FS H.size H5 q L k 109 2 (ints F) →
          P.length = L → L ≤ 1 + 16 * (s + 1) → Trie ls (· < s + 1) (· < s + 1) P F → X [.int .i64 ((s + 1 : Nat) : Int)] H5 := fun H5 q L k P F e5 rc hd fs hP hL t => ih (s + 1) H5 q L k P F (by omega) (by omega) e5 rc hd fs hP hL t
      intro Y hY
      by_cases hn0 : n = 0
      · have w0 : IntKind.wrap .i64 ((n : Int) - 1) = -1 := by subst hn0; decide
        rw [w0]
        refine hY _ _ H4 (br_n (by omega) (nxt H4 q L k P F e4 rc hd fs hP (by omega) (t.mono2 (fun i hi => by omega) (fun i n' hi hl' hn' => ?_) (fun i hi => by omega))))
        by_cases his : i = s
        · subst his
          rw [hn] at hl'
          have := Option.some.inj hl'; omega
        · have hi : i < s + 1 := hi
          show i < s
          omega
      · have w0 : IntKind.wrap .i64 ((n : Int) - 1) = ((n - 1 : Nat) : Int) := by rw [wrap_id (by omega) (by omega)]; omega
        rw [w0]
        have crng := code_rng ok hn (by omega)
        have inner : ∀ (k0 : Nat) (st : Nat) (H5 : Heap) (q : Option Addr) (L k : Nat) (P : List (Nat × Int)) (F : List Int), k0 + 1 ≤ n → Ext H H5 → RS H5 (some ⟨cb, 0, none⟩) l 3 1 (ints (codesM ls)) → H5[B]? = some (.cells #[.slice q L k] 108) → FS H.size H5 q L k 109 2 (ints F) →
            P.length = L → L ≤ 1 + 16 * s + (n - 1 - k0) → Trie ls (· < s) (· < s + 1) P F → P[st]? = some (n - 1 - k0, codeM ls s / 2 ^ (k0 + 1)) → (∀ j, j ≤ n - 1 - k0 → ∃ i : Nat, P[i]? = some (j, codeM ls s / 2 ^ (n - j))) → Y [.int .i64 st, .int .i64 k0] H5 := by
          intro k0
          induction k0 with
          | zero =>
            intro st H5 q L k P F hk0 e5 rc hd fs hP hL t hst path
            have hstl := (List.getElem?_eq_some_iff.1 hst).1
            have hFl := t.len
            rw [Nat.zero_add, Int.pow_one] at hst
            refine hY _ _ H5 (br_y (by omega) ⟨_, rfl, by omega, by omega, codeM ls s, by simpa using cget rc s (by omega), by omega, ?_⟩)
            have hbit : andI .i64 (shrI .i64 (codeM ls s) ((0 : Nat) : Int)) (1 : Int) = codeM ls s % 2 := by
              rw [andI_one, shr64 (by omega) (by omega)]; simp
            rw [hbit]
            refine br_t rfl ⟨_, rfl, q, L, k, by simpa using dget hd, ?_⟩
            have hbt : (codeM ls s % 2).toNat < 2 := by omega
            rcases fs.at_ with ⟨hq0, hk00⟩ | ⟨blk, cs, hq, hq2, hq3, hq4, hq5⟩
            · have := fs.le; omega
            · refine ⟨_, hq, by omega, by omega, by omega, by omega, ?_⟩
              subst hq
              simp only [add_none, Nat.zero_add, Nat.mul_one, Int.toNat_natCast]
              refine fs.set (by rw [ints_len]; omega) rfl fun H6 f6 hk6 hs6 => ?_
              rw [ints_set] at f6
              have hBne : B ≠ blk := fun hh => by rw [← hh, hd] at hq3; cases hq3
              refine nxt H6 _ L k P _ (fun b o hb => hk6 b o (e5 b o hb) (by have := lt_of_get hb; omega)) (rc.keep fun b cs' hb hg => hk6 b _ hg fun hh => by rw [hh, hq3] at hg; cases hg) (hk6 _ _ hd hBne) f6 hP (by omega) ?_
              have hn1 : n = n - 1 + 1 := by omega
              rw [hn1] at hn
              refine (t.leaf ok hn (by show s < s + 1; omega) (by show ¬ s < s; omega) (k := st) hst (fun i hi => by show i < s + 1; have : i < s := hi; omega) (fun j hj => ?_)).mono2 (fun i hi => ?_) (fun i n' hi _ _ => ?_) (fun i hi => hi)
              · obtain ⟨i, hi⟩ := path j (by omega)
                refine ⟨i, ?_⟩
                have : n - 1 + 1 - j = n - j := by omega
                rw [this]; exact hi
              · rcases hi with hi | rfl
                · have : i < s := hi
                  show i < s + 1; omega
                · show i < i + 1; omega
              · have hi : i < s + 1 := hi
                by_cases h : i < s
                · exact .inl h
                · exact .inr (by omega)
          | succ k0 ihk =>
            intro st H5 q L k P F hk0 e5 rc hd fs hP hL t hst path
            have hstl := (List.getElem?_eq_some_iff.1 hst).1
            have hFl := t.len
            have wk : IntKind.wrap .i64 (((k0 + 1 : Nat) : Int) - 1) = (k0 : Int) := by rw [wrap_id (by omega) (by omega)]; omega
            have hbit : andI .i64 (shrI .i64 (codeM ls s) ((k0 + 1 : Nat) : Int)) (1 : Int) = codeM ls s / 2 ^ (k0 + 1) % 2 := by
              rw [andI_one, shr64 (by omega) (by omega), Int.toNat_natCast]
            have hhalf : codeM ls s / 2 ^ (k0 + 1 + 1) = codeM ls s / 2 ^ (k0 + 1) / 2 := div_two_pow _ _
            generalize hv : codeM ls s / 2 ^ (k0 + 1) = v at hbit hhalf
            rw [hhalf] at hst
            have hbt : (v % 2).toNat < 2 := by omega
            have hvv : 2 * (v / 2) + ((v % 2).toNat : Int) = v := by omega
            refine hY _ _ H5 (br_y (by omega) ⟨_, rfl, by omega, by omega, codeM ls s, by simpa using cget rc s (by omega), by omega, ?_⟩)
            rw [hbit, wk]
            refine br_f (by simp; omega) ?_
            intro J hJ
            obtain ⟨x, hx⟩ := t.get hst hbt
            -- behind the look at the child
            have go : ∀ (H6 : Heap) (q : Option Addr) (L k : Nat) (P : List (Nat × Int)) (F : List Int) (x : Int), Ext H H6 → RS H6 (some ⟨cb, 0, none⟩) l 3 1 (ints (codesM ls)) → H6[B]? = some (.cells #[.slice q L k] 108) → FS H.size H6 q L k 109 2 (ints F) →
                P.length = L → L ≤ 1 + 16 * s + (n - 1 - k0) → Trie ls (· < s) (· < s + 1) P F → st < P.length → F[st * 2 + (v % 2).toNat]? = some x → 0 < x → P[x.toNat]? = some (n - 1 - k0, codeM ls s / 2 ^ (k0 + 1)) → (∀ j, j ≤ n - 1 - k0 → ∃ i : Nat, P[i]? = some (j, codeM ls s / 2 ^ (n - j))) → J [] H6 := by
              intro H6 q L k P F x e6 rc hd fs hP hL t hstl hx hx0 hPx path
              have hFl := t.len
              rcases fs.at_ with ⟨hq0, hk00⟩ | ⟨blk, cs, hq, hq2, hq3, hq4, hq5⟩
              · have := fs.le; omega
              · obtain ⟨blk', hq', cx⟩ := fs.rs.cell (ints_get hx)
                rw [hq] at hq'; cases hq'
                have hxl := (List.getElem?_eq_some_iff.1 hPx).1
                refine hJ H6 ⟨_, rfl, q, L, k, by simpa using dget hd, _, hq, by omega, by omega, by omega, by omega, x, ?_, ?_⟩
                · simp only [add_none, Nat.zero_add, Nat.mul_one, Int.toNat_natCast]; exact cx
                · have hxn : x = ((x.toNat : Nat) : Int) := by omega
                  rw [hxn]
                  exact ihk x.toNat H6 q L k P F (by omega) e6 rc hd fs hP hL t hPx path
            rcases fs.at_ with ⟨hq0, hk00⟩ | ⟨blk, cs, hq, hq2, hq3, hq4, hq5⟩
            · have := fs.le; omega
            obtain ⟨blk', hq', cx⟩ := fs.rs.cell (ints_get hx)
            rw [hq] at hq'; cases hq'
            refine ⟨_, rfl, q, L, k, by simpa using dget hd, _, hq, by omega, by omega, by omega, by omega, x, ?_, br_eq (fun hx0 => ?_) (fun hxne => ?_)⟩
            · simp only [add_none, Nat.zero_add, Nat.mul_one, Int.toNat_natCast]; exact cx
            · -- a new node
              subst hx0
              refine ⟨_, rfl, q, L, k, by simpa using dget hd, rfl, by omega, ?_⟩
              have hz : (List.toArray (setL [Value.int .i64 0, Value.int .i64 0] 0 (Array.toList #[Value.int .i64 0, Value.int .i64 0]))) = #[Value.int .i64 0, Value.int .i64 0] := rfl
              rw [hz]
              have hb6 := get_push_self H5 (.cells #[Value.int .i64 0, Value.int .i64 0] 109)
              have e6 : Ext H5 (H5.push (.cells #[Value.int .i64 0, Value.int .i64 0] 109)) := Ext.push _ _
              generalize H5.push (.cells #[Value.int .i64 0, Value.int .i64 0] 109) = H6 at hb6 e6
              have src : RS H6 (some ⟨H5.size, 0, none⟩) 1 109 2 (ints [0, 0]) := ⟨rfl, ints_one _, .inr ⟨H5.size, _, rfl, hb6, fun i v hv => by simpa [ints] using hv⟩⟩
              have f6 := fs.ext e6
              have hd6 := e6 _ _ hd
              have rc6 := rc.ext e6
              refine f6.app src (by decide) (by have := (e5.trans e6).size; omega) rfl (by omega) (by omega) fun q7 k7 H7 f7 hk7 hs7 => ⟨_, rfl, ?_⟩
              rw [← ints_append] at f7
              have hBne : q ≠ some ⟨B, 0, none⟩ := fun hh => by rw [hq] at hh; cases hh; rw [hd] at hq3; cases hq3
              have hd7 := hk7 _ _ hd6 hBne
              have rc7 : RS H7 (some ⟨cb, 0, none⟩) l 3 1 (ints (codesM ls)) := rc6.keep fun b cs' hb hg => hk7 b _ hg fun hh => by
                rw [hq] at hh; cases hh; rw [e6 _ _ hq3] at hg; cases hg
              have e7 : Ext H H7 := fun b o hb => hk7 b o ((e5.trans e6) b o hb) fun hh => by
                rw [hq] at hh; cases hh; have := lt_of_get hb; omega
              simp only [add_none, Nat.zero_add]
              refine stAt_one hd7 (by show 0 < 1; omega) rfl ?_
              have hset : (#[Value.slice q L k] : Array Value).setIfInBounds 0 (Value.slice q7 (L + 1) k7) = #[Value.slice q7 (L + 1) k7] := rfl
              rw [hset]
              have hd8 := get_set_self (o := Obj.cells #[Value.slice q7 (L + 1) k7] 108 (0, 0)) hd7
              have hk8 : ∀ (b : Nat) (o : Obj), H7[b]? = some o → b ≠ B → (H7.setIfInBounds B (.cells #[Value.slice q7 (L + 1) k7] 108 (0, 0)))[b]? = some o := fun b o hb hn => get_set_ne (Ne.symm hn) hb
              generalize H7.setIfInBounds B (.cells #[Value.slice q7 (L + 1) k7] 108 (0, 0)) = H8 at hd8 hk8
              have f8 : FS H.size H8 q7 (L + 1) k7 109 2 (ints (F ++ [0, 0])) := f7.keep fun b cs' hb hg => hk8 b _ hg fun hh => by rw [hh, hd7] at hg; cases hg
              have rc8 : RS H8 (some ⟨cb, 0, none⟩) l 3 1 (ints (codesM ls)) := rc7.keep fun b cs' hb hg => hk8 b _ hg fun hh => by rw [hh, hd7] at hg; cases hg
              have e8 : Ext H H8 := fun b o hb => hk8 b o (e7 b o hb) (by have := lt_of_get hb; omega)
              have wl : IntKind.wrap .i64 (((L + 1 : Nat) : Int) - 1) = (L : Int) := by rw [wrap_id (by omega) (by omega)]; omega
              rcases f8.at_ with ⟨hq0, hk00⟩ | ⟨blk8, cs8, hq8, hq82, hq83, hq84, hq85⟩
              · have := f8.le; omega
              · refine ⟨_, rfl, q7, L + 1, k7, by simpa using dget hd8, _, rfl, q7, L + 1, k7, by simpa using dget hd8, _, hq8, by omega, by omega, by omega, by omega, ?_⟩
                subst hq8
                rw [wl]
                simp only [add_none, Nat.zero_add, Nat.mul_one, Int.toNat_natCast]
                refine f8.set (by rw [ints_len]; simp; omega) rfl fun H9 f9 hk9 hs9 => ?_
                rw [ints_set] at f9
                have hB9 : B ≠ blk8 := fun hh => by rw [← hh, hd8] at hq83; cases hq83
                have ndc : codeM ls s / 2 ^ (n - (n - 1 - (k0 + 1) + 1)) = 2 * (v / 2) + ((v % 2).toNat : Int) := by
                  have : n - (n - 1 - (k0 + 1) + 1) = k0 + 1 := by omega
                  rw [this, hv, hvv]
                have t9 := t.node ok (s := s) (m := n) (b := (v % 2).toNat) hn (by show s < s + 1; omega) (by omega) hst hbt ndc hx
                rw [hvv] at t9
                have hdep : n - 1 - (k0 + 1) + 1 = n - 1 - k0 := by omega
                rw [hdep] at t9
                have e9 : Ext H H9 := fun b o hb => hk9 b o (e8 b o hb) (by have := lt_of_get hb; omega)
                rw [hP] at t9
                refine go H9 _ (L + 1) k7 (P ++ [(n - 1 - k0, v)]) _ (L : Int) e9 (rc8.keep fun b cs' hb hg => hk9 b _ hg fun hh => by rw [hh, hq83] at hg; cases hg) (hk9 _ _ hd8 hB9) f9 (by simp; omega) (by omega) t9 (by simp; omega) ?_ (by omega) ?_ (fun j hj => ?_)
                · rw [List.getElem?_set_self (by simp; omega)]
                · rw [Int.toNat_natCast, ← hP, hv]; simp
                · by_cases hj1 : j ≤ n - 1 - (k0 + 1)
                  · obtain ⟨i, hi⟩ := path j hj1
                    exact ⟨i, by rw [List.getElem?_append_left (List.getElem?_eq_some_iff.1 hi).1]; exact hi⟩
                  · have hje : j = n - 1 - k0 := by omega
                    refine ⟨P.length, ?_⟩
                    have : n - j = k0 + 1 := by omega
                    rw [this, hv, hje]; simp
            · -- the child is there
              have hxpos : 0 < x := by
                rcases Int.lt_trichotomy x 0 with h | h | h
                · obtain ⟨s', i', _, l', c'⟩ := t.sy _ _ _ _ _ hst hbt hx h
                  have i' : s' < s := i'
                  rw [hvv] at c'
                  have := no_prefix ok (i := s') (j := s) (by omega) l' hn (by omega) (by omega)
                  have e : n - (n - 1 - (k0 + 1) + 1) = k0 + 1 := by omega
                  rw [e, hv] at this
                  exact absurd c'.symm this
                · exact absurd h hxne
                · exact h
              have hPx := t.up _ _ _ _ _ hst hbt hx hxpos
              rw [hvv] at hPx
              have hdep : n - 1 - (k0 + 1) + 1 = n - 1 - k0 := by omega
              rw [hdep] at hPx
              refine go H5 q L k P F x e5 rc hd fs hP (by omega) t hstl hx hxpos (by rw [hv]; exact hPx) (fun j hj => ?_)
              by_cases hj1 : j ≤ n - 1 - (k0 + 1)
              · exact path j hj1
              · have hje : j = n - 1 - k0 := by omega
                refine ⟨x.toNat, ?_⟩
                have : n - j = k0 + 1 := by omega
                rw [this, hv, hje]; exact hPx
        have hcode0 : codeM ls s / 2 ^ n = 0 := Int.ediv_eq_zero_of_lt crng.1 crng.2
        refine inner (n - 1) 0 H4 q L k P F (by omega) e4 rc hd fs hP (by omega) (t.mono2 (fun i hi => hi) (fun i n' hi _ _ => hi) (fun i hi => by have : i < s := hi; show i < s + 1; omega)) ?_ (fun j hj => ⟨0, ?_⟩)
        · have e1 : n - 1 - (n - 1) = 0 := by omega
          have e2 : n - 1 + 1 = n := by omega
          rw [e1, e2, hcode0]; exact t.root
        · have e1 : j = 0 := by omega
          subst e1
          rw [Nat.sub_zero, hcode0]; exact t.root
  refine outer l 0 H3 (some ⟨H1.size, 0, none⟩) 1 1 [(0, 0)] [0, 0] (by omega) (by omega) (e1.trans (e2.trans e3)) (fc.rs.ext (e2.trans e3)) hb3 fs3 rfl (by omega) ((Trie.first ls (· < 0)).mono2 (fun i hi => hi.elim) (fun i n hi => absurd hi (by omega)) (fun i hi => hi))
theorem c27 {H : Heap} {p : Option Addr} {l c : Nat} {ls : List Int} (h : IS H p l (ints ls)) {R : Value → Heap → Prop} (hbad : ¬ OkC ls → R (.tuple #[.pointer none, .bool false]) H)
    (hgood : OkC ls → ∀ H' b q L k P F, H'[b]? = some (.cells #[.slice q L k] 108) → RS H' q L 109 2 (ints F) → P.length = L → L ≤ 5000 → Trie ls (· < ls.length) (· < ls.length) P F → Ext H H' → R (.tuple #[.pointer (some ⟨b, 0, none⟩), .bool true]) H') :
    CallsH Try.prog 27 #[.slice p l c] H R :=
  newDec h hbad fun ok H' b q L k P F _ hd fs hP hL t e => hgood ok H' b q L k P F hd fs.rs hP hL t e
def stepM (F : List Int) (L : Nat) (st bit : Int) : Int × Int :=
 if st < 0 ∨ st ≥ L then (-1, -1)
 else if F.getD (st.toNat * 2 + (bit % 2).toNat) 0 > 0 then (F.getD (st.toNat * 2 + (bit % 2).toNat) 0, -1)
 else if F.getD (st.toNat * 2 + (bit % 2).toNat) 0 < 0 then (0, -1 - F.getD (st.toNat * 2 + (bit % 2).toNat) 0) else (-1, -1)
theorem c79 {H : Heap} {b : Nat} {q : Option Addr} {L k : Nat} {F : List Int} (hd : H[b]? = some (.cells #[.slice q L k] 108)) (hf : RS H q L 109 2 (ints F)) (hr : ∀ x ∈ F, -1000000 ≤ x ∧ x ≤ 1000000) (hL : L ≤ 1000000) (st bit : Int) {R : Value → Heap → Prop}
    (h : R (.tuple #[.int .i64 (stepM F L st bit).1, .int .i64 (stepM F L st bit).2]) H) : CallsH Try.prog 79 #[.pointer (some ⟨b, 0, none⟩), .int .i64 st, .int .i64 bit] H R := by
  have hFl : F.length = L * 2 := by have := hf.len; rw [ints_len] at this; exact this
  have dget : cell H ⟨b, 0, none⟩ = some (.slice q L k) := cell_get hd rfl
  refine Try.s79 ?_
  unfold Try.S79
  rw [andI_one]
  intro J hJ
  unfold stepM at h
  refine br_dec (fun hn => ?_) (fun h0 => ⟨_, rfl, q, L, k, by simpa using dget, br_dec (fun hge => ?_) (fun hlt => hJ H ?_)⟩)
  · rw [if_pos (.inl hn)] at h; exact h
  · rw [if_pos (.inr hge)] at h; exact h
  · rw [if_neg (by omega)] at h
    have hb2 : (bit % 2).toNat < 2 := by omega
    have hx : F[st.toNat * 2 + (bit % 2).toNat]? = some (F.getD (st.toNat * 2 + (bit % 2).toNat) 0) := by
      rw [List.getD_eq_getElem?_getD, List.getElem?_eq_getElem (by omega)]; rfl
    have hxr := hr _ (List.mem_of_getElem? hx)
    obtain ⟨blk, hq, cx⟩ := hf.cell (ints_get hx)
    generalize F.getD (st.toNat * 2 + (bit % 2).toNat) 0 = x at h hx cx hxr
    refine ⟨_, rfl, q, L, k, by simpa using dget, _, hq, by omega, by omega, by omega, by omega, x, ?_, br_dec (fun hp => ?_) (fun hp => br_dec (fun hn => ?_) (fun hn => ?_))⟩
    · simp only [add_none, Nat.zero_add, Nat.mul_one]; exact cx
    · rw [if_pos hp] at h; exact h
    · rw [if_neg hp, if_pos hn] at h
      rw [wrap_id (by omega) (by omega)]; exact h
    · rw [if_neg hp, if_neg hn] at h; exact h
end Go.Proofs
namespace Go.Proofs
open Go.Sh
theorem rank_ex {ls : List Int} {n r : Nat} : ∀ {S : Nat}, S ≤ ls.length → r < rank ls S n → ∃ s : Nat, s < S ∧ ls[s]? = some (n : Int) ∧ rank ls s n = r
 | 0, _, h => by simp [rank] at h
 | S + 1, hS, h => by
  have hv : ls[S]? = some ls[S] := List.getElem?_eq_getElem (by omega)
  rw [rank_snoc hv] at h
  by_cases hr : r < rank ls S n
  ·obtain ⟨s, a, b⟩ := rank_ex (by omega) hr
   exact ⟨s, by omega, b⟩
  ·split at h
   ·rename_i he
    exact ⟨S, by omega, by rw [hv, he], by omega⟩
   ·omega
theorem whole {ls : List Int} (ok : OkC ls) (hw : wtM ls = 65536) {x : Int} (h0 : 0 ≤ x) (h1 : x < 65536) : ∃ s n : Nat, ls[s]? = some (n : Int) ∧ 1 ≤ n ∧ n ≤ 16 ∧ codeM ls s = x / 2 ^ (16 - n) := by
 have hW : W ls 16 = 65536 := by rw [W_all ok.w.rng, hw]
 have find : ∀ m : Nat, m ≤ 16 → x < W ls m → ∃ n, n < m ∧ W ls n ≤ x ∧ x < W ls (n + 1) := by
  intro m
  induction m with
  | zero => intro _ h; simp [W] at h; omega
  | succ m ih =>
   intro hm h
   by_cases hx : x < W ls m
   ·obtain ⟨n, a, b⟩ := ih (by omega) hx
    exact ⟨n, by omega, b⟩
   ·exact ⟨m, by omega, by omega, h⟩
 obtain ⟨n, hn, w1, w2⟩ := find 16 (Nat.le_refl _) (by omega)
 have b1 := base_W ls n (by omega)
 have b2 := base_W ls (n + 1) (by omega)
 have hp : (0 : Int) < 2 ^ (16 - (n + 1)) := Int.pow_pos (by omega)
 have hb : base ls (n + 1) * 2 ^ (16 - (n + 1)) = W ls n := by
  rw [← b1]
  have e : 16 - n = 16 - (n + 1) + 1 := by omega
  rw [e, Int.pow_succ]
  show 2 * (base ls n + cnt ls n) * 2 ^ (16 - (n + 1)) = _
  generalize (2 : Int) ^ (16 - (n + 1)) = z
  rw [Int.mul_comm z 2, ← Int.mul_assoc, Int.mul_comm (base ls n + (cnt ls n : Int)) 2]
 have y1 : base ls (n + 1) ≤ x / 2 ^ (16 - (n + 1)) := (Int.le_ediv_iff_mul_le hp).2 (by omega)
 have y2 : x / 2 ^ (16 - (n + 1)) < base ls (n + 1) + cnt ls (n + 1) := Int.ediv_lt_of_lt_mul hp (by omega)
 have hc : cnt ls (n + 1) = rank ls ls.length (n + 1) := by unfold cnt; rw [if_neg (by omega)]
 obtain ⟨s, _, hs, hr⟩ := rank_ex (ls := ls) (n := n + 1) (r := (x / 2 ^ (16 - (n + 1)) - base ls (n + 1)).toNat) (S := ls.length) (Nat.le_refl _) (by omega)
 refine ⟨s, n + 1, hs, by omega, by omega, ?_⟩
 rw [codeM_pos hs (by omega), hr]
 omega
section
variable {ls : List Int} {P : List (Nat × Int)} {F : List Int}
theorem stepM_of {L : Nat} (hP : P.length = L) (t : Trie ls (· < ls.length) (· < ls.length) P F) {k : Nat} {y : Nat × Int} (hk : P[k]? = some y) (bit : Int) : ∃ x, F[k * 2 + (bit % 2).toNat]? = some x ∧ stepM F L (k : Int) bit = if x > 0 then (x, -1) else if x < 0 then (0, -1 - x) else (-1, -1) := by
 have hb : (bit % 2).toNat < 2 := by omega
 obtain ⟨x, hx⟩ := t.get hk hb
 have hkl := (List.getElem?_eq_some_iff.1 hk).1
 refine ⟨x, hx, ?_⟩
 unfold stepM
 rw [if_neg (by omega), Int.toNat_natCast, List.getD_eq_getElem?_getD, hx]
 rfl
theorem step_sym {L : Nat} (ok : OkC ls) (hP : P.length = L) (t : Trie ls (· < ls.length) (· < ls.length) P F) {k n s : Nat} {v bit : Int} (hk : P[k]? = some (n, v)) (hs : ls[s]? = some ((n + 1 : Nat) : Int)) (hc : codeM ls s = 2 * v + bit % 2) : stepM F L (k : Int) bit = (0, (s : Int)) := by
 obtain ⟨x, hx, e⟩ := stepM_of hP t hk bit
 have hb : (bit % 2).toNat < 2 := by omega
 have hsl := (List.getElem?_eq_some_iff.1 hs).1
 have := (t.step ok (fun s hs => hs) hk hb hx).1 s hsl hs (by omega)
 rw [e, if_neg (by omega), if_pos (by omega)]
 congr 1; omega
theorem step_on {L : Nat} (ok : OkC ls) (hP : P.length = L) (t : Trie ls (· < ls.length) (· < ls.length) P F) {k n s m : Nat} {v bit : Int} (hk : P[k]? = some (n, v)) (hs : ls[s]? = some (m : Int)) (hm : n + 1 < m) (hc : codeM ls s / 2 ^ (m - (n + 1)) = 2 * v + bit % 2) :
    ∃ j : Nat, 0 < j ∧ stepM F L (k : Int) bit = ((j : Int), -1) ∧ P[j]? = some (n + 1, 2 * v + bit % 2) := by
  obtain ⟨x, hx, e⟩ := stepM_of hP t hk bit
  have hb : (bit % 2).toNat < 2 := by omega
  have hsl := (List.getElem?_eq_some_iff.1 hs).1
  have hbb : 2 * v + ((bit % 2).toNat : Int) = 2 * v + bit % 2 := by omega
  obtain ⟨h0, hp⟩ := (t.step ok (fun s hs => hs) hk hb hx).2 s m hsl hs hm (by rw [hbb]; exact hc)
  rw [hbb] at hp
  refine ⟨x.toNat, by omega, ?_, hp⟩
  rw [e, if_pos h0]
  congr 1; omega
theorem step_off {L : Nat} (hP : P.length = L) (t : Trie ls (· < ls.length) (· < ls.length) P F) {k n : Nat} {v bit : Int} (hk : P[k]? = some (n, v)) (h1 : ∀ s : Nat, ls[s]? = some ((n + 1 : Nat) : Int) → codeM ls s ≠ 2 * v + bit % 2)
    (h2 : ∀ s m : Nat, ls[s]? = some (m : Int) → n + 1 < m → codeM ls s / 2 ^ (m - (n + 1)) ≠ 2 * v + bit % 2) : stepM F L (k : Int) bit = (-1, -1) := by
  obtain ⟨x, hx, e⟩ := stepM_of hP t hk bit
  have hb : (bit % 2).toNat < 2 := by omega
  have hbb : 2 * v + ((bit % 2).toNat : Int) = 2 * v + bit % 2 := by omega
  have n1 : ¬ x > 0 := fun h => by
    have hp := t.up _ _ _ _ _ hk hb hx h
    obtain ⟨s, m, _, a, b, c⟩ := t.beg _ _ _ hp (by omega)
    rw [hbb] at c
    exact h2 s m a b c
  have n2 : ¬ x < 0 := fun h => by
    obtain ⟨s, _, _, a, b⟩ := t.sy _ _ _ _ _ hk hb hx h
    rw [hbb] at b
    exact h1 s a b
  rw [e, if_neg n1, if_neg n2]
theorem Trie.rng2 {L : Nat} (hP : P.length = L) (hL : L ≤ 5000) (hl : ls.length ≤ 300) (t : Trie ls (· < ls.length) (· < ls.length) P F) : ∀ x ∈ F, -1000000 ≤ x ∧ x ≤ 1000000 := fun x hx => by
 have := t.rng x hx; omega
theorem Trie.val (ok : OkC ls) (t : Trie ls (· < ls.length) (· < ls.length) P F) {k n : Nat} {v : Int} (hk : P[k]? = some (n, v)) (hn : 0 < n) : n ≤ 16 ∧ 0 ≤ v ∧ v ≤ 65536 := by
 obtain ⟨s, m, _, a, b, c⟩ := t.beg _ _ _ hk hn
 have hm := ok.w.rng _ (List.mem_of_getElem? a)
 have hr := code_rng ok a (by omega)
 have h2 : (2 : Int) ^ m ≤ 65536 := by
  have h2 : 2 ^ m ≤ 2 ^ 16 := Nat.pow_le_pow_right (by omega) (by omega)
  have h3 : ((2 ^ m : Nat) : Int) = (2 : Int) ^ m := by simp
  have h4 : (2 : Nat) ^ 16 = 65536 := rfl
  omega
 have h5 : 0 ≤ codeM ls s / 2 ^ (m - n) := Int.ediv_nonneg hr.1 (Int.pow_nonneg (by omega))
 have h6 : codeM ls s / 2 ^ (m - n) ≤ codeM ls s := Int.ediv_le_self _ hr.1
 omega
end
theorem div_bit (x : Int) (k : Nat) : 2 * (x / 2 ^ (k + 1)) + x / 2 ^ k % 2 = x / 2 ^ k := by rw [div_two_pow]; omega
end Go.Proofs
namespace Go.Proofs
open Go.Sh
def getM (B : List Int) (n at_ : Nat) : Except Int (Int × Nat) :=
 if at_ + n ≤ 8 * B.length then .ok (numB false B at_ n, at_ + n) else .error 20
def findM (ls : List Int) (n : Nat) (v : Int) : Option Nat := (List.range ls.length).find? fun s => ls.getD s 0 == (n : Int) && codeM ls s == v
def begM (ls : List Int) (n : Nat) (v : Int) : Bool := (List.range ls.length).any fun s => decide ((n : Int) < ls.getD s 0) && codeM ls s / 2 ^ ((ls.getD s 0).toNat - n) == v
theorem findM_some {ls : List Int} {n s : Nat} {v : Int} (h : findM ls n v = some s) : ls[s]? = some (n : Int) ∧ codeM ls s = v := by
 unfold findM at h
 have h1 := List.find?_some h
 have h2 := List.mem_range.1 (List.mem_of_find?_eq_some h)
 simp only [Bool.and_eq_true, beq_iff_eq] at h1
 exact ⟨by rw [get_gD ls 0 h2, h1.1], h1.2⟩
theorem findM_none {ls : List Int} {n : Nat} {v : Int} (h : findM ls n v = none) {s : Nat} (hs : ls[s]? = some (n : Int)) : codeM ls s ≠ v := fun hc => by
 unfold findM at h
 rw [List.find?_eq_none] at h
 have := h s (List.mem_range.2 (List.getElem?_eq_some_iff.1 hs).1)
 rw [gD_get hs, hc] at this
 simp at this
theorem findM_eq {ls : List Int} (ok : OkC ls) {n s : Nat} {v : Int} (hn : 0 < n) (hs : ls[s]? = some (n : Int)) (hc : codeM ls s = v) : findM ls n v = some s := by
 cases h : findM ls n v with
 | none => exact absurd hc (findM_none h hs)
 | some t =>
  obtain ⟨h1, h2⟩ := findM_some h
  by_cases he : t = s
  ·rw [he]
  ·have := no_prefix ok he h1 hs hn (Nat.le_refl n)
   rw [Nat.sub_self, Int.pow_zero, Int.ediv_one] at this
   exact absurd (hc.trans h2.symm) this
theorem begM_true {ls : List Int} (hr : ∀ x ∈ ls, 0 ≤ x ∧ x ≤ 16) {n : Nat} {v : Int} (h : begM ls n v = true) : ∃ s m : Nat, ls[s]? = some (m : Int) ∧ n < m ∧ codeM ls s / 2 ^ (m - n) = v := by
 unfold begM at h
 rw [List.any_eq_true] at h
 obtain ⟨s, h1, h2⟩ := h
 have h1 := List.mem_range.1 h1
 simp only [Bool.and_eq_true, decide_eq_true_eq, beq_iff_eq] at h2
 have hs := get_gD ls 0 h1
 have := hr _ (List.mem_of_getElem? hs)
 refine ⟨s, (ls.getD s 0).toNat, by rw [hs]; congr 1; omega, by omega, h2.2⟩
theorem begM_false {ls : List Int} {n : Nat} {v : Int} (h : begM ls n v = false) {s m : Nat} (hs : ls[s]? = some (m : Int)) (hm : n < m) : codeM ls s / 2 ^ (m - n) ≠ v := fun hc => by
 unfold begM at h
 rw [List.any_eq_false] at h
 have := h s (List.mem_range.2 (List.getElem?_eq_some_iff.1 hs).1)
 rw [gD_get hs] at this
 simp only [Int.toNat_natCast, hc, beq_self_eq_true, Bool.and_true, decide_eq_true_eq] at this
 omega
theorem begM_mk {ls : List Int} {n s m : Nat} {v : Int} (hs : ls[s]? = some (m : Int)) (hm : n < m) (hc : codeM ls s / 2 ^ (m - n) = v) : begM ls n v = true := by
 cases h : begM ls n v with
 | true => rfl
 | false => exact absurd hc (begM_false h hs hm)
def symG (ls B : List Int) : Nat → Nat → Int → Nat → Except Int (Nat × Nat)
 | 0, _, _, _ => .error 21
 | f + 1, n, v, at_ => match getM B 1 at_ with
  | .error e => .error e
  | .ok (b, at') => match findM ls (n + 1) (2 * v + b) with
   | some s => .ok (s, at')
   | none => if begM ls (n + 1) (2 * v + b) then symG ls B f (n + 1) (2 * v + b) at' else .error 21
def symM (ls B : List Int) (at_ : Nat) : Except Int (Nat × Nat) := symG ls B 17 0 0 at_
def lenB (s : Nat) : Nat × Nat := if s < 265 then (s - 254, 0) else if s = 285 then (258, 0) else (3 + (4 + (s - 257) % 4) * 2 ^ ((s - 257) / 4 - 1), (s - 257) / 4 - 1)
def dstB (s : Nat) : Nat × Nat := if s < 4 then (1 + s, 0) else (1 + (2 + s % 2) * 2 ^ (s / 2 - 1), s / 2 - 1)
def copyM (d : Nat) : Nat → List Int → List Int
 | 0, out => out
 | n + 1, out => copyM d n (out ++ [out.getD (out.length - d) 0])
theorem copyM_len (d : Nat) : ∀ (n : Nat) (out : List Int), (copyM d n out).length = out.length + n
 | 0, out => rfl
 | n + 1, out => by rw [copyM, copyM_len d n, List.length_append, List.length_singleton]; omega
def copiesM (B : List Int) (most : Int) (dl : List Int) (s at_ : Nat) (out : List Int) : Except Int (Nat × List Int) :=
 if s > 285 then .error 25 else
 match getM B (lenB s).2 at_ with
 | .error e => .error e
 | .ok (x, at1) => match symM dl B at1 with
  | .error e => .error e
  | .ok (t, at2) => if t > 29 then .error 25 else match getM B (dstB t).2 at2 with
   | .error e => .error e
   | .ok (y, at3) =>
    if (dstB t).1 + y > out.length then .error 22 else if (lenB s).1 + x > most - out.length then .error 24 else .ok (at3, copyM ((dstB t).1 + y.toNat) ((lenB s).1 + x.toNat) out)
def symsM (B : List Int) (most : Int) (ll dl : List Int) : Nat → Nat → List Int → Except Int (Nat × List Int)
  | 0, _, _ => .error 20
  | f + 1, at_, out => match symM ll B at_ with
    | .error e => .error e
    | .ok (s, at1) => if s = 256 then .ok (at1, out) else if s > 256 then (match copiesM B most dl s at1 out with
        | .error e => .error e
        | .ok (at2, out2) => symsM B most ll dl f at2 out2)
      else if (out.length : Int) ≥ most then .error 24 else symsM B most ll dl f at1 (out ++ [(s : Int)])
def symbolsM (B : List Int) (most : Int) (ll dl : List Int) (at_ : Nat) (out : List Int) : Except Int (Nat × List Int) := symsM B most ll dl (8 * B.length + 1) at_ out
def bytesM (B : List Int) : Nat → Nat → List Int → Except Int (Nat × List Int)
 | 0, at_, out => .ok (at_, out)
 | n + 1, at_, out => match getM B 8 at_ with
  | .error e => .error e
  | .ok (c, at1) => bytesM B n at1 (out ++ [c])
def storedM (B : List Int) (most : Int) (at_ : Nat) (out : List Int) : Except Int (Nat × List Int) :=
 match getM B 16 ((at_ + 7) / 8 * 8) with
 | .error e => .error e
 | .ok (n, at1) => match getM B 16 at1 with
  | .error e => .error e
  | .ok (m, at2) => if m ≠ 65535 - n then .error 25 else if n > most - out.length then .error 24 else bytesM B n.toNat at2 out
def fixL : List Int := List.replicate 144 8 ++ List.replicate 112 9 ++ List.replicate 24 7 ++ List.replicate 8 8
def fixD : List Int := List.replicate 32 5
def ordL : List Nat := [16, 17, 18, 0, 8, 7, 9, 6, 10, 5, 11, 4, 12, 3, 13, 2, 14, 1, 15]
def firstM (B : List Int) : List Nat → Nat → List Int → Except Int (Nat × List Int)
 | [], at_, fs => .ok (at_, fs)
 | s :: r, at_, fs => match getM B 3 at_ with
  | .error e => .error e
  | .ok (v, at1) => firstM B r at1 (fs.set s v)
def rightM (ls : List Int) (single none_ : Bool) : Bool :=
 (decide (ls.length ≤ 300) && ls.all fun n => decide (0 ≤ n ∧ n ≤ 16)) && (wtM ls == 65536 || (single && wtM ls == 32768 && ls.countP (fun x => decide (x > 0)) == 1) || (none_ && wtM ls == 0))
def listM (B : List Int) (first : List Int) (total : Nat) : Nat → Nat → List Int → Except Int (Nat × List Int)
 | 0, _, _ => .error 20
 | f + 1, at_, ls => if ls.length ≥ total then .ok (at_, ls) else match symM first B at_ with
  | .error e => .error e
  | .ok (s, at1) =>
   if s = 16 then (match getM B 2 at1 with
    | .error e => .error e
    | .ok (x, at2) => match ls.getLast? with
     | none => .error 21
     | some v => if 3 + x > (total : Int) - ls.length then .error 21 else listM B first total f at2 (ls ++ List.replicate (3 + x).toNat v))
   else if s = 17 then (match getM B 3 at1 with
    | .error e => .error e
    | .ok (x, at2) => if 3 + x > (total : Int) - ls.length then .error 21 else listM B first total f at2 (ls ++ List.replicate (3 + x).toNat 0))
   else if s = 18 then (match getM B 7 at1 with
    | .error e => .error e
    | .ok (x, at2) => if 11 + x > (total : Int) - ls.length then .error 21 else listM B first total f at2 (ls ++ List.replicate (11 + x).toNat 0))
   else listM B first total f at1 (ls ++ [(s : Int)])
def tablesM (B : List Int) (at_ : Nat) : Except Int (Nat × List Int × List Int) :=
 match getM B 5 at_ with
 | .error e => .error e
 | .ok (hl, at1) => match getM B 5 at1 with
  | .error e => .error e
  | .ok (hd, at2) => match getM B 4 at2 with
   | .error e => .error e
   | .ok (hc, at3) => if hl > 29 ∨ hd > 29 then .error 25 else match firstM B (ordL.take (hc.toNat + 4)) at3 (List.replicate 19 0) with
    | .error e => .error e
    | .ok (at4, first) => if rightM first false false = false then .error 21 else match listM B first (hl.toNat + hd.toNat + 258) (8 * B.length + 2) at4 [] with
     | .error e => .error e
     | .ok (at5, ls) => if rightM (ls.take (hl.toNat + 257)) true false = false ∨ rightM (ls.drop (hl.toNat + 257)) true true = false then .error 21 else .ok (at5, ls.take (hl.toNat + 257), ls.drop (hl.toNat + 257))
abbrev TabT := List Int → Nat → Except Int (Nat × List Int × List Int)
def blocksM (T : TabT) (B : List Int) (most : Int) : Nat → Nat → List Int → Except Int (Nat × List Int)
 | 0, _, _ => .error 20
 | f + 1, at_, out => match getM B 1 at_ with
  | .error e => .error e
  | .ok (last, at1) => match getM B 2 at1 with
   | .error e => .error e
   | .ok (kind, at2) =>
    match (if kind = 0 then storedM B most at2 out else if kind = 1 then symbolsM B most fixL fixD at2 out else if kind = 2 then (match T B at2 with
     | .error e => .error e
     | .ok (at3, ll, dl) => symbolsM B most ll dl at3 out) else .error 25) with
    | .error e => .error e
    | .ok (at3, out3) => if last = 1 then .ok (at3, out3) else blocksM T B most f at3 out3
def inflM (T : TabT) (B : List Int) (most : Int) : Except Int (List Int × Nat) :=
 match blocksM T B (max most 0) (8 * B.length + 1) 0 [] with
 | .error e => .error e
 | .ok (at_, out) => .ok (out, (at_ + 7) / 8)
def noT : TabT := fun _ _ => .error 99
end Go.Proofs
namespace Go.Proofs
open Go.Sh
def Has (B : List Int) (a : Nat) (ws : List Int) : Prop := a + ws.length ≤ 8 * B.length ∧ ∀ i : Nat, i < ws.length → bitB false B (a + i) = ws.getD i 0
theorem Has.of {ws B : List Int} (h : WOk false ws B) : Has B 0 ws := ⟨by have := h.len; omega, fun i hi => by rw [Nat.zero_add]; exact h.bit i⟩
theorem Has.app {B x y : List Int} {a : Nat} (h : Has B a (x ++ y)) : Has B a x ∧ Has B (a + x.length) y := by
 obtain ⟨h1, h2⟩ := h
 rw [List.length_append] at h1
 refine ⟨⟨by omega, fun i hi => ?_⟩, ⟨by omega, fun i hi => ?_⟩⟩
 ·rw [h2 i (by rw [List.length_append]; omega), gD_left _ _ _ _ hi]
 ·rw [Nat.add_assoc, h2 (x.length + i) (by rw [List.length_append]; omega), gD_right _ _ _ _ (by omega), Nat.add_sub_cancel_left]
theorem bitsOf_get {hi : Bool} {v : Int} {n k : Nat} (hk : k < n) : (bitsOf hi v n).getD k 0 = v / 2 ^ (if hi then n - 1 - k else k) % 2 := by
 apply gD_get
 simp [bitsOf, hk]
theorem numB_of {B : List Int} {a m : Nat} : ∀ {n : Nat}, (∀ k, k < n → bitB false B (a + k) = (m : Int) / 2 ^ k % 2) → numB false B a n = ((m % 2 ^ n : Nat) : Int)
 | 0, _ => by simp [numB, Nat.mod_one]
 | n + 1, h => by
  rw [numB, numB_of (fun k hk => h k (by omega)), h n (by omega), Nat.pow_succ, Nat.mod_mul, if_neg (by decide), ← pow_cast]
  rw [← Int.natCast_ediv]
  have : ((m / 2 ^ n : Nat) : Int) % 2 = ((m / 2 ^ n % 2 : Nat) : Int) := by omega
  rw [this, ← Int.natCast_mul, Nat.mul_comm]
  omega
theorem getM_has {B : List Int} {a n : Nat} {v : Int} (h : Has B a (bitsOf false v n)) (h0 : 0 ≤ v) (h1 : v < 2 ^ n) : getM B n a = .ok (v, a + n) := by
 obtain ⟨m, rfl⟩ := Int.eq_ofNat_of_zero_le h0
 unfold getM
 have hl := h.1
 rw [bitsOf_len] at hl
 rw [if_pos hl, numB_of (m := m) fun k hk => by
  rw [h.2 k (by rw [bitsOf_len]; exact hk), bitsOf_get hk]; rfl]
 rw [← pow_cast] at h1
 rw [Nat.mod_eq_of_lt (by omega)]
def symBits (ls : List Int) (s : Nat) : List Int := bitsOf true (codeM ls s) (ls.getD s 0).toNat
theorem symBits_len (ls : List Int) (s : Nat) : (symBits ls s).length = (ls.getD s 0).toNat := bitsOf_len _ _ _
theorem getM_bit {B : List Int} {a : Nat} {ws : List Int} (h : Has B a ws) {j : Nat} (hj : j < ws.length) (hb : ws.getD j 0 = 0 ∨ ws.getD j 0 = 1) : getM B 1 (a + j) = .ok (ws.getD j 0, a + j + 1) := by
 unfold getM
 have := h.1
 rw [if_pos (by omega), numB, numB, if_neg (by decide), Nat.add_zero, h.2 j hj]
 simp
theorem symG_has {ls B : List Int} (ok : OkC ls) {a s m : Nat} (hs : ls[s]? = some (m : Int)) (h : Has B a (bitsOf true (codeM ls s) m)) : ∀ (d j f : Nat), j + d = m → 0 < d → d ≤ f → symG ls B f j (codeM ls s / 2 ^ (m - j)) (a + j) = .ok (s, a + m)
 | 0, j, f, hj, h0, hf => by omega
 | d + 1, j, f, hj, h0, hf => by
  obtain ⟨f, rfl⟩ : ∃ g, f = g + 1 := ⟨f - 1, by omega⟩
  have hg : (bitsOf true (codeM ls s) m).getD j 0 = codeM ls s / 2 ^ (m - 1 - j) % 2 := by rw [bitsOf_get (by omega), if_pos rfl]
  have hb : getM B 1 (a + j) = .ok (codeM ls s / 2 ^ (m - 1 - j) % 2, a + j + 1) := by
   rw [← hg]
   exact getM_bit h (by rw [bitsOf_len]; omega) (by rw [hg]; omega)
  have hv : 2 * (codeM ls s / 2 ^ (m - j)) + codeM ls s / 2 ^ (m - 1 - j) % 2 = codeM ls s / 2 ^ (m - 1 - j) := by
   have := div_bit (codeM ls s) (m - 1 - j)
   rwa [show m - 1 - j + 1 = m - j from by omega] at this
  unfold symG
  rw [hb]
  simp only
  rw [hv]
  by_cases hd : d = 0
  ·subst hd
   have e : m - 1 - j = 0 := by omega
   have hm : j + 1 = m := by omega
   rw [e, Int.pow_zero, Int.ediv_one, hm, findM_eq ok (by omega) hs rfl]
   simp only
   congr 2
   omega
  ·have hf' : findM ls (j + 1) (codeM ls s / 2 ^ (m - 1 - j)) = none := by
    cases hf2 : findM ls (j + 1) (codeM ls s / 2 ^ (m - 1 - j)) with
    | none => rfl
    | some t =>
     obtain ⟨h1, h2⟩ := findM_some hf2
     have hts : t ≠ s := fun he => by subst he; rw [hs] at h1; have := Option.some.inj h1; omega
     have := no_prefix ok hts h1 hs (by omega) (by omega)
     rw [show m - (j + 1) = m - 1 - j from by omega] at this
     exact absurd h2.symm this
   have hbg : begM ls (j + 1) (codeM ls s / 2 ^ (m - 1 - j)) = true := begM_mk hs (by omega) (by rw [show m - (j + 1) = m - 1 - j from by omega])
   rw [hf', hbg]
   simp only [if_true]
   have := symG_has ok hs h d (j + 1) f (by omega) (by omega) (by omega)
   rw [show m - (j + 1) = m - 1 - j from by omega] at this
   exact this
theorem symM_has {ls B : List Int} (ok : OkC ls) {a s : Nat} (hs : 0 < ls.getD s 0) (h : Has B a (symBits ls s)) : symM ls B a = .ok (s, a + (ls.getD s 0).toNat) := by
 have hl : s < ls.length := by
  rcases Nat.lt_or_ge s ls.length with h | h
  ·exact h
  ·rw [gD_none _ _ h] at hs; omega
 have hg := get_gD ls 0 hl
 have hr := ok.w.rng _ (List.mem_of_getElem? hg)
 have hs' : ls[s]? = some ((ls.getD s 0).toNat : Int) := by rw [hg]; congr 1; omega
 have hc := code_rng ok hs' (by omega)
 have := symG_has ok hs' h (ls.getD s 0).toNat 0 17 (by omega) (by omega) (by omega)
 rw [Nat.sub_zero, Int.ediv_eq_zero_of_lt hc.1 hc.2] at this
 exact this
end Go.Proofs
namespace Go.Proofs
open Go.Sh
theorem wdiv8 (n : Nat) (h : n ≤ 1000000000000) : IntKind.wrap .i64 (Int.tdiv (n : Int) (8 : Int)) = ((n / 8 : Nat) : Int) := by
 rw [Int.tdiv_eq_ediv_of_nonneg (by omega), wrap_id (by omega) (by omega)]; omega
theorem tmod8 (n : Nat) : Int.tmod (n : Int) (8 : Int) = ((n % 8 : Nat) : Int) := by rw [Int.tmod_eq_emod_of_nonneg (by omega)]; omega
theorem c69 {H : Heap} {n : Nat} {hi : Bool} {R : Value → Heap → Prop} (hR : R (.int .i64 (bpos hi n)) H) : CallsH Try.prog 69 #[.int .i64 n, .bool hi] H R := by
 refine Try.s69 ?_
 unfold Try.S69
 rw [tmod8]
 unfold bpos at hR
 refine br_i (fun h => ⟨by decide, ?_⟩) (fun h => ⟨by decide, ?_⟩)
 ·subst h
  rw [if_pos rfl] at hR
  rw [wrap_id (by omega) (by omega), show ((7 : Int) - ((n % 8 : Nat) : Int)) = ((7 - n % 8 : Nat) : Int) from by omega]
  exact hR
 ·subst h
  rw [if_neg (by decide)] at hR
  exact hR
def wrR (b : Nat) (hi : Bool) (ws : List Int) : Rs :=
 .ex fun (x : Option Addr × Nat × Nat × List Int) => .pu (WOk hi ws x.2.2.2 ∧ ws.length ≤ 1000000000) (.star (.cell b #[.slice x.1 x.2.1 x.2.2.1, .int .i64 ws.length, .bool hi] 89) (.sl x.1 x.2.1 x.2.2.1 5 1 (kints .u8 x.2.2.2)))
variable {H0 H : Heap} {σ : List Rs} {R : Value → Heap → Prop}
theorem wrR_mk {b : Nat} {hi : Bool} {ws : List Int} {p : Option Addr} {l c : Nat} {B : List Int} (ok : WOk hi ws B) (hl : ws.length ≤ 1000000000) (hs : St H0 H (.cell b #[.slice p l c, .int .i64 ws.length, .bool hi] 89 :: .sl p l c 5 1 (kints .u8 B) :: σ)) : St H0 H (wrR b hi ws :: σ) :=
 St.inex (f := fun (x : Option Addr × Nat × Nat × List Int) => .pu (WOk hi ws x.2.2.2 ∧ ws.length ≤ 1000000000) (.star (.cell b #[.slice x.1 x.2.1 x.2.2.1, .int .i64 ws.length, .bool hi] 89) (.sl x.1 x.2.1 x.2.2.1 5 1 (kints .u8 x.2.2.2)))) (p, l, c, B) (St.with ⟨ok, hl⟩ hs.cat)
theorem wrR_op {b : Nat} {hi : Bool} {ws : List Int} (hs : St H0 H (wrR b hi ws :: σ)) : ∃ p l c B, WOk hi ws B ∧ ws.length ≤ 1000000000 ∧ l = B.length ∧ St H0 H (.cell b #[.slice p l c, .int .i64 ws.length, .bool hi] 89 :: .sl p l c 5 1 (kints .u8 B) :: σ) := by
 obtain ⟨⟨p, l, c, B⟩, hs⟩ := hs.unex
 obtain ⟨⟨ok, hl⟩, hs⟩ := hs.fact
 have := (hs.cut.is 1 rfl).length
 exact ⟨p, l, c, B, ok, hl, this.symm, hs.cut⟩
theorem c16 (hs : St H0 H σ) {hi : Bool} (hR : ∀ b H', St H0 H' (wrR b hi [] :: σ) → R (.pointer (some ⟨b, 0, none⟩)) H') : CallsH Try.prog 16 #[.bool hi] H R := by
 refine Try.s16 ?_
 unfold Try.S16
 exact hs.alc fun b H' hs => hR b H' (wrR_mk (WOk.nil hi) (by simp) ((hs.nilSl 5 1).swap))
theorem c42 (hs : St H0 H σ) {i b : Nat} {hi : Bool} {ws : List Int} (hi' : σ[i]? = some (wrR b hi ws)) (hl : ws.length < 1000000000) {v : Int}
    (hR : ∀ H', St H0 H' (σ.set i (wrR b hi (ws ++ [v % 2]))) → R (.tuple #[]) H') : CallsH Try.prog 42 #[.pointer (some ⟨b, 0, none⟩), .int .i64 v] H R := by
  obtain ⟨p, l, c, B, ok, _, hlB, hs⟩ := wrR_op (hs.front i hi')
  refine Try.s42 ?_
  unfold Try.S42
  intro J hJ
  have hB := ok.len
  have fin : ∀ H' p l c C, C = (if ws.length % 8 = 0 then B ++ [0] else B) → St H0 H' (.cell b #[.slice p l c, .int .i64 ws.length, .bool hi] 89 :: .sl p l c 5 1 (kints .u8 C) :: σ.eraseIdx i) → J [] H' := by
    intro H' p l c C hC hs
    obtain ⟨x, hx, x0, x1, ok'⟩ := ok.put (b := v % 2) (by omega) hC
    have hCl := (List.getElem?_eq_some_iff.1 hx).1
    have hlC := (hs.is 1 rfl).length
    obtain ⟨blk, hp⟩ := hs.slSome 1 rfl (j := ws.length / 8) (by rw [kints_len]; exact hCl)
    subst hp
    refine hJ H' ⟨_, rfl, _, l, c, hs.get 0 rfl rfl, _, rfl, ws.length, hs.get 0 (j := 1) rfl rfl, by decide, ?_⟩
    rw [wdiv8 _ (by omega), Int.toNat_natCast]
    have hg := (hs.is 1 rfl).rd (i := ((ws.length / 8 : Nat) : Int)) (by omega) (by omega) (by rw [Int.toNat_natCast]; exact hx) (K := fun y => y = x) rfl
    rw [Int.toNat_natCast] at hg
    obtain ⟨a, ha, g0, g1, y, g2, rfl⟩ := hg
    cases ha
    refine ⟨_, rfl, by omega, by omega, y, g2, _, rfl, ws.length, hs.get 0 (j := 1) rfl rfl, _, rfl, hi, hs.get 0 (j := 2) rfl rfl, c69 ⟨_, rfl, .inl (Ext.refl _), by omega, _, rfl, by omega, by omega, ?_⟩⟩
    rw [andI_1, add_none, Nat.zero_add, Nat.mul_one]
    refine hs.slPut 1 rfl (by rw [kints_len]; exact hCl) rfl fun H2 hs => ⟨_, rfl, ws.length, hs.get 0 (j := 1) rfl rfl, _, rfl, ?_⟩
    rw [add_none, Nat.zero_add, wrap_id (by omega) (by omega)]
    refine hs.put 0 rfl (by simp) rfl fun H3 hs => hR H3 (St.back hi' (wrR_mk (p := some ⟨blk, 0, none⟩) (l := l) (c := c) ok' (by simp; omega) ?_))
    rw [wrap_u8 (by omega) (by omega), List.set_cons_succ, List.set_cons_zero, kints_set] at hs
    have e : (#[Value.slice (some ⟨blk, 0, none⟩) l c, .int .i64 (ws.length : Int), .bool hi] : Array Value).setIfInBounds 1 (.int .i64 ((ws.length : Int) + 1)) = #[Value.slice (some ⟨blk, 0, none⟩) l c, .int .i64 (((ws ++ [v % 2]).length : Nat) : Int), .bool hi] := by simp
    rw [List.set_cons_zero, e] at hs
    exact hs
  refine ⟨_, rfl, ws.length, hs.get 0 (j := 1) rfl rfl, by decide, ?_⟩
  rw [tmod8]
  refine br_eq (fun h8 => ?_) (fun h8 => fin H p l c B (by rw [if_neg (by omega)]) hs)
  refine ⟨_, rfl, p, l, c, hs.get 0 rfl rfl, hs.alc fun b2 H2 hs => ?_⟩
  refine hs.appC 2 0 (el := 5) (k := 1) rfl rfl rfl (one1 rfl) (by decide) rfl (by omega) (by omega) fun p' c' H3 hs => ⟨_, rfl, ?_⟩
  refine hs.put 1 rfl (by simp) rfl fun H4 hs => ?_
  exact fin H4 p' (l + 1) c' (B ++ [0]) (by rw [if_pos (by omega)]) (by rw [kints_append]; exact hs.tail)
theorem setset (σ : List Rs) (i : Nat) (r s : Rs) : (σ.set i r).set i s = σ.set i s := List.set_set _
theorem setget {σ : List Rs} {i : Nat} {r : Rs} (h : σ[i]? = some r) (s : Rs) : (σ.set i s)[i]? = some s := List.getElem?_set_self (List.getElem?_eq_some_iff.1 h).1
theorem wrR_len (hs : St H0 H σ) {i b : Nat} {hi : Bool} {ws : List Int} (hi' : σ[i]? = some (wrR b hi ws)) : ws.length ≤ 1000000000 := by
 obtain ⟨_, _, _, _, _, h, _⟩ := wrR_op (hs.front i hi'); exact h
theorem c17 (hs : St H0 H σ) {i b : Nat} {hi : Bool} {ws : List Int} (hi' : σ[i]? = some (wrR b hi ws)) {v n : Int} (hl : ws.length + n.toNat ≤ 1000000000)
    (hbad : ¬ (0 ≤ n ∧ n ≤ 24 ∧ 0 ≤ v ∧ v < 2 ^ n.toNat) → R (.bool false) H)
    (hR : (0 ≤ n ∧ n ≤ 24 ∧ 0 ≤ v ∧ v < 2 ^ n.toNat) → ∀ H', St H0 H' (σ.set i (wrR b hi (ws ++ bitsOf hi v n.toNat))) → R (.bool true) H') : CallsH Try.prog 17 #[.pointer (some ⟨b, 0, none⟩), .int .i64 v, .int .i64 n] H R := by
  refine Try.s17 ?_
  unfold Try.S17
  intro J hJ
  refine br_dec (fun h => hbad (by omega)) (fun n0 => br_dec (fun h => hbad (by omega)) (fun n1 => br_dec (fun h => hbad (by omega)) (fun v0 => ⟨by omega, ?_⟩)))
  obtain ⟨m, rfl⟩ := Int.eq_ofNat_of_zero_le (show 0 ≤ n by omega)
  rw [Int.toNat_natCast] at *
  have hp : (2 : Int) ^ m ≤ 2 ^ 24 := pow_le (by omega)
  have e24 : (2 : Int) ^ 24 = 16777216 := by decide
  rw [shl_of (by omega) (by omega) (by omega), Int.one_mul]
  refine br_dec (fun h => hbad (by omega)) (fun v1 => hJ H ?_)
  have hR := hR ⟨by omega, by omega, by omega, by omega⟩
  intro X hX
  have go : ∀ k, k ≤ m → ∀ H', St H0 H' (σ.set i (wrR b hi (ws ++ (bitsOf hi v m).take k))) → X [.int .i64 k] H' := upto fun k hk ih H' hs => by
    refine hX _ H' (br_dec (fun hlt => ?_) (fun hge => ?_))
    · have hlt : k < m := by omega
      intro J2 hJ2
      have hwl := wrR_len hs (setget hi' _)
      rw [List.length_append, List.length_take, bitsOf_len] at hwl
      have nx : ∀ j : Nat, j = (if hi then m - 1 - k else k) → J2 [.int .i64 j] H' := fun j hj => by
        refine hJ2 _ H' ⟨by omega, ?_⟩
        have hj62 : j ≤ 62 := by rw [hj]; split <;> omega
        rw [shr_of _ hj62]
        refine c42 hs (setget hi' _) (by rw [List.length_append, List.length_take, bitsOf_len]; omega) fun H2 hs => ⟨rfl, ?_⟩
        rw [wrap_id (by omega) (by omega)]
        refine ih hlt H2 ?_
        rw [setset] at hs
        have : (bitsOf hi v m).take (k + 1) = (bitsOf hi v m).take k ++ [v / 2 ^ j % 2] := by
          rw [List.take_add_one]
          congr 1
          simp [bitsOf, hlt, hj]
        rw [this, ← List.append_assoc]; exact hs
      obtain ⟨p, l, c, B, _, _, _, hs2⟩ := wrR_op (hs.front i (setget hi' _))
      refine ⟨_, rfl, hi, hs2.get 0 (j := 2) rfl rfl, br_i (fun hh => ?_) (fun hh => ?_)⟩
      · rw [wrap_id (n := (m : Int) - 1) (by omega) (by omega), wrap_id (n := (m : Int) - 1 - k) (by omega) (by omega)]
        have := nx (m - 1 - k) (by rw [if_pos hh])
        rw [show ((m - 1 - k : Nat) : Int) = (m : Int) - 1 - k from by omega] at this
        exact this
      · exact nx k (by rw [if_neg (by rw [hh]; decide)])
    · have : k = m := by omega
      subst this
      refine hR H' ?_
      rw [List.take_of_length_le (by rw [bitsOf_len]; omega)] at hs
      exact hs
  refine go 0 (by omega) H ?_
  rw [List.take_zero, List.append_nil]
  obtain ⟨h1, h2⟩ := List.getElem?_eq_some_iff.1 hi'
  rw [← h2, List.set_getElem_self]; exact hs
end Go.Proofs
namespace Go.Proofs
open Go.Sh
variable {H0 H : Heap} {σ : List Rs} {R : Value → Heap → Prop}
theorem clone_of {ty : TypeId} {bytes : Nat} {zero : Array Value} {p : Option Addr} {l : Nat} {k : IntKind} {xs : List Int} (h : IS H p l (kints k xs)) (hl : l * bytes ≤ 70368744177664) (hm : l ≤ 1000000000000) (hz : zero.size = 1)
    (hR : ∀ q m H', St H H' [.sl q l m ty 1 (kints k xs)] → R (.slice q l m) H') :
    br (Option.isNone p) (R (.slice none 0 0) H) (alc H (.cells #[] ty) fun b H1 => appQ 1 bytes zero H1 (some ⟨b, 0, none⟩) 0 0 p l ty fun ap al ac H2 => R (.slice ap al ac) H2) := by
  have hs := St.nil H
  refine br_none (fun hp => ?_) (fun a hp => ?_)
  · subst hp
    have hx : xs = [] := List.eq_nil_iff_forall_not_mem.2 fun v hv => by
      obtain ⟨i, hi⟩ := List.getElem?_of_mem hv
      obtain ⟨a, h1, _⟩ := h.get i _ (kints_get hi)
      cases h1
    have hl0 : l = 0 := by have := h.length; rw [hx] at this; exact this.symm
    subst hx hl0
    exact hR none 0 H (hs.nilSl ty 1)
  · refine hs.alc fun b H1 hs => ?_
    have hs : St H H1 [.sl (some ⟨b, 0, none⟩) 0 0 ty 1 []] := hs.toSl 0 rfl rfl rfl (by simp)
    refine hs.appI 0 rfl (h.ext hs.ext) (kints_one k xs) hz (by rw [Nat.zero_add]; exact hl) (by omega) fun p' c' H2 hs => ?_
    rw [Nat.zero_add] at hs ⊢
    exact hR p' c' H2 hs
theorem c48 {p : Option Addr} {l c : Nat} {xs : List Int} (h : IS H p l (kints .u8 xs)) (hl : l ≤ 1000000000000)
    (hR : ∀ q m H', St H H' [.sl q l m 5 1 (kints .u8 xs)] → R (.slice q l m) H') : CallsH Try.prog 48 #[.slice p l c] H R :=
  Try.s48 (clone_of h (by omega) (by omega) rfl hR)
def fillM (ws : List Int) (v : Int) : List Int := ws ++ List.replicate ((8 - ws.length % 8) % 8) (v % 2)
theorem c55 (hs : St H0 H σ) {i b : Nat} {hi : Bool} {ws : List Int} (hi' : σ[i]? = some (wrR b hi ws)) (hl : ws.length < 999999990) {v : Int}
    (hR : ∀ H', St H0 H' (σ.set i (wrR b hi (fillM ws v))) → R (.tuple #[]) H') : CallsH Try.prog 55 #[.pointer (some ⟨b, 0, none⟩), .int .i64 v] H R := by
  refine Try.s55 ?_
  unfold Try.S55
  intro X hX
  have go : ∀ k, k ≤ (8 - ws.length % 8) % 8 → ∀ H', St H0 H' (σ.set i (wrR b hi (ws ++ List.replicate k (v % 2)))) → X [] H' := upto fun k hk ih H' hs => by
    obtain ⟨p, l, c, B, _, _, _, hs2⟩ := wrR_op (hs.front i (setget hi' _))
    refine hX H' ⟨_, rfl, _, hs2.get 0 (j := 1) rfl rfl, by decide, ?_⟩
    rw [tmod8, List.length_append, List.length_replicate]
    refine br_ne (fun hne => ?_) (fun he => ?_)
    · refine c42 hs (setget hi' _) (by rw [List.length_append, List.length_replicate]; omega) fun H2 hs => ⟨rfl, ih (by omega) H2 ?_⟩
      rw [setset] at hs
      rw [List.replicate_succ', ← List.append_assoc]; exact hs
    · have : k = (8 - ws.length % 8) % 8 := by omega
      subst this
      exact hR H' hs
  refine go 0 (by omega) H ?_
  rw [List.replicate_zero, List.append_nil]
  obtain ⟨h1, h2⟩ := List.getElem?_eq_some_iff.1 hi'
  rw [← h2, List.set_getElem_self]; exact hs
theorem c21 (hs : St H0 H σ) {i b : Nat} {hi : Bool} {ws : List Int} (hi' : σ[i]? = some (wrR b hi ws))
    (hR : ∀ q l m B H', WOk hi ws B → l = B.length → St H0 H' (.sl q l m 5 1 (kints .u8 B) :: σ) → R (.slice q l m) H') : CallsH Try.prog 21 #[.pointer (some ⟨b, 0, none⟩)] H R := by
  obtain ⟨p, l, c, B, ok, hw, hl, hs2⟩ := wrR_op (hs.front i hi')
  have := ok.len
  refine Try.s21 ⟨_, rfl, _, _, _, hs2.get 0 rfl rfl, c48 (hs2.is 1 rfl) (by omega) fun q m H' hs' => ⟨_, _, _, rfl, hR q l m B H' ok hl (hs.call hs')⟩⟩
def rdR (b : Nat) (B : List Int) (at_ : Nat) (hi : Bool) : Rs :=
 .ex fun (x : Option Addr × Nat) => .pu (at_ ≤ 8 * B.length ∧ B.length ≤ 1000000000 ∧ ∀ x ∈ B, 0 ≤ x ∧ x < 256) (.star (.cell b #[.slice x.1 B.length x.2, .int .i64 at_, .bool hi] 103) (.sl x.1 B.length x.2 5 1 (kints .u8 B)))
theorem rdR_mk {b at_ c : Nat} {B : List Int} {hi : Bool} {p : Option Addr} (h1 : at_ ≤ 8 * B.length) (h2 : B.length ≤ 1000000000) (h3 : ∀ x ∈ B, 0 ≤ x ∧ x < 256)
    (hs : St H0 H (.cell b #[.slice p B.length c, .int .i64 at_, .bool hi] 103 :: .sl p B.length c 5 1 (kints .u8 B) :: σ)) : St H0 H (rdR b B at_ hi :: σ) :=
  St.inex (f := fun (x : Option Addr × Nat) => .pu (at_ ≤ 8 * B.length ∧ B.length ≤ 1000000000 ∧ ∀ x ∈ B, 0 ≤ x ∧ x < 256) (.star (.cell b #[.slice x.1 B.length x.2, .int .i64 at_, .bool hi] 103) (.sl x.1 B.length x.2 5 1 (kints .u8 B)))) (p, c) (St.with ⟨h1, h2, h3⟩ hs.cat)
theorem rdR_op {b at_ : Nat} {B : List Int} {hi : Bool} (hs : St H0 H (rdR b B at_ hi :: σ)) : ∃ p c, at_ ≤ 8 * B.length ∧ B.length ≤ 1000000000 ∧ (∀ x ∈ B, 0 ≤ x ∧ x < 256) ∧
    St H0 H (.cell b #[.slice p B.length c, .int .i64 at_, .bool hi] 103 :: .sl p B.length c 5 1 (kints .u8 B) :: σ) := by
  obtain ⟨⟨p, c⟩, hs⟩ := hs.unex
  obtain ⟨⟨h1, h2, h3⟩, hs⟩ := hs.fact
  exact ⟨p, c, h1, h2, h3, hs.cut⟩
theorem c24 {p : Option Addr} {l c : Nat} {B : List Int} {hi : Bool} (h : IS H p l (kints .u8 B)) (hl : l ≤ 1000000000) (hB : ∀ x ∈ B, 0 ≤ x ∧ x < 256)
    (hR : ∀ b H', St H H' [rdR b B 0 hi] → R (.pointer (some ⟨b, 0, none⟩)) H') : CallsH Try.prog 24 #[.slice p l c, .bool hi] H R := by
  have hBl := h.length
  subst hBl
  exact Try.s24 (c48 h (by omega) fun q m H' hs => ⟨_, _, _, rfl, hs.alc fun b H2 hs => hR b H2 (rdR_mk (Nat.zero_le _) hl hB hs)⟩)
theorem c78 (hs : St H0 H σ) {i b at_ : Nat} {B : List Int} {hi : Bool} (hi' : σ[i]? = some (rdR b B at_ hi)) (hR : R (.int .i64 ((8 * B.length - at_ : Nat) : Int)) H) :
    CallsH Try.prog 78 #[.pointer (some ⟨b, 0, none⟩)] H R := by
  obtain ⟨p, c, h1, h2, h3, hs2⟩ := rdR_op (hs.front i hi')
  refine Try.s78 ⟨_, rfl, _, _, _, hs2.get 0 rfl rfl, _, rfl, _, hs2.get 0 (j := 1) rfl rfl, ?_⟩
  rw [wrap_id (n := (8 : Int) * (B.length : Int)) (by omega) (by omega), wrap_id (by omega) (by omega), show (8 : Int) * (B.length : Int) - at_ = ((8 * B.length - at_ : Nat) : Int) from by omega]
  exact hR
theorem c31 (hs : St H0 H σ) {i b at_ : Nat} {B : List Int} {hi : Bool} (hi' : σ[i]? = some (rdR b B at_ hi)) (hR : R (.int .i64 at_) H) :
    CallsH Try.prog 31 #[.pointer (some ⟨b, 0, none⟩)] H R := by
  obtain ⟨p, c, h1, h2, h3, hs2⟩ := rdR_op (hs.front i hi')
  exact Try.s31 ⟨_, rfl, _, hs2.get 0 (j := 1) rfl rfl, hR⟩
theorem c57 (hs : St H0 H σ) {i b at_ : Nat} {B : List Int} {hi : Bool} (hi' : σ[i]? = some (rdR b B at_ hi))
    (hR : ∀ H', St H0 H' (σ.set i (rdR b B ((at_ + 7) / 8 * 8) hi)) → R (.tuple #[]) H') : CallsH Try.prog 57 #[.pointer (some ⟨b, 0, none⟩)] H R := by
  obtain ⟨p, c, h1, h2, h3, hs2⟩ := rdR_op (hs.front i hi')
  refine Try.s57 ⟨_, rfl, _, hs2.get 0 (j := 1) rfl rfl, by decide, _, rfl, ?_⟩
  rw [wrap_id (n := (at_ : Int) + 7) (by omega) (by omega), show (at_ : Int) + 7 = ((at_ + 7 : Nat) : Int) from rfl, wdiv8 _ (by omega), wrap_id (by omega) (by omega)]
  refine hs2.put 0 rfl (by simp) rfl fun H2 hs => hR H2 (St.back hi' (rdR_mk (p := p) (c := c) (by omega) h2 h3 ?_))
  have e : (((at_ + 7) / 8 : Nat) : Int) * 8 = (((at_ + 7) / 8 * 8 : Nat) : Int) := by omega
  rw [e] at hs
  exact hs
theorem numB_snoc {hi : Bool} {B : List Int} {a k : Nat} (hk : k < 24) : (if hi then orI .i64 (shlI .i64 (numB hi B a k) (1 : Int)) (bitB hi B (a + k)) else orI .i64 (numB hi B a k) (shlI .i64 (bitB hi B (a + k)) (k : Int))) = numB hi B a (k + 1) := by
 have h := numB_rng hi B a k
 have hp : (2 : Int) ^ k ≤ 2 ^ 24 := pow_le (by omega)
 have e24 : (2 : Int) ^ 24 = 16777216 := by decide
 rw [numB]
 have hb : 0 ≤ bitB hi B (a + k) ∧ bitB hi B (a + k) < 2 := by rcases bitB_rng hi B (a + k) with h | h <;> omega
 split
 ·have h1 : shlI .i64 (numB hi B a k) (1 : Int) = numB hi B a k * 2 ^ 1 := shl_of (k := 1) h.1 (by omega) (by omega)
  rw [h1, or_sum' (k := 1) hb.1 (by omega) h.1 (by omega)]
  omega
 ·have h2 : bitB hi B (a + k) * 2 ^ k ≤ 1 * 2 ^ k := Int.mul_le_mul_of_nonneg_right (by omega) (by have := two_pow_pos k; omega)
  rw [shl_of hb.1 (by omega) (by omega), or_sum h.1 h.2 hb.1 (by omega)]
theorem c56 (hs : St H0 H σ) {i b at_ : Nat} {B : List Int} {hi : Bool} (hi' : σ[i]? = some (rdR b B at_ hi)) {n : Int}
    (hbad : ¬ (0 ≤ n ∧ n ≤ 24 ∧ at_ + n ≤ 8 * B.length) → R (.tuple #[.int .i64 0, .bool false]) H)
    (hR : (0 ≤ n ∧ n ≤ 24 ∧ at_ + n ≤ 8 * B.length) → ∀ H', St H0 H' (σ.set i (rdR b B (at_ + n.toNat) hi)) → R (.tuple #[.int .i64 (numB hi B at_ n.toNat), .bool true]) H') :
    CallsH Try.prog 56 #[.pointer (some ⟨b, 0, none⟩), .int .i64 n] H R := by
  obtain ⟨_, _, h1, h2, h3, _⟩ := rdR_op (hs.front i hi')
  refine Try.s56 ?_
  unfold Try.S56
  intro J hJ
  refine br_dec (fun h => hbad (by omega)) (fun n0 => br_dec (fun h => hbad (by omega)) (fun n1 => c78 hs hi' ⟨_, rfl, br_dec (fun h => hbad (by omega)) (fun n2 => hJ H ?_)⟩))
  obtain ⟨m, rfl⟩ := Int.eq_ofNat_of_zero_le (show 0 ≤ n by omega)
  have hR := hR ⟨by omega, by omega, by omega⟩
  rw [Int.toNat_natCast] at hR
  intro X hX
  have go : ∀ k, k ≤ m → ∀ H', St H0 H' (σ.set i (rdR b B (at_ + k) hi)) → X [.int .i64 (numB hi B at_ k), .int .i64 k] H' := upto fun k hk ih H' hs => by
    refine hX _ _ H' (br_dec (fun hlt => ?_) (fun hge => ?_))
    · have hlt : k < m := by omega
      obtain ⟨p, c, g1, g2, g3, hs2⟩ := rdR_op (hs.front i (setget hi' _))
      refine ⟨_, rfl, _, _, _, hs2.get 0 rfl rfl, _, rfl, _, hs2.get 0 (j := 1) rfl rfl, by decide, ?_⟩
      rw [wdiv8 _ (by omega)]
      have hg := (hs2.is 1 rfl).rd (i := (((at_ + k) / 8 : Nat) : Int)) (by omega) (by omega) (by rw [Int.toNat_natCast]; exact get_gD _ 0 (by omega)) (K := fun y => y = B.getD ((at_ + k) / 8) 0) rfl
      obtain ⟨a, ha, q0, q1, y, q2, rfl⟩ := hg
      have hyr := getD_rng g3 ((at_ + k) / 8)
      refine ⟨a, ha, q0, q1, _, q2, _, rfl, _, hs2.get 0 (j := 1) rfl rfl, _, rfl, _, hs2.get 0 (j := 2) rfl rfl, c69 ⟨_, rfl, .inl (Ext.refl _), by omega, ?_⟩⟩
      have hbit : andI .i64 (IntKind.wrap .i64 (shrI .u8 (B.getD ((at_ + k) / 8) 0) ((bpos hi (at_ + k) : Nat) : Int))) (1 : Int) = bitB hi B (at_ + k) := by
        have := bpos_lt hi (at_ + k)
        have hd0 := Int.ediv_nonneg hyr.1 (Int.le_of_lt (two_pow_pos (bpos hi (at_ + k))))
        have hd1 := Int.ediv_le_self (2 ^ bpos hi (at_ + k)) hyr.1
        rw [shr8_of _ (by omega), wrap_id (by omega) (by omega), andI_1]
        rfl
      rw [hbit]
      intro J2 hJ2
      have nx : J2 [.int .i64 (numB hi B at_ (k + 1))] H' := by
        refine hJ2 _ H' ⟨_, rfl, _, hs2.get 0 (j := 1) rfl rfl, _, rfl, ?_⟩
        rw [wrap_id (by omega) (by omega), wrap_id (by omega) (by omega)]
        refine hs2.put 0 rfl (by simp) rfl fun H2 hs3 => ih hlt H2 ?_
        have := St.back (setget hi' _) (rdR_mk (p := p) (c := c) (at_ := at_ + (k + 1)) (hi := hi) (by omega) g2 g3 hs3)
        rw [setset] at this; exact this
      have hn := numB_snoc (hi := hi) (B := B) (a := at_) (k := k) (by omega)
      refine ⟨_, rfl, _, hs2.get 0 (j := 2) rfl rfl, br_i (fun hh => ⟨by decide, ?_⟩) (fun hh => ⟨by omega, ?_⟩)⟩
      · rw [if_pos hh] at hn; rw [hn]; exact nx
      · rw [if_neg (by rw [hh]; decide)] at hn; rw [hn]; exact nx
    · have : k = m := by omega
      subst this
      exact hR H' hs
  refine go 0 (by omega) H ?_
  obtain ⟨h1, h2⟩ := List.getElem?_eq_some_iff.1 hi'
  rw [Nat.add_zero, ← h2, List.set_getElem_self]; exact hs
end Go.Proofs
namespace Go.Proofs
open Go.Sh
variable {H0 H : Heap} {σ : List Rs} {R : Value → Heap → Prop}
def decR (d : Nat) (ls : List Int) (P : List (Nat × Int)) (F : List Int) : Rs :=
 .ex fun (x : Option Addr × Nat) => .pu (OkC ls ∧ P.length ≤ 5000 ∧ Trie ls (· < ls.length) (· < ls.length) P F) (.star (.cell d #[.slice x.1 P.length x.2] 108) (.sl x.1 P.length x.2 109 2 (ints F)))
theorem decR_use {d : Nat} {ls F : List Int} {P : List (Nat × Int)} (hs : St H0 H σ) {j : Nat} (hj : σ[j]? = some (decR d ls P F)) : ∃ q k, OkC ls ∧ P.length ≤ 5000 ∧ Trie ls (· < ls.length) (· < ls.length) P F ∧ H[d]? = some (.cells #[.slice q P.length k] 108) ∧ RS H q P.length 109 2 (ints F) := by
 obtain ⟨⟨q, k⟩, hs⟩ := (hs.front j hj).unex
 obtain ⟨⟨h1, h2, h3⟩, hs⟩ := hs.fact
 have hs := hs.cut
 exact ⟨q, k, h1, h2, h3, hs.block 0 rfl, hs.rs 1 rfl⟩
theorem newDecR {p : Option Addr} {l c : Nat} {ls : List Int} (h : IS H p l (ints ls)) (hbad : ¬ OkC ls → R (.tuple #[.pointer none, .bool false]) H)
    (hgood : OkC ls → ∀ H' b P F, St H H' [decR b ls P F] → R (.tuple #[.pointer (some ⟨b, 0, none⟩), .bool true]) H') : CallsH Try.prog 27 #[.slice p l c] H R :=
  newDec h hbad fun ok H' b q L k P F hb hd fs hP hL t e => hgood ok H' b P F (by
    subst hP
    have hs : St H H' [.sl q P.length k 109 2 (ints F)] := (St.nil H).newSl e fs
    have hs2 : St H H' [.cell b #[.slice q P.length k] 108, .sl q P.length k 109 2 (ints F)] := by
      obtain ⟨he, fps, hl, hn, hbb⟩ := hs
      match fps, hl with
      | fp :: [], hl =>
        refine ⟨he, [b] :: fp :: [], ⟨⟨rfl, hd⟩, hl⟩, ?_, ?_⟩
        · simp only [List.flatten_cons, List.flatten_nil, List.append_nil, List.singleton_append, List.nodup_cons] at hn ⊢
          refine ⟨fun hm => ?_, hn⟩
          rcases hl.1.2 with ⟨_, h2⟩ | ⟨blk, h1, h2⟩
          · rw [h2] at hm; cases hm
          · rw [h2, List.mem_singleton] at hm
            subst hm
            rcases hl.1.1.at_ with ⟨h3, _⟩ | ⟨blk', cs, h3, _, h4, _⟩
            · rw [h1] at h3; cases h3
            · rw [h1] at h3; cases h3; rw [hd] at h4; cases h4
        · intro x hx
          simp only [List.flatten_cons, List.flatten_nil, List.append_nil, List.singleton_append, List.mem_cons] at hx hbb
          rcases hx with rfl | hx
          · exact hb
          · exact hbb x hx
    exact St.inex (f := fun (x : Option Addr × Nat) => .pu (OkC ls ∧ P.length ≤ 5000 ∧ Trie ls (· < ls.length) (· < ls.length) P F) (.star (.cell b #[.slice x.1 P.length x.2] 108) (.sl x.1 P.length x.2 109 2 (ints F)))) (q, k) (St.with ⟨ok, hL, t⟩ hs2.cat))
def flR (f : Nat) (B : List Int) (a most : Nat) (out : List Int) (e : Int) : Rs :=
 .ex fun (x : Nat × Option Addr × Nat) => .pu (out.length ≤ most ∧ most ≤ 1000000000 ∧ ∀ y ∈ out, 0 ≤ y ∧ y < 256)
  (.star (.star (rdR x.1 B a false) (.sl x.2.1 out.length x.2.2 5 1 (kints .u8 out))) (.cell f #[.pointer (some ⟨x.1, 0, none⟩), .slice x.2.1 out.length x.2.2, .int .i64 most, .int .i64 e] 59))
theorem flR_op {f a most : Nat} {B out : List Int} {e : Int} (hs : St H0 H (flR f B a most out e :: σ)) : ∃ rb p c, out.length ≤ most ∧ most ≤ 1000000000 ∧ (∀ y ∈ out, 0 ≤ y ∧ y < 256) ∧
    St H0 H (rdR rb B a false :: .sl p out.length c 5 1 (kints .u8 out) :: .cell f #[.pointer (some ⟨rb, 0, none⟩), .slice p out.length c, .int .i64 most, .int .i64 e] 59 :: σ) := by
  obtain ⟨⟨rb, p, c⟩, hs⟩ := hs.unex
  obtain ⟨⟨h1, h2, h3⟩, hs⟩ := hs.fact
  exact ⟨rb, p, c, h1, h2, h3, hs.cut.cut⟩
theorem flR_mk {f a most rb c : Nat} {p : Option Addr} {B out : List Int} {e : Int} (h1 : out.length ≤ most) (h2 : most ≤ 1000000000) (h3 : ∀ y ∈ out, 0 ≤ y ∧ y < 256)
    (hs : St H0 H (rdR rb B a false :: .sl p out.length c 5 1 (kints .u8 out) :: .cell f #[.pointer (some ⟨rb, 0, none⟩), .slice p out.length c, .int .i64 most, .int .i64 e] 59 :: σ)) : St H0 H (flR f B a most out e :: σ) :=
  St.inex (f := fun (x : Nat × Option Addr × Nat) => .pu (out.length ≤ most ∧ most ≤ 1000000000 ∧ ∀ y ∈ out, 0 ≤ y ∧ y < 256)
    (.star (.star (rdR x.1 B a false) (.sl x.2.1 out.length x.2.2 5 1 (kints .u8 out))) (.cell f #[.pointer (some ⟨x.1, 0, none⟩), .slice x.2.1 out.length x.2.2, .int .i64 most, .int .i64 e] 59))) (rb, p, c) (St.with ⟨h1, h2, h3⟩ hs.cat.cat)
section
variable {f a most : Nat} {B out : List Int} {e : Int}
theorem flR_rd (hs : St H0 H (flR f B a most out e :: σ)) : a ≤ 8 * B.length ∧ B.length ≤ 1000000000 ∧ ∀ x ∈ B, 0 ≤ x ∧ x < 256 := by
 obtain ⟨rb, p, c, _, _, _, hs⟩ := flR_op hs
 obtain ⟨_, _, h1, h2, h3, _⟩ := rdR_op hs
 exact ⟨h1, h2, h3⟩
theorem flR_e (hs : St H0 H (flR f B a most out e :: σ)) : cell H ⟨f, 3, none⟩ = some (.int .i64 e) := by
 obtain ⟨rb, p, c, _, _, _, hs⟩ := flR_op hs
 exact hs.get 2 (j := 3) rfl rfl
abbrev flO (rb f : Nat) (p : Option Addr) (c : Nat) (B : List Int) (a most : Nat) (out : List Int) (e : Int) : List Rs :=
 [rdR rb B a false, .sl p out.length c 5 1 (kints .u8 out), .cell f #[.pointer (some ⟨rb, 0, none⟩), .slice p out.length c, .int .i64 most, .int .i64 e] 59]
theorem failO {rb c : Nat} {p : Option Addr} (hs : St H0 H (flO rb f p c B a most out e ++ σ)) {k : Int} (hR : ∀ H', St H0 H' (flO rb f p c B a most out (if e = 0 then k else e) ++ σ) → R (.tuple #[]) H') : CallsH Try.prog 30 #[.pointer (some ⟨f, 0, none⟩), .int .i64 k] H R := by
 refine Try.s30 ⟨_, rfl, e, hs.get 2 (j := 3) rfl rfl, br_eq (fun h => ⟨_, rfl, ?_⟩) (fun h => ?_)⟩
 ·refine hs.put 2 (j := 3) rfl (by simp) rfl fun H' hs2 => hR H' ?_
  rw [if_pos h]; exact hs2
 ·rw [if_neg h] at hR; exact hR H hs
theorem c30 (hs : St H0 H (flR f B a most out e :: σ)) {k : Int} (hR : ∀ H', St H0 H' (flR f B a most out (if e = 0 then k else e) :: σ) → R (.tuple #[]) H') : CallsH Try.prog 30 #[.pointer (some ⟨f, 0, none⟩), .int .i64 k] H R := by
 obtain ⟨rb, p, c, h1, h2, h3, hs'⟩ := flR_op hs
 exact failO hs' fun H' hs2 => hR H' (flR_mk h1 h2 h3 hs2)
theorem getO {rb c : Nat} {p : Option Addr} (hs : St H0 H (flO rb f p c B a most out e ++ σ)) {n : Int} (hn : 0 ≤ n ∧ n ≤ 24)
    (hbad : 8 * B.length < a + n.toNat → ∀ H', St H0 H' (flO rb f p c B a most out (if e = 0 then 20 else e) ++ σ) → R (.int .i64 0) H')
    (hR : a + n.toNat ≤ 8 * B.length → ∀ H', St H0 H' (flO rb f p c B (a + n.toNat) most out e ++ σ) → R (.int .i64 (numB false B a n.toNat)) H') : CallsH Try.prog 25 #[.pointer (some ⟨f, 0, none⟩), .int .i64 n] H R := by
  refine Try.s25 ⟨_, rfl, _, hs.get 2 (j := 0) rfl rfl, c56 hs (i := 0) rfl (fun hb => ⟨_, _, rfl, br_t rfl ?_⟩) (fun hg H' hs2 => ⟨_, _, rfl, br_f rfl ?_⟩)⟩
  · exact failO hs fun H' hs3 => ⟨rfl, hbad (by omega) H' hs3⟩
  · exact hR (by omega) H' hs2
theorem c25 (hs : St H0 H (flR f B a most out e :: σ)) {n : Int} (hn : 0 ≤ n ∧ n ≤ 24)
    (hbad : 8 * B.length < a + n.toNat → ∀ H', St H0 H' (flR f B a most out (if e = 0 then 20 else e) :: σ) → R (.int .i64 0) H')
    (hR : a + n.toNat ≤ 8 * B.length → ∀ H', St H0 H' (flR f B (a + n.toNat) most out e :: σ) → R (.int .i64 (numB false B a n.toNat)) H') : CallsH Try.prog 25 #[.pointer (some ⟨f, 0, none⟩), .int .i64 n] H R := by
  obtain ⟨rb, p, c, h1, h2, h3, hs'⟩ := flR_op hs
  exact getO hs' hn (fun hb H' hs2 => hbad hb H' (flR_mk h1 h2 h3 hs2)) (fun hg H' hs2 => hR hg H' (flR_mk h1 h2 h3 hs2))
theorem symG_adv {ls : List Int} : ∀ (g n : Nat) (v : Int) (a : Nat) {s a' : Nat}, symG ls B g n v a = .ok (s, a') → a < a' ∧ a' ≤ 8 * B.length ∧ s < ls.length
 | 0, _, _, _, _, _, h => by cases h
 | g + 1, n, v, a, s, a', h => by
  unfold symG getM at h
  split at h
  ·cases h
  ·rename_i b at' hg
   split at hg
   ·cases hg
    split at h
    ·rename_i t ht
     cases h
     have := (List.getElem?_eq_some_iff.1 (findM_some ht).1).1
     exact ⟨by omega, by omega, this⟩
    ·split at h
     ·obtain ⟨h1, h2⟩ := symG_adv g _ _ _ h
      exact ⟨by omega, h2⟩
     ·cases h
   ·cases hg
theorem symM_adv {ls : List Int} {s a' : Nat} (h : symM ls B a = .ok (s, a')) : a < a' ∧ a' ≤ 8 * B.length ∧ s < ls.length := symG_adv _ _ _ _ h
theorem symbol_e (hs : St H0 H (flR f B a most out e :: σ)) (he : e ≠ 0) {d : Option Addr} (hR : ∀ H' a', St H0 H' (flR f B a' most out e :: σ) → R (.int .i64 0) H') :
    CallsH Try.prog 58 #[.pointer (some ⟨f, 0, none⟩), .pointer d] H R := by
  refine Try.s58 ?_
  unfold Try.S58
  intro X hX
  refine hX _ H (c25 hs (by omega) (fun _ H' hs => ⟨_, rfl, _, rfl, e, ?_, br_ne (fun _ => ?_) (fun h => absurd h he)⟩) (fun _ H' hs => ⟨_, rfl, _, rfl, e, flR_e hs, br_ne (fun _ => hR H' _ hs) (fun h => absurd h he)⟩))
  · rw [if_neg he] at hs; exact flR_e hs
  · rw [if_neg he] at hs; exact hR H' _ hs
theorem c58 (hs : St H0 H (flR f B a most out 0 :: σ)) {j d : Nat} {ls F : List Int} {P : List (Nat × Int)} (hj : σ[j]? = some (decR d ls P F))
    (hbad : ∀ k, k ≠ 0 → symM ls B a = .error k → ∀ H' a', St H0 H' (flR f B a' most out k :: σ) → R (.int .i64 0) H')
    (hR : ∀ s a', symM ls B a = .ok (s, a') → ∀ H', St H0 H' (flR f B a' most out 0 :: σ) → R (.int .i64 (s : Nat)) H') :
    CallsH Try.prog 58 #[.pointer (some ⟨f, 0, none⟩), .pointer (some ⟨d, 0, none⟩)] H R := by
  refine Try.s58 ?_
  unfold Try.S58
  intro X hX
  obtain ⟨_, _, ok, hL, t, _, _⟩ := decR_use hs (j := j + 1) (by simpa using hj)
  have loop : ∀ (g : Nat) (st n : Nat) (v : Int) (a1 : Nat) (H1 : Heap), 17 - n ≤ g → n ≤ 16 → P[st]? = some (n, v) → symG ls B (17 - n) n v a1 = symM ls B a → St H0 H1 (flR f B a1 most out 0 :: σ) → X [.int .i64 st] H1 := by
    intro g
    induction g with
    | zero => intro st n v a1 H1 h1 h2; omega
    | succ g ih =>
      intro st n v a1 H1 hg hn hst heq hs1
      have h17 : 17 - n = 16 - n + 1 := by omega
      rw [h17, symG] at heq
      refine hX _ H1 (c25 hs1 (by omega) (fun hb H2 hs2 => ?_) (fun hb H2 hs2 => ?_))
      · rw [if_pos rfl] at hs2
        have : getM B 1 a1 = .error 20 := by unfold getM; rw [if_neg (by simp at hb; omega)]
        rw [this] at heq
        exact ⟨_, rfl, _, rfl, _, flR_e hs2, br_t rfl (hbad 20 (by decide) heq.symm H2 _ hs2)⟩
      · simp only [Int.toNat_one] at hs2 hb ⊢
        have hg1 : getM B 1 a1 = .ok (numB false B a1 1, a1 + 1) := by unfold getM; rw [if_pos hb]
        have hb01 : numB false B a1 1 % 2 = numB false B a1 1 := by have := numB_rng false B a1 1; omega
        rw [hg1] at heq
        simp only at heq
        refine ⟨_, rfl, _, rfl, _, flR_e hs2, br_f rfl ?_⟩
        obtain ⟨q, k, _, _, _, hd, hrs⟩ := decR_use hs2 (j := j + 1) (by simpa using hj)
        refine c79 hd hrs (t.rng2 rfl hL ok.w.len) (by omega) _ _ ⟨_, _, rfl, ?_⟩
        generalize hbit : numB false B a1 1 = b at *
        cases hf : findM ls (n + 1) (2 * v + b) with
        | some s =>
          obtain ⟨f1, f2⟩ := findM_some hf
          have hst2 := step_sym ok rfl t (bit := b) hst f1 (by rw [hb01]; exact f2)
          show br (decide ((stepM F P.length (st : Int) b).1 < 0)) _ _
          rw [hf] at heq
          rw [hst2]
          exact br_n (show ¬ ((0 : Int) < 0) by decide) (br_n (by show ¬ ((s : Int) < 0); omega) (hR s _ heq.symm H2 hs2))
        | none =>
          rw [hf] at heq
          simp only at heq
          cases hbg : begM ls (n + 1) (2 * v + b) with
          | true =>
            obtain ⟨s, m, g1, g2, g3⟩ := begM_true ok.w.rng hbg
            obtain ⟨i, i0, hst2, hp⟩ := step_on ok rfl t (bit := b) hst g1 g2 (by rw [hb01]; exact g3)
            rw [hb01] at hp
            rw [hbg] at heq
            simp only [if_true] at heq
            rw [hst2]
            have hm := ok.w.rng _ (List.mem_of_getElem? g1)
            refine br_n (by show ¬ ((i : Int) < 0); omega) (br_y (show (-1 : Int) < 0 by decide) (ih i (n + 1) _ _ H2 (by omega) (by omega) hp ?_ hs2))
            rw [show 17 - (n + 1) = 16 - n from by omega]
            exact heq
          | false =>
            rw [hbg] at heq
            simp only [Bool.false_eq_true, if_false] at heq
            have hst2 := step_off (bit := b) rfl t hst (fun s h1 h2 => findM_none hf h1 (by rw [hb01] at h2; exact h2)) (fun s m h1 h2 h3 => begM_false hbg h1 h2 (by rw [hb01] at h3; exact h3))
            rw [hst2]
            refine br_y (by decide) (c30 hs2 fun H3 hs3 => ⟨rfl, ?_⟩)
            rw [if_pos rfl] at hs3
            exact hbad 21 (by decide) heq.symm H3 _ hs3
  exact loop 17 0 0 0 a H (by omega) (by omega) t.root rfl hs
end
end Go.Proofs
namespace Go.Proofs
open Go.Sh
variable {H0 H : Heap} {σ : List Rs} {R : Value → Heap → Prop}
theorem lenK : ∀ x : Fin 29, (IntKind.wrap .i64 (((257 + x.val : Nat) : Int) - 257) < 8 → IntKind.wrap .i64 (3 + IntKind.wrap .i64 (((257 + x.val : Nat) : Int) - 257)) = ((lenB (257 + x.val)).1 : Int) ∧ (0 : Int) = ((lenB (257 + x.val)).2 : Int)) ∧
 (¬ IntKind.wrap .i64 (((257 + x.val : Nat) : Int) - 257) < 8 → IntKind.wrap .i64 (((257 + x.val : Nat) : Int) - 257) = 28 → (258 : Int) = ((lenB (257 + x.val)).1 : Int) ∧ (0 : Int) = ((lenB (257 + x.val)).2 : Int)) ∧
 (¬ IntKind.wrap .i64 (((257 + x.val : Nat) : Int) - 257) < 8 → IntKind.wrap .i64 (((257 + x.val : Nat) : Int) - 257) ≠ 28 → 0 ≤ (IntKind.wrap .i64 ((IntKind.wrap .i64 (Int.tdiv (IntKind.wrap .i64 (((257 + x.val : Nat) : Int) - (257 : Int))) (4 : Int))) - (1 : Int))) ∧
  (IntKind.wrap .i64 ((3 : Int) + (shlI .i64 (IntKind.wrap .i64 ((4 : Int) + (Int.tmod (IntKind.wrap .i64 (((257 + x.val : Nat) : Int) - (257 : Int))) (4 : Int)))) (IntKind.wrap .i64 ((IntKind.wrap .i64 (Int.tdiv (IntKind.wrap .i64 (((257 + x.val : Nat) : Int) - (257 : Int))) (4 : Int))) - (1 : Int)))))) = ((lenB (257 + x.val)).1 : Int) ∧
  (IntKind.wrap .i64 ((IntKind.wrap .i64 (Int.tdiv (IntKind.wrap .i64 (((257 + x.val : Nat) : Int) - (257 : Int))) (4 : Int))) - (1 : Int))) = ((lenB (257 + x.val)).2 : Int)) ∧ (lenB (257 + x.val)).2 ≤ 5 ∧ (lenB (257 + x.val)).1 ≤ 258 := by decide +kernel
theorem dstK : ∀ x : Fin 30, (((x.val : Nat) : Int) < 4 → IntKind.wrap .i64 (1 + ((x.val : Nat) : Int)) = ((dstB x.val).1 : Int) ∧ (0 : Int) = ((dstB x.val).2 : Int)) ∧
 (¬ ((x.val : Nat) : Int) < 4 → 0 ≤ (IntKind.wrap .i64 ((IntKind.wrap .i64 (Int.tdiv ((x.val : Nat) : Int) (2 : Int))) - (1 : Int))) ∧
  (IntKind.wrap .i64 ((1 : Int) + (shlI .i64 (IntKind.wrap .i64 ((2 : Int) + (Int.tmod ((x.val : Nat) : Int) (2 : Int)))) (IntKind.wrap .i64 ((IntKind.wrap .i64 (Int.tdiv ((x.val : Nat) : Int) (2 : Int))) - (1 : Int)))))) = ((dstB x.val).1 : Int) ∧
  (IntKind.wrap .i64 ((IntKind.wrap .i64 (Int.tdiv ((x.val : Nat) : Int) (2 : Int))) - (1 : Int))) = ((dstB x.val).2 : Int)) ∧ (dstB x.val).2 ≤ 13 ∧ (dstB x.val).1 ≤ 32768 ∧ 1 ≤ (dstB x.val).1 := by decide +kernel
theorem lenB_le {s : Nat} (h : 257 ≤ s ∧ s ≤ 285) : (lenB s).2 ≤ 5 ∧ (lenB s).1 ≤ 258 := by
 have := (lenK ⟨s - 257, by omega⟩).2.2.2
 simp only [show 257 + (s - 257) = s from by omega] at this
 exact this
theorem dstB_le {s : Nat} (h : s ≤ 29) : (dstB s).2 ≤ 13 ∧ (dstB s).1 ≤ 32768 ∧ 1 ≤ (dstB s).1 := (dstK ⟨s, by omega⟩).2.2
theorem c70 {s : Nat} (h : 257 ≤ s ∧ s ≤ 285) (hR : R (.tuple #[.int .i64 ((lenB s).1 : Nat), .int .i64 ((lenB s).2 : Nat)]) H) : CallsH Try.prog 70 #[.int .i64 (s : Nat)] H R := by
 have k := lenK ⟨s - 257, by omega⟩
 simp only [show 257 + (s - 257) = s from by omega] at k
 obtain ⟨k1, k2, k3, _⟩ := k
 refine Try.s70 (br_dec (fun h1 => ?_) (fun h1 => br_eq (fun h2 => ?_) (fun h2 => ⟨by decide, by decide, (k3 h1 h2).1, ?_⟩)))
 ·rw [(k1 h1).1, (k1 h1).2]; exact hR
 ·rw [(k2 h1 h2).1, (k2 h1 h2).2]; exact hR
 ·rw [(k3 h1 h2).2.1, (k3 h1 h2).2.2]; exact hR
theorem c46 {s : Nat} (h : s ≤ 29) (hR : R (.tuple #[.int .i64 ((dstB s).1 : Nat), .int .i64 ((dstB s).2 : Nat)]) H) : CallsH Try.prog 46 #[.int .i64 (s : Nat)] H R := by
 obtain ⟨k1, k2, _⟩ := dstK ⟨s, by omega⟩
 refine Try.s46 (br_dec (fun h1 => ?_) (fun h1 => ⟨by decide, by decide, (k2 h1).1, ?_⟩))
 ·rw [(k1 h1).1, (k1 h1).2]; exact hR
 ·rw [(k2 h1).2.1, (k2 h1).2.2]; exact hR
section
variable {f a most : Nat} {B out : List Int}
theorem c59 (hs : St H0 H (flR f B a most out 0 :: σ)) {j d : Nat} {dl F : List Int} {P : List (Nat × Int)} (hj : σ[j]? = some (decR d dl P F)) {s : Nat} (hs257 : 257 ≤ s ∧ s ≤ 1000)
    (hbad : ∀ k, k ≠ 0 → copiesM B most dl s a out = .error k → ∀ H' a', St H0 H' (flR f B a' most out k :: σ) → R (.tuple #[]) H')
    (hR : ∀ a' out', copiesM B most dl s a out = .ok (a', out') → ∀ H', St H0 H' (flR f B a' most out' 0 :: σ) → R (.tuple #[]) H') :
    CallsH Try.prog 59 #[.pointer (some ⟨f, 0, none⟩), .int .i64 (s : Nat), .pointer (some ⟨d, 0, none⟩)] H R := by
  have key : copiesM B most dl s a out = copiesM B most dl s a out := rfl
  conv at key => lhs; unfold copiesM
  refine Try.s59 (br_dec (fun h => c30 hs fun H1 hs => ⟨rfl, ?_⟩) (fun h => ?_))
  · rw [if_pos (by omega)] at key
    exact hbad 25 (by decide) key.symm H1 _ hs
  rw [if_neg (by omega)] at key
  have hb := lenB_le (s := s) (by omega)
  refine c70 (by omega) ⟨_, _, rfl, c25 hs (by omega) (fun hlt H1 hs => ?_) (fun hle H1 hs => ?_)⟩
  · rw [Int.toNat_natCast] at hlt
    unfold getM at key
    rw [if_neg (by omega)] at key
    rw [if_pos rfl] at hs
    exact ⟨_, rfl, symbol_e hs (by decide) fun H2 a2 hs => ⟨_, rfl, _, rfl, _, flR_e hs, br_t rfl (hbad 20 (by decide) key.symm H2 _ hs)⟩⟩
  rw [Int.toNat_natCast] at hle hs ⊢
  rw [show getM B (lenB s).2 a = .ok (numB false B a (lenB s).2, a + (lenB s).2) from by unfold getM; rw [if_pos hle]] at key
  have hx := numB_rng false B a (lenB s).2
  have hx2 : (2 : Int) ^ (lenB s).2 ≤ 2 ^ 5 := pow_le hb.1
  generalize numB false B a (lenB s).2 = x at *
  simp only at key
  refine ⟨_, rfl, c58 hs hj (fun k hk hsy H2 a2 hs => ?_) (fun t a2 hsy H2 hs => ?_)⟩
  · rw [hsy] at key
    exact ⟨_, rfl, _, rfl, _, flR_e hs, br_ne (fun _ => hbad k hk key.symm H2 _ hs) (fun h => absurd h hk)⟩
  rw [hsy] at key
  simp only at key
  refine ⟨_, rfl, _, rfl, _, flR_e hs, br_f rfl (br_dec (fun h29 => c30 hs fun H3 hs => ⟨rfl, ?_⟩) (fun h29 => ?_))⟩
  · rw [if_pos (by omega)] at key
    exact hbad 25 (by decide) key.symm H3 _ hs
  rw [if_neg (by omega)] at key
  have hd := dstB_le (s := t) (by omega)
  refine c46 (by omega) ⟨_, _, rfl, c25 hs (by omega) (fun hlt H3 hs => ?_) (fun hle H3 hs => ?_)⟩
  · rw [Int.toNat_natCast] at hlt
    rw [show getM B (dstB t).2 a2 = .error 20 from by unfold getM; rw [if_neg (by omega)]] at key
    rw [if_pos rfl] at hs
    exact ⟨_, rfl, _, rfl, _, flR_e hs, br_t rfl (hbad 20 (by decide) key.symm H3 _ hs)⟩
  rw [Int.toNat_natCast] at hle hs ⊢
  rw [show getM B (dstB t).2 a2 = .ok (numB false B a2 (dstB t).2, a2 + (dstB t).2) from by unfold getM; rw [if_pos hle]] at key
  have hy := numB_rng false B a2 (dstB t).2
  have hy2 : (2 : Int) ^ (dstB t).2 ≤ 2 ^ 13 := pow_le hd.1
  generalize numB false B a2 (dstB t).2 = y at *
  simp only at key
  obtain ⟨rb, p, c, h1, h2, h3, hs'⟩ := flR_op hs
  have e5 : (2 : Int) ^ 5 = 32 := by decide
  have e13 : (2 : Int) ^ 13 = 8192 := by decide
  have w1 : IntKind.wrap .i64 ((((dstB t).1 : Nat) : Int) + y) = ((dstB t).1 : Nat) + y := wrap_id (by omega) (by omega)
  have w2 : IntKind.wrap .i64 ((((lenB s).1 : Nat) : Int) + x) = ((lenB s).1 : Nat) + x := wrap_id (by omega) (by omega)
  have w3 : IntKind.wrap .i64 ((most : Int) - (out.length : Nat)) = (most : Int) - (out.length : Nat) := wrap_id (by omega) (by omega)
  refine ⟨_, rfl, _, rfl, _, flR_e hs, br_f rfl ⟨_, rfl, _, _, _, hs'.get 2 (j := 1) rfl rfl, ?_⟩⟩
  rw [w1, w2]
  refine br_dec (fun hgt => c30 hs fun H4 hs => ⟨rfl, ?_⟩) (fun hgt => ⟨_, rfl, _, hs'.get 2 (j := 2) rfl rfl, _, rfl, _, _, _, hs'.get 2 (j := 1) rfl rfl, ?_⟩)
  · rw [if_pos hgt] at key
    exact hbad 22 (by decide) key.symm H4 _ hs
  rw [if_neg hgt] at key
  rw [w3]
  refine br_dec (fun hg2 => c30 hs fun H4 hs => ⟨rfl, ?_⟩) (fun hg2 => ?_)
  · rw [if_pos hg2] at key
    exact hbad 24 (by decide) key.symm H4 _ hs
  rw [if_neg hg2] at key
  have hR := hR _ _ key.symm
  clear key hbad w1 w2 w3 hs' p c rb
  obtain ⟨D, hD⟩ := Int.eq_ofNat_of_zero_le (show 0 ≤ (((dstB t).1 : Nat) : Int) + y by omega)
  obtain ⟨N, hN⟩ := Int.eq_ofNat_of_zero_le (show 0 ≤ (((lenB s).1 : Nat) : Int) + x by omega)
  rw [show (dstB t).1 + y.toNat = D from by omega, show (lenB s).1 + x.toNat = N from by omega] at hR
  rw [hD, hN]
  intro X hX
  have loop : ∀ (m k : Nat) (out1 : List Int) (H4 : Heap), k + m = N → out1.length = out.length + k → copyM D m out1 = copyM D N out → St H0 H4 (flR f B (a2 + (dstB t).2) most out1 0 :: σ) → X [.int .i64 k] H4 := by
    intro m
    induction m with
    | zero =>
      intro k out1 H4 hk hl hc hs
      refine hX _ H4 (br_n (by omega) (hR H4 ?_))
      rw [← hc]; exact hs
    | succ m ih =>
      intro k out1 H4 hk hl hc hs
      obtain ⟨rb, p, c, h1, h2, h3, hs'⟩ := flR_op hs
      have w1 : IntKind.wrap .i64 (((out1.length : Nat) : Int) - (D : Int)) = ((out1.length - D : Nat) : Int) := by rw [wrap_id (by omega) (by omega)]; omega
      have wk : IntKind.wrap .i64 ((k : Int) + 1) = ((k + 1 : Nat) : Int) := by rw [wrap_id (by omega) (by omega)]; omega
      refine hX _ H4 (br_y (by omega) ⟨_, rfl, _, _, _, hs'.get 2 (j := 1) rfl rfl, _, rfl, _, _, _, hs'.get 2 (j := 1) rfl rfl, _, rfl, _, _, _, hs'.get 2 (j := 1) rfl rfl, ?_⟩)
      rw [w1, wk]
      have hv := get_gD out1 0 (i := out1.length - D) (by omega)
      have hvr := h3 _ (List.mem_of_getElem? hv)
      rw [copyM] at hc
      generalize out1.getD (out1.length - D) 0 = v at hv hvr hc
      refine (hs'.is 1 rfl).rd (by omega) (by omega) (by rw [Int.toNat_natCast]; exact hv) ?_
      refine hs'.alcE fun b H5 he hs5 => ⟨.inl he, ?_⟩
      refine hs5.appC 2 0 (el := 5) (k := 1) rfl rfl rfl (one1 rfl) (by decide) rfl (by omega) (by omega) fun p' c' H6 hs6 => ⟨_, rfl, ?_⟩
      refine hs6.put 3 (j := 1) rfl (by simp) rfl fun H7 hs7 => ?_
      refine ih (k + 1) (out1 ++ [v]) H7 (by omega) (by simp; omega) hc ?_
      refine flR_mk (rb := rb) (p := p') (c := c') (by simp; omega) h2 (fun z hz => ?_) ?_
      · rcases List.mem_append.1 hz with hz | hz
        · exact h3 z hz
        · rw [List.mem_singleton.1 hz]; exact hvr
      · rw [kints_append, List.length_append, List.length_singleton]
        exact hs7.tail
  exact loop N 0 out H3 (by omega) (by omega) rfl hs
end
end Go.Proofs
namespace Go.Proofs
open Go.Sh
variable {H0 H : Heap} {σ : List Rs} {R : Value → Heap → Prop}
section
variable {f a most : Nat} {B out : List Int}
theorem getM_adv {n a' : Nat} {v : Int} (h : getM B n a = .ok (v, a')) : a ≤ a' := by
 unfold getM at h
 split at h
 ·cases h; omega
 ·cases h
theorem copiesM_adv {mst : Int} {dl : List Int} {s a' : Nat} {out' : List Int} (h : copiesM B mst dl s a out = .ok (a', out')) : a ≤ a' := by
 unfold copiesM at h
 split at h
 ·cases h
 ·split at h
  ·cases h
  ·rename_i x a1 h1
   split at h
   ·cases h
   ·rename_i t a2 h2
    split at h
    ·cases h
    ·split at h
     ·cases h
     ·rename_i y a3 h3
      split at h
      ·cases h
      ·split at h
       ·cases h
       ·cases h
        have := getM_adv h1; have := symM_adv h2; have := getM_adv h3
        omega
theorem symbols_e {e : Int} (hs : St H0 H (flR f B a most out e :: σ)) (he : e ≠ 0) {d1 d2 : Option Addr} (hR : R (.tuple #[]) H) :
    CallsH Try.prog 28 #[.pointer (some ⟨f, 0, none⟩), .pointer d1, .pointer d2] H R := by
  refine Try.s28 ?_
  unfold Try.S28
  intro X hX
  exact hX H ⟨_, rfl, _, flR_e hs, br_ne (fun _ => hR) (fun h => absurd h he)⟩
theorem c28 (hs : St H0 H (flR f B a most out 0 :: σ)) {j1 j2 d1 d2 : Nat} {ll dl F1 F2 : List Int} {P1 P2 : List (Nat × Int)} (hj1 : σ[j1]? = some (decR d1 ll P1 F1)) (hj2 : σ[j2]? = some (decR d2 dl P2 F2))
    (hbad : ∀ k, k ≠ 0 → symbolsM B most ll dl a out = .error k → ∀ H' a' out', St H0 H' (flR f B a' most out' k :: σ) → R (.tuple #[]) H')
    (hR : ∀ a' out', symbolsM B most ll dl a out = .ok (a', out') → ∀ H', St H0 H' (flR f B a' most out' 0 :: σ) → R (.tuple #[]) H') :
    CallsH Try.prog 28 #[.pointer (some ⟨f, 0, none⟩), .pointer (some ⟨d1, 0, none⟩), .pointer (some ⟨d2, 0, none⟩)] H R := by
  refine Try.s28 ?_
  unfold Try.S28
  intro X hX
  have bad : ∀ k, k ≠ 0 → symbolsM B most ll dl a out = .error k → ∀ H' a' out', St H0 H' (flR f B a' most out' k :: σ) → X [] H' := fun k hk he H' a' out' hs =>
    hX H' ⟨_, rfl, _, flR_e hs, br_ne (fun _ => hbad k hk he H' a' out' hs) (fun h => absurd h hk)⟩
  obtain ⟨_, _, okl, _, _, _, _⟩ := decR_use hs (j := j1 + 1) (by simpa using hj1)
  have l300 := okl.w.len
  unfold symbolsM at bad hbad hR
  generalize hT : symsM B most ll dl (8 * B.length + 1) a out = T at bad hbad hR
  have loop : ∀ (g a1 : Nat) (out1 : List Int) (H1 : Heap), 8 * B.length < a1 + g → symsM B most ll dl g a1 out1 = T → St H0 H1 (flR f B a1 most out1 0 :: σ) → X [] H1 := by
    intro g
    induction g with
    | zero =>
      intro a1 out1 H1 hg he hs1
      have := flR_rd hs1; omega
    | succ g ih =>
      intro a1 out1 H1 hg he hs1
      rw [symsM] at he
      refine hX H1 ⟨_, rfl, _, flR_e hs1, br_f rfl (c58 hs1 hj1 (fun k hk hsy H2 a2 hs2 => ?_) (fun s a2 hsy H2 hs2 => ?_))⟩
      · rw [hsy] at he
        exact ⟨_, rfl, _, rfl, _, flR_e hs2, br_ne (fun _ => hbad k hk he.symm H2 a2 out1 hs2) (fun h => absurd h hk)⟩
      · obtain ⟨ha1, ha2, hsl⟩ := symM_adv hsy
        rw [hsy] at he
        simp only at he
        refine ⟨_, rfl, _, rfl, _, flR_e hs2, br_f rfl (br_eq (fun h256 => ?_) (fun h256 => br_dec (fun hgt => ?_) (fun hle => ?_)))⟩
        · rw [if_pos (by omega)] at he
          exact hR _ _ he.symm H2 hs2
        · rw [if_neg (by omega), if_pos (by omega)] at he
          refine c59 hs2 hj2 (by omega) (fun k hk hc H3 a3 hs3 => ⟨rfl, ?_⟩) (fun a3 out3 hc H3 hs3 => ⟨rfl, ?_⟩)
          · rw [hc] at he
            exact bad k hk he.symm H3 a3 out1 hs3
          · rw [hc] at he
            have := copiesM_adv hc
            exact ih a3 out3 H3 (by omega) he hs3
        · rw [if_neg (by omega), if_neg (by omega)] at he
          obtain ⟨rb, p, c, h1, h2, h3, hs'⟩ := flR_op hs2
          refine ⟨_, rfl, _, _, _, hs'.get 2 (j := 1) rfl rfl, _, rfl, _, hs'.get 2 (j := 2) rfl rfl, br_dec (fun hge => c30 hs2 fun H3 hs3 => ⟨rfl, ?_⟩) (fun hlt => ⟨_, rfl, _, _, _, hs'.get 2 (j := 1) rfl rfl, ?_⟩)⟩
          · rw [if_pos (by omega)] at he
            rw [if_pos rfl] at hs3
            exact bad 24 (by decide) he.symm H3 _ _ hs3
          · rw [if_neg (by omega)] at he
            rw [wrap_u8 (by omega) (by omega)]
            refine hs'.alc fun b H5 hs5 => ?_
            refine hs5.appC 2 0 (el := 5) (k := 1) rfl rfl rfl (one1 rfl) (by decide) rfl (by omega) (by omega) fun p' c' H6 hs6 => ⟨_, rfl, ?_⟩
            refine hs6.put 3 (j := 1) rfl (by simp) rfl fun H7 hs7 => ?_
            refine ih a2 (out1 ++ [(s : Int)]) H7 (by omega) he ?_
            refine flR_mk (rb := rb) (p := p') (c := c') (by simp; omega) h2 (fun z hz => ?_) ?_
            · rcases List.mem_append.1 hz with hz | hz
              · exact h3 z hz
              · rw [List.mem_singleton.1 hz]; omega
            · rw [kints_append, List.length_append, List.length_singleton]
              exact hs7.tail
  exact loop _ a out H (by omega) hT hs
theorem xor_all (n : Fin 65536) : n.val ^^^ 65535 = 65535 - n.val := by
 have h1 : (BitVec.ofNat 16 n.val ^^^ BitVec.allOnes 16).toNat = (~~~ BitVec.ofNat 16 n.val).toNat := by rw [BitVec.xor_allOnes]
 have hn := n.isLt
 rw [BitVec.toNat_xor, BitVec.toNat_not, BitVec.toNat_ofNat, BitVec.toNat_allOnes, Nat.mod_eq_of_lt hn] at h1
 exact h1
theorem xor_ffff {n m : Int} (hn : 0 ≤ n ∧ n < 65536) (hm : 0 ≤ m ∧ m < 65536) : xorI .i64 n m = 65535 ↔ m = 65535 - n := by
 obtain ⟨x, rfl⟩ := Int.eq_ofNat_of_zero_le hn.1
 obtain ⟨y, rfl⟩ := Int.eq_ofNat_of_zero_le hm.1
 have e64 : (2 : Int) ^ 64 = 18446744073709551616 := by decide
 have hlt : x ^^^ y < 65536 := Nat.xor_lt_two_pow (n := 16) (by omega) (by omega)
 unfold xorI
 rw [show IntKind.bits .i64 = 64 from rfl, BitVec.toNat_xor, ofInt_nat (by omega) (by omega), ofInt_nat (by omega) (by omega), Int.toNat_natCast, Int.toNat_natCast, wrap_id (by omega) (by omega)]
 have hx := xor_all ⟨x, by omega⟩
 simp only at hx
 constructor
 ·intro h
  have h' : x ^^^ y = 65535 := by omega
  have : y = x ^^^ 65535 := by rw [← h', ← Nat.xor_assoc, Nat.xor_self, Nat.zero_xor]
  omega
 ·intro h
  have h' : y = x ^^^ 65535 := by omega
  rw [h', ← Nat.xor_assoc, Nat.xor_self, Nat.zero_xor]
  rfl
theorem getM_num {n : Nat} (h : a + n ≤ 8 * B.length) : getM B n a = .ok (numB false B a n, a + n) := by unfold getM; rw [if_pos h]
theorem getM_bad {n : Nat} (h : 8 * B.length < a + n) : getM B n a = .error 20 := by unfold getM; rw [if_neg (by omega)]
theorem c26 (hs : St H0 H (flR f B a most out 0 :: σ))
    (hbad : ∀ k, k ≠ 0 → storedM B most a out = .error k → ∀ H' a' out', St H0 H' (flR f B a' most out' k :: σ) → R (.tuple #[]) H')
    (hR : ∀ a' out', storedM B most a out = .ok (a', out') → ∀ H', St H0 H' (flR f B a' most out' 0 :: σ) → R (.tuple #[]) H') :
    CallsH Try.prog 26 #[.pointer (some ⟨f, 0, none⟩)] H R := by
  have key : storedM B most a out = storedM B most a out := rfl
  conv at key => lhs; unfold storedM
  obtain ⟨rb, p, c, h1, h2, h3, hs'⟩ := flR_op hs
  have e16 : (2 : Int) ^ 16 = 65536 := by decide
  refine Try.s26 ⟨_, rfl, _, hs'.get 2 (j := 0) rfl rfl, c57 hs' (i := 0) rfl fun H1 hs1 => ⟨rfl, ?_⟩⟩
  have hs1 : St H0 H1 (flR f B ((a + 7) / 8 * 8) most out 0 :: σ) := flR_mk h1 h2 h3 hs1
  clear hs'
  generalize (a + 7) / 8 * 8 = a1 at *
  have bad0 : ∀ {H2 a2 out2}, storedM B most a out = .error 20 → St H0 H2 (flR f B a2 most out2 20 :: σ) → R (.tuple #[]) H2 := fun h hs => hbad 20 (by decide) h _ _ _ hs
  -- behind the two numbers
  refine c25 hs1 (by omega) (fun hlt H2 hs2 => ⟨_, rfl, ?_⟩) (fun hle H2 hs2 => ⟨_, rfl, ?_⟩)
  · rw [getM_bad (n := 16) hlt] at key
    rw [if_pos rfl] at hs2
    refine c25 hs2 (by omega) (fun hlt H3 hs3 => ⟨_, rfl, ?_⟩) (fun hle H3 hs3 => ⟨_, rfl, ?_⟩)
    · rw [if_neg (by decide)] at hs3
      intro J hJ
      exact ⟨_, rfl, _, flR_e hs3, br_t rfl (bad0 key.symm hs3)⟩
    · intro J hJ
      exact ⟨_, rfl, _, flR_e hs3, br_t rfl (bad0 key.symm hs3)⟩
  rw [getM_num (n := 16) hle] at key
  simp only [show Int.toNat 16 = 16 from rfl] at hs2 key hle ⊢
  have hn := numB_rng false B a1 16
  refine c25 hs2 (by omega) (fun hlt H3 hs3 => ⟨_, rfl, ?_⟩) (fun hle2 H3 hs3 => ⟨_, rfl, ?_⟩)
  · rw [getM_bad (n := 16) hlt] at key
    rw [if_pos rfl] at hs3
    intro J hJ
    exact ⟨_, rfl, _, flR_e hs3, br_t rfl (bad0 key.symm hs3)⟩
  rw [getM_num (n := 16) hle2] at key
  simp only [show Int.toNat 16 = 16 from rfl] at hs3 key hle2 ⊢
  have hm := numB_rng false B (a1 + 16) 16
  generalize numB false B a1 16 = n at *
  generalize numB false B (a1 + 16) 16 = m at *
  intro J hJ
  obtain ⟨rb, p, c, h1, h2, h3, hs3'⟩ := flR_op hs3
  -- the loop comes to nothing with an error
  have stop : ∀ k, k ≠ 0 → storedM B most a out = .error k → ∀ H' a' out', St H0 H' (flR f B a' most out' k :: σ) → J [] H' := fun k hk he H' a' out' hs => by
    refine hJ H' ?_
    intro X hX
    refine hX _ H' ?_
    intro J2 hJ2
    exact br_dec (fun _ => ⟨_, rfl, _, flR_e hs, br_eq (fun h => absurd h hk) (fun _ => hbad k hk he _ _ _ hs)⟩) (fun _ => hbad k hk he _ _ _ hs)
  have w1 : IntKind.wrap .i64 ((most : Int) - ((out.length : Nat) : Int)) = (most : Int) - out.length := wrap_id (by omega) (by omega)
  refine ⟨_, rfl, _, flR_e hs3, br_f rfl (br_ne (fun hne => c30 hs3 fun H4 hs4 => ⟨rfl, ?_⟩) (fun heq => ⟨_, rfl, _, hs3'.get 2 (j := 2) rfl rfl, _, rfl, _, _, _, hs3'.get 2 (j := 1) rfl rfl, ?_⟩))⟩
  · rw [if_pos (fun h => hne ((xor_ffff (by omega) (by omega)).2 h))] at key
    exact stop 25 (by decide) key.symm H4 _ _ hs4
  rw [if_neg (fun h => h ((xor_ffff (by omega) (by omega)).1 heq))] at key
  rw [w1]
  refine br_dec (fun hgt => c30 hs3 fun H4 hs4 => ⟨rfl, ?_⟩) (fun hle3 => hJ H3 ?_)
  · rw [if_pos hgt] at key
    exact stop 24 (by decide) key.symm H4 _ _ hs4
  rw [if_neg hle3] at key
  obtain ⟨N, rfl⟩ := Int.eq_ofNat_of_zero_le hn.1
  rw [Int.toNat_natCast] at key
  clear stop bad0 hJ w1 hs3'
  intro X hX
  have loop : ∀ (r k a2 : Nat) (out2 : List Int) (H4 : Heap), k + r = N → out2.length = out.length + k → bytesM B r a2 out2 = storedM B most a out → St H0 H4 (flR f B a2 most out2 0 :: σ) → X [.int .i64 k] H4 := by
    intro r
    induction r with
    | zero =>
      intro k a2 out2 H4 hk hl hb hs4
      refine hX _ H4 ?_
      intro J2 hJ2
      rw [bytesM] at hb
      exact br_n (by omega) (hR _ _ hb.symm H4 hs4)
    | succ r ih =>
      intro k a2 out2 H4 hk hl hb hs4
      have wk : IntKind.wrap .i64 ((k : Int) + 1) = ((k + 1 : Nat) : Int) := by rw [wrap_id (by omega) (by omega)]; omega
      refine hX _ H4 ?_
      rw [wk]
      intro J2 hJ2
      refine br_y (by omega) ⟨_, rfl, _, flR_e hs4, br_t rfl (hJ2 H4 ?_)⟩
      obtain ⟨rb, p, c, h1, h2, h3, hs4'⟩ := flR_op hs4
      have e8 : (2 : Int) ^ 8 = 256 := by decide
      refine ⟨_, rfl, _, _, _, hs4'.get 2 (j := 1) rfl rfl, getO hs4' (by omega) (fun hlt H5 hs5 => ⟨_, rfl, .inr ⟨_, _, _, hs5.get 2 (j := 1) rfl rfl, rfl⟩, ?_⟩) (fun hle H5 hs5 => ⟨_, rfl, .inr ⟨_, _, _, hs5.get 2 (j := 1) rfl rfl, rfl⟩, ?_⟩)⟩
      · rw [bytesM, getM_bad (n := 8) hlt] at hb
        rw [if_pos rfl] at hs5
        refine hs5.alcE fun b H6 he hs6 => ⟨.inl he, ?_⟩
        refine hs6.appC 2 0 (el := 5) (k := 1) rfl rfl rfl (one1 rfl) (by decide) rfl (by omega) (by omega) fun p' c' H7 hs7 => ⟨_, rfl, ?_⟩
        refine hs7.put 3 (j := 1) rfl (by simp) rfl fun H8 hs8 => ?_
        have hs9 : St H0 H8 (flR f B a2 most (out2 ++ [0]) 20 :: σ) := by
          refine flR_mk (rb := rb) (p := p') (c := c') (by simp; omega) h2 (fun z hz => ?_) ?_
          · rcases List.mem_append.1 hz with hz | hz
            · exact h3 z hz
            · rw [List.mem_singleton.1 hz]; omega
          · rw [kints_append, List.length_append, List.length_singleton]
            exact hs8.tail
        refine hX _ H8 ?_
        intro J3 hJ3
        exact br_dec (fun _ => ⟨_, rfl, _, flR_e hs9, br_f rfl (hbad 20 (by decide) hb.symm _ _ _ hs9)⟩) (fun _ => hbad 20 (by decide) hb.symm _ _ _ hs9)
      · rw [bytesM, getM_num (n := 8) hle] at hb
        simp only [show Int.toNat 8 = 8 from rfl] at hs5 hb ⊢
        have hv := numB_rng false B a2 8
        generalize numB false B a2 8 = v at *
        rw [wrap_u8 (by omega) (by omega)]
        refine hs5.alcE fun b H6 he hs6 => ⟨.inl he, ?_⟩
        refine hs6.appC 2 0 (el := 5) (k := 1) rfl rfl rfl (one1 rfl) (by decide) rfl (by omega) (by omega) fun p' c' H7 hs7 => ⟨_, rfl, ?_⟩
        refine hs7.put 3 (j := 1) rfl (by simp) rfl fun H8 hs8 => ?_
        refine ih (k + 1) (a2 + 8) (out2 ++ [v]) H8 (by omega) (by simp; omega) hb ?_
        refine flR_mk (rb := rb) (p := p') (c := c') (by simp; omega) h2 (fun z hz => ?_) ?_
        · rcases List.mem_append.1 hz with hz | hz
          · exact h3 z hz
          · rw [List.mem_singleton.1 hz]; omega
        · rw [kints_append, List.length_append, List.length_singleton]
          exact hs8.tail
  exact loop N 0 _ out H3 (by omega) (by omega) key hs3
end
theorem fixK : ∀ k : Fin 288, (k.val ≥ 144 ∧ k.val < 256 → fixL.getD k.val 0 = 9) ∧ (k.val ≥ 256 ∧ k.val < 280 → fixL.getD k.val 0 = 7) ∧ (¬ (k.val ≥ 144 ∧ k.val < 256) → ¬ (k.val ≥ 256 ∧ k.val < 280) → fixL.getD k.val 0 = 8) := by decide +kernel
theorem fixL_len : fixL.length = 288 := by decide +kernel
theorem fixD_len : fixD.length = 32 := by decide +kernel
theorem fixD_get : ∀ k : Fin 32, fixD.getD k.val 0 = 5 := by decide +kernel
theorem take_get {l : List Int} {k : Nat} (h : k < l.length) : l.take (k + 1) = l.take k ++ [l.getD k 0] := by
 rw [List.take_add_one, get_gD l 0 h]; rfl
theorem c20 (hR : ∀ p c q c' H', St H H' [.sl q 32 c' 3 1 (ints fixD), .sl p 288 c 3 1 (ints fixL)] → R (.tuple #[.slice p 288 c, .slice q 32 c']) H') : CallsH Try.prog 20 #[] H R := by
 refine Try.s20 (_u := ()) ?_
 unfold Try.S20
 intro X hX
 have two : ∀ p c H1, St H H1 [.sl p 288 c 3 1 (ints fixL)] → X [.slice p 288 c, .int .i64 ((288 : Nat) : Int)] H1 := fun p c H1 hs1 => by
  refine hX _ _ _ _ H1 (br_n (by omega) ?_)
  intro Y hY
  have go : ∀ k, k ≤ 32 → ∀ q c' H2, St H H2 [.sl q k c' 3 1 (ints (fixD.take k)), .sl p 288 c 3 1 (ints fixL)] → Y [.slice q k c', .int .i64 (k : Nat)] H2 := upto fun k hk ih q c' H2 hs2 => by
   refine hY _ _ _ _ H2 (br_dec (fun hlt => ?_) (fun hge => ?_))
   ·have hlt : k < 32 := by omega
    rw [wrap_id (by omega) (by omega)]
    refine hs2.alc fun b H3 hs3 => ?_
    refine hs3.appC 1 0 (el := 3) (k := 1) rfl rfl rfl (one1 rfl) (by decide) rfl (by omega) (by omega) fun p' c2 H4 hs4 => ?_
    refine ih hlt p' c2 H4 ?_
    have e : fixD.take (k + 1) = fixD.take k ++ [5] := by rw [take_get (by rw [fixD_len]; exact hlt), fixD_get ⟨k, hlt⟩]
    rw [e, ints_append]
    exact hs4.tail
   ·have : k = 32 := by omega
    subst this
    refine hR p c q c' H2 ?_
    rw [List.take_of_length_le (by rw [fixD_len]; exact Nat.le_refl _)] at hs2
    exact hs2
  exact go 0 (by omega) none 0 H1 (hs1.nilSl 3 1)
 have go : ∀ k, k ≤ 288 → ∀ p c H1, St H H1 [.sl p k c 3 1 (ints (fixL.take k))] → X [.slice p k c, .int .i64 (k : Nat)] H1 := upto fun k hk ih p c H1 hs1 => by
  by_cases hlt : k < 288
  ·refine hX _ _ _ _ H1 (br_y (by omega) ?_)
   intro J hJ
   have nx : ∀ n, fixL.getD k 0 = n → J [.int .i64 n] H1 := fun n hn => by
    refine hJ _ H1 ?_
    rw [wrap_id (by omega) (by omega)]
    refine hs1.alc fun b H3 hs3 => ?_
    refine hs3.appC 1 0 (el := 3) (k := 1) rfl rfl rfl (one1 rfl) (by decide) rfl (by omega) (by omega) fun p' c2 H4 hs4 => ?_
    refine ih hlt p' c2 H4 ?_
    rw [take_get (by rw [fixL_len]; exact hlt), hn, ints_append]
    exact hs4.tail
   obtain ⟨k1, k2, k3⟩ := fixK ⟨k, hlt⟩
   simp only at k1 k2 k3
   refine br_dec (fun h1 => br_dec (fun h2 => nx 9 (k1 (by omega))) (fun h2 => br_dec (fun h3 => br_dec (fun h4 => nx 7 (k2 (by omega))) (fun h4 => nx 8 (k3 (by omega) (by omega)))) (fun h3 => nx 8 (k3 (by omega) (by omega))))) (fun h1 => br_dec (fun h3 => br_dec (fun h4 => nx 7 (k2 (by omega))) (fun h4 => nx 8 (k3 (by omega) (by omega)))) (fun h3 => nx 8 (k3 (by omega) (by omega))))
  ·have : k = 288 := by omega
   subst this
   rw [List.take_of_length_le (by rw [fixL_len]; exact Nat.le_refl _)] at hs1
   exact two p c H1 hs1
 exact go 0 (by omega) none 0 H ((St.nil H).nilSl 3 1)
end Go.Proofs
