/-
  OWN WORK. Several texts in one: GFunD, GFun, ShS, ShT, ShU, JpA, JpB, JpC, JpD, JpE, JpF, JpG, FlA, HuffH.
-/
import Derived.Test.YtcggbdggpdcnjaaMgJpegNearB

set_option linter.unusedVariables false
set_option maxRecDepth 100000
set_option linter.unusedSimpArgs false
namespace Go.Proofs
open Go.Sh Go.Sh.Plan
open Go.IntKind (wrap)
open Int (toNat)
def Try.S56 (p1 : AV) (H : Heap) (R : Kv) : Prop :=
 alc H (.cells p1 69) fun b2 H3 => alc H3 (.cells #[.int .i64 0, .int .i64 0, .int .i64 0] 69) fun b4 H5 => 0 ≤ (0 : Int) ∧ (0 : Int) < ((3 : Nat) : Int) ∧ ∃ y6, cell H5 (.add ⟨b2, 0, none⟩ (toNat (0 : Int) * 1)) = some (.int .i64 y6) ∧ 0 ≤ (1 : Int) ∧ (1 : Int) < ((3 : Nat) : Int) ∧ ∃ v7, cell H5 (.add ⟨b2, 0, none⟩ (toNat (1 : Int) * 1)) = some (.int .i64 v7) ∧ 0 ≤ (2 : Int) ∧ (2 : Int) < ((3 : Nat) : Int) ∧ ∃ v8, cell H5 (.add ⟨b2, 0, none⟩ (toNat (2 : Int) * 1)) = some (.int .i64 v8) ∧ 0 ≤ (16 : Int) ∧ Try.C 66 #[.int .i64 (wrap .i64 (y6 + (shrI .i64 (wrap .i64 ((wrap .i64 ((91881 : Int) * (wrap .i64 (v8 - 128)))) + 32768)) 16)))] H5 fun r9 H10 => ∃ r11, r9 = .int .i64 r11 ∧ 0 ≤ (16 : Int) ∧ Try.C 66 #[.int .i64 (wrap .i64 (y6 - (shrI .i64 (wrap .i64 ((wrap .i64 ((wrap .i64 ((22554 : Int) * (wrap .i64 (v7 - 128)))) + (wrap .i64 ((46802 : Int) * (wrap .i64 (v8 - 128)))))) + 32768)) 16)))] H10 fun r12 H13 => ∃ r14, r12 = .int .i64 r14 ∧ 0 ≤ (16 : Int) ∧ Try.C 66 #[.int .i64 (wrap .i64 (y6 + (shrI .i64 (wrap .i64 ((wrap .i64 ((116130 : Int) * (wrap .i64 (v7 - 128)))) + 32768)) 16)))] H13 fun r15 H16 => ∃ r17, r15 = .int .i64 r17 ∧ #[Value.int .i64 r11, Value.int .i64 r14, Value.int .i64 r17].size = 3 ∧ stAt H16 ⟨b4, 0, none⟩ (Array.toList #[.int .i64 r11, .int .i64 r14, .int .i64 r17]) fun H18 => ∃ re19, re19.size = 3 ∧ rowIn H18 ⟨b4, 0, none⟩ re19 ∧ R (.agg re19) H18
def Try.p56 : Plan := (tl (tl (tl leaf)))
theorem Try.s56 {p1 : AV} {H R} (h : Try.S56 p1 H R) : Try.C 56 #[.agg p1] H R := vcs Try.tab_ok Try.mixed Try.func56 Try.cal56 Try.p56 h (by kernel_rfl)
def Try.S57 (x1p : OA) (x1l x1c : Nat) (co2 : Int) (H : Heap) (R : Kv) : Prop :=
 ∀ J3 : Kl, (∀ H4, (Try.C 71 #[.int .u64 (wrap .u64 (x1l : Int)), .int .u64 (wrap .u64 co2)] H4 fun r5 H6 => ∃ r7 r8, r5 = .tuple #[.int .u64 r7, .int .u64 r8] ∧ ∀ J9 : Kl, (∀ H10, (0 ≤ (wrap .i64 r8) ∧ (wrap .i64 r8) ≤ (wrap .i64 r8) ∧ ((8 : Nat) : Int) * (wrap .i64 r8) ≤ 281474976710656 ∧ (wrap .i64 r8) ≤ 281474976710656 ∧ alc H10 (.cells (List.toArray (reps (toNat (wrap .i64 r8)) (Array.toList #[.int .i64 0]))) 3) fun b11 H12 => ∃ xs13, rowOf H12 x1p (min x1l (toNat (wrap .i64 r8)) * 1) xs13 ∧ stAt H12 ⟨b11, 0, none⟩ xs13.toList fun H14 => ∀ X15 : Kl, (∀ (n16 : Int) H17, (br (decide (n16 < (((toNat (wrap .i64 r8)) : Nat) : Int)))
 (0 ≤ n16 ∧ n16 ≤ (((toNat (wrap .i64 r8)) : Nat) : Int) ∧ 0 ≤ n16 ∧ n16 ≤ (((toNat (wrap .i64 r8)) : Nat) : Int) ∧ ∃ xs18, rowOf H17 (if (toNat (wrap .i64 r8)) = 0 then (some ⟨b11, 0, none⟩) else Option.map (fun x => Addr.add x (0 * 1)) (some ⟨b11, 0, none⟩)) (min ((toNat n16) - 0) ((toNat (wrap .i64 r8)) - (toNat n16)) * 1) xs18 ∧ copQ H17 (if (toNat (wrap .i64 r8)) = (toNat n16) then (some ⟨b11, 0, none⟩) else Option.map (fun x => Addr.add x ((toNat n16) * 1)) (some ⟨b11, 0, none⟩)) xs18 fun H19 => X15 [.int .i64 (wrap .i64 (n16 + ((min ((toNat n16) - 0) ((toNat (wrap .i64 r8)) - (toNat n16)) : Nat) : Int)))] H19)
 (R (.slice (some ⟨b11, 0, none⟩) (toNat (wrap .i64 r8)) (toNat (wrap .i64 r8))) H17)) → X15 [.int .i64 n16] H17) → X15 [.int .i64 ((min x1l (toNat (wrap .i64 r8)) : Nat) : Int)] H14) → J9 [] H10) →
 br (decide (r7 > 0)) (False) (br (decide (r8 > 9223372036854775807))
 (False)
 (J9 [] H6))) → J3 [] H4) →
 br (decide (co2 < 0))
 (False)
 (J3 [] H)
def Try.p57 : Plan := (tl (two (join [] [0, 1] (tl (tl leaf))) (tl (two (join [] [0, 6] (tl (tl leaf))) (tl (tl (two (one (loop [(8, 3)] [7] (two (tl (tl leaf)) (one leaf)))) (tl leaf))))))))
theorem Try.s57 {x1p : OA} {x1l x1c : Nat} {co2 : Int} {H R} (h : Try.S57 x1p x1l x1c co2 H R) : Try.C 57 #[.slice x1p x1l x1c, .int .i64 co2] H R := vcs Try.tab_ok Try.mixed Try.func57 Try.cal57 Try.p57 h (by kernel_rfl)
def Try.S58 (s1p : OA) (s1l s1c : Nat) (n2 : Int) (H : Heap) (R : Kv) : Prop :=
 ∀ J3 : Kl, (∀ H4, (br (decide (((wrap .i64 (n2 - (wrap .i64 ((s1c : Int) - (s1l : Int))))) : Int) > 0))
 (0 ≤ (s1c : Int) ∧ (s1c : Int) ≤ (s1c : Int) ∧ appZ 1 1 #[.int .u8 0] H4 (if s1c = 0 then s1p else Option.map (fun x => Addr.add x (0 * 1)) s1p) ((toNat (s1c : Int)) - 0) (s1c - 0) (wrap .i64 (n2 - (wrap .i64 ((s1c : Int) - (s1l : Int))))) 5 fun ap5p ap5l ap5c H6 => 0 ≤ (s1l : Int) ∧ (s1l : Int) ≤ (ap5c : Int) ∧ R (.slice (if ap5c = 0 then ap5p else Option.map (fun x => Addr.add x (0 * 1)) ap5p) ((toNat (s1l : Int)) - 0) (ap5c - 0)) H6)
 (R (.slice s1p s1l s1c) H4)) → J3 [] H4) →
 br (decide (n2 < 0))
 (False)
 (J3 [] H)
def Try.p58 : Plan := (tl (two (join [] [0, 1] (tl (tl leaf))) (two (tl (tl (tl leaf))) (tl leaf))))
theorem Try.s58 {s1p : OA} {s1l s1c : Nat} {n2 : Int} {H R} (h : Try.S58 s1p s1l s1c n2 H R) : Try.C 58 #[.slice s1p s1l s1c, .int .i64 n2] H R := vcs Try.tab_ok Try.mixed Try.func58 Try.cal58 Try.p58 h (by kernel_rfl)
def Try.S59 (x1 : Int) (H : Heap) (R : Kv) : Prop :=
 Try.C 73 #[.int .u64 x1] H fun r2 H3 => ∃ r4, r2 = .int .i64 r4 ∧ R (.int .i64 r4) H3
def Try.p59 : Plan := (tl (two (two (tl leaf) leaf) (tl leaf)))
theorem Try.s59 {x1 : Int} {H R} (h : Try.S59 x1 H R) : Try.C 59 #[.int .u64 x1] H R := vcs Try.tab_ok Try.mixed Try.func59 Try.cal59 Try.p59 h (by kernel_rfl)
def Try.S60 (x1p : OA) (x1l x1c cm2g : Nat) (cm2x cm2y : AV) (H : Heap) (R : Kv) : Prop :=
 Try.C 74 #[.slice x1p x1l x1c, .int .i64 (x1l : Int), .func (.func cm2g) cm2x cm2y] H fun r3 H4 => r3 = .tuple #[] ∧ R (.tuple #[]) H4
def Try.p60 : Plan := leaf
theorem Try.s60 {x1p : OA} {x1l x1c cm2g : Nat} {cm2x cm2y : AV} {H R} (h : Try.S60 x1p x1l x1c cm2g cm2x cm2y H R) : Try.C 60 #[.slice x1p x1l x1c, .func (.func cm2g) cm2x cm2y] H R := vcs Try.tab_ok Try.mixed Try.func60 Try.cal60 Try.p60 h (by kernel_rfl)
def Try.S61 (a1 b2 : AV) (H : Heap) (R : Kv) : Prop :=
 alc H (.cells a1 122) fun b3 H4 => alc H4 (.cells b2 122) fun b5 H6 => ∃ co7, cell H6 (.add ⟨b3, 0, none⟩ 0) = some (.int .i64 co7) ∧ ∃ co8, cell H6 (.add ⟨b5, 0, none⟩ 0) = some (.int .i64 co8) ∧ R (.int .i64 (wrap .i64 (co7 - co8))) H6
def Try.p61 : Plan := (tl (tl leaf))
theorem Try.s61 {a1 b2 : AV} {H R} (h : Try.S61 a1 b2 H R) : Try.C 61 #[.agg a1, .agg b2] H R := vcs Try.tab_ok Try.mixed Try.func61 Try.cal61 Try.p61 h (by kernel_rfl)
def Try.S62 (a1p : OA) (a1l a1c : Nat) (b2p : OA) (b2l b2c : Nat) (H : Heap) (R : Kv) : Prop :=
 alc H (.cells #[.slice a1p a1l a1c, .slice b2p b2l b2c] 120) fun b3 H4 => Try.C 75 #[.slice (some ⟨b3, 0, none⟩) 2 2] H4 fun r5 H6 => ∃ ou7p ou7l ou7c, r5 = .slice ou7p ou7l ou7c ∧ Try.C 60 #[.slice ou7p ou7l ou7c, .func (.func 76) #[] #[]] H6 fun r8 H9 => r8 = .tuple #[] ∧ R (.slice ou7p ou7l ou7c) H9
def Try.p62 : Plan := (tl (tl (tl (tl leaf))))
theorem Try.s62 {a1p : OA} {a1l a1c : Nat} {b2p : OA} {b2l b2c : Nat} {H R} (h : Try.S62 a1p a1l a1c b2p b2l b2c H R) : Try.C 62 #[.slice a1p a1l a1c, .slice b2p b2l b2c] H R := vcs Try.tab_ok Try.mixed Try.func62 Try.cal62 Try.p62 h (by kernel_rfl)
def Try.S63 (ro1p : OA) (ro1l ro1c : Nat) (H : Heap) (R : Kv) : Prop :=
 ∀ X2 : Kl, (∀ (ou3p : OA) (ou3l ou3c : Nat) (i4 : Int) H5, (br (decide (((wrap .i64 (i4 + 1)) : Int) < (ro1l : Int)))
 (∃ a6, ro1p = some a6 ∧ 0 ≤ i4 ∧ i4 < (ro1l : Int) ∧ ∃ co7, cell H5 (.add (.add a6 (toNat i4 * 2)) 0) = some (.int .i64 co7) ∧ ∃ a8, ro1p = some a8 ∧ 0 ≤ (wrap .i64 (i4 + 1)) ∧ (wrap .i64 (i4 + 1)) < (ro1l : Int) ∧ ∃ co9, cell H5 (.add (.add a8 (toNat (wrap .i64 (i4 + 1)) * 2)) 0) = some (.int .i64 co9) ∧ ∃ a10, ro1p = some a10 ∧ 0 ≤ i4 ∧ i4 < (ro1l : Int) ∧ ∃ sy11p sy11l sy11c, cell H5 (.add (.add a10 (toNat i4 * 2)) 1) = some (.slice sy11p sy11l sy11c) ∧ ∃ a12, ro1p = some a12 ∧ 0 ≤ (wrap .i64 (i4 + 1)) ∧ (wrap .i64 (i4 + 1)) < (ro1l : Int) ∧ ∃ sy13p sy13l sy13c, cell H5 (.add (.add a12 (toNat (wrap .i64 (i4 + 1)) * 2)) 1) = some (.slice sy13p sy13l sy13c) ∧ alc H5 (.cells #[.slice sy11p sy11l sy11c, .slice sy13p sy13l sy13c] 48) fun b14 H15 => (Ext H5 H15 ∨ (∃ co25, cell H15 (.add (.add a8 (toNat (wrap .i64 (i4 + 1)) * 2)) 0) = some (.int .i64 co25) ∧ Value.int .i64 co25 = .int .i64 co9) ∧ (∃ co26, cell H15 (.add (.add a6 (toNat i4 * 2)) 0) = some (.int .i64 co26) ∧ Value.int .i64 co26 = .int .i64 co7)) ∧ Try.C 77 #[.slice (some ⟨b14, 0, none⟩) 2 2] H15 fun r16 H17 => ∃ r18p r18l r18c, r16 = .slice r18p r18l r18c ∧ (Ext H15 H17 ∨ (∃ co23, cell H17 (.add (.add a8 (toNat (wrap .i64 (i4 + 1)) * 2)) 0) = some (.int .i64 co23) ∧ Value.int .i64 co23 = .int .i64 co9) ∧ (∃ co24, cell H17 (.add (.add a6 (toNat i4 * 2)) 0) = some (.int .i64 co24) ∧ Value.int .i64 co24 = .int .i64 co7)) ∧ #[Value.int .i64 (wrap .i64 (co7 + co9)), Value.slice r18p r18l r18c].size = 2 ∧ 0 + 2 ≤ 2 ∧ alc H17 (.cells (List.toArray (setL [.int .i64 0, .slice none 0 0] 0 (Array.toList #[.int .i64 (wrap .i64 (co7 + co9)), .slice r18p r18l r18c]))) 122) fun b19 H20 => appQ 2 32 #[.int .i64 0, .slice none 0 0] H20 ou3p ou3l ou3c (some ⟨b19, 0, none⟩) 1 122 fun ou21p ou21l ou21c H22 => X2 [.slice ou21p ou21l ou21c, .int .i64 (wrap .i64 (i4 + 2))] H22)
 (R (.slice ou3p ou3l ou3c) H5)) → X2 [.slice ou3p ou3l ou3c, .int .i64 i4] H5) → X2 [.slice none 0 0, .int .i64 0] H
def Try.p63 : Plan := (tl (tl (two (tl (one (loop [(3, 120), (4, 3)] [0] (two (tl (tl leaf)) (two (one leaf) leaf))))) (tl leaf))))
theorem Try.s63 {ro1p : OA} {ro1l ro1c : Nat} {H R} (h : Try.S63 ro1p ro1l ro1c H R) : Try.C 63 #[.slice ro1p ro1l ro1c] H R := vcs Try.tab_ok Try.mixed Try.func63 Try.cal63 Try.p63 h (by kernel_rfl)
def Try.S64 (le1p : OA) (le1l le1c : Nat) (H : Heap) (R : Kv) : Prop :=
 br (decide (((le1l : Int) : Int) > 300))
 (R (.tuple #[.int .i64 0, .bool false]) H)
 (∀ X2 : Kl, (∀ (su3 t4 : Int) H5, (br (decide (t4 < (le1l : Int)))
 (∃ a6, le1p = some a6 ∧ 0 ≤ t4 ∧ t4 < (le1l : Int) ∧ ∃ n7, cell H5 (.add a6 (toNat t4 * 1)) = some (.int .i64 n7) ∧ ∀ J8 : Kl, (∀ H9, (br (decide (n7 > 0))
 (0 ≤ (wrap .i64 ((16 : Int) - n7)) ∧ X2 [.int .i64 (wrap .i64 (su3 + (shlI .i64 1 (wrap .i64 ((16 : Int) - n7))))), .int .i64 (wrap .i64 (t4 + 1))] H9)
 (X2 [.int .i64 su3, .int .i64 (wrap .i64 (t4 + 1))] H9)) → J8 [] H9) →
 br (decide (n7 < 0)) (R (.tuple #[.int .i64 0, .bool false]) H5) (br (decide (n7 > 16))
 (R (.tuple #[.int .i64 0, .bool false]) H5)
 (J8 [] H5)))
 (R (.tuple #[.int .i64 su3, .bool true]) H5)) → X2 [.int .i64 su3, .int .i64 t4] H5) → X2 [.int .i64 0, .int .i64 0] H)
def Try.p64 : Plan := (tl (tg (tl (two (tl (one (loop [(4, 3), (12, 3)] [10, 11] (tl (two (tl leaf) (two (one (tl (two (join [] [4, 6, 10, 11, 12] g0) (tl (tl leaf))))) leaf)))))) (tl leaf)))))
theorem Try.s64 {le1p : OA} {le1l le1c : Nat} {H R} (h : Try.S64 le1p le1l le1c H R) : Try.C 64 #[.slice le1p le1l le1c] H R := vcs Try.tab_ok Try.mixed Try.func64 Try.cal64 Try.p64 h (by kernel_rfl)
def Try.S65 (at_1 : Int) (hi2 : Bool) (H : Heap) (R : Kv) : Prop :=
 br hi2
 ((8 : Int) ≠ 0 ∧ R (.int .i64 (wrap .i64 ((7 : Int) - (Int.tmod at_1 8)))) H)
 ((8 : Int) ≠ 0 ∧ R (.int .i64 (Int.tmod at_1 8)) H)
def Try.p65 : Plan := (tl (tg (tl leaf)))
theorem Try.s65 {at_1 : Int} {hi2 : Bool} {H R} (h : Try.S65 at_1 hi2 H R) : Try.C 65 #[.int .i64 at_1, .bool hi2] H R := vcs Try.tab_ok Try.mixed Try.func65 Try.cal65 Try.p65 h (by kernel_rfl)
def Try.S66 (n1 : Int) (H : Heap) (R : Kv) : Prop :=
 R (.int .i64 (min 255 (max 0 n1))) H
def Try.p66 : Plan := (tl (tl leaf))
theorem Try.s66 {n1 : Int} {H R} (h : Try.S66 n1 H R) : Try.C 66 #[.int .i64 n1] H R := vcs Try.tab_ok Try.mixed Try.func66 Try.cal66 Try.p66 h (by kernel_rfl)
def Try.S67 (u1 : Int) (H : Heap) (R : Kv) : Prop :=
 alc H (.cells #[.int .i64 0, .int .i64 0, .int .i64 0, .int .i64 0, .int .i64 0, .int .i64 0, .int .i64 0, .int .i64 0] 105) fun b2 H3 => ∀ X4 : Kl, (∀ (x5 : Int) H6, (br (decide (x5 < 8))
 (br (u1 == 0)
 (0 ≤ x5 ∧ x5 < ((8 : Nat) : Int) ∧ stAt H6 (.add ⟨b2, 0, none⟩ (toNat x5 * 1)) [.int .i64 2896] fun H7 => X4 [.int .i64 (wrap .i64 (x5 + 1))] H7)
 (Try.C 78 #[.int .i64 (wrap .i64 ((wrap .i64 ((wrap .i64 ((2 : Int) * x5)) + 1)) * u1))] H6 fun r8 H9 => ∃ r10, r8 = .int .i64 r10 ∧ 0 ≤ x5 ∧ x5 < ((8 : Nat) : Int) ∧ stAt H9 (.add ⟨b2, 0, none⟩ (toNat x5 * 1)) [.int .i64 r10] fun H11 => X4 [.int .i64 (wrap .i64 (x5 + 1))] H11))
 (∃ v12, v12.size = 8 ∧ rowIn H6 ⟨b2, 0, none⟩ v12 ∧ v12.size = 8 ∧ stAt H6 ⟨b2, 0, none⟩ v12.toList fun H13 => ∃ re14, re14.size = 8 ∧ rowIn H13 ⟨b2, 0, none⟩ re14 ∧ R (.agg re14) H13)) → X4 [.int .i64 x5] H6) → X4 [.int .i64 0] H3
def Try.p67 : Plan := (tl (two (tl (one (loop [(4, 3)] [0, 2] (tl (two (tl leaf) (two (one (tl (tl (tl leaf)))) leaf)))))) (tl leaf)))
theorem Try.s67 {u1 : Int} {H R} (h : Try.S67 u1 H R) : Try.C 67 #[.int .i64 u1] H R := vcs Try.tab_ok Try.mixed Try.func67 Try.cal67 Try.p67 h (by kernel_rfl)
def Try.S68 (le1p : OA) (le1l le1c : Nat) (H : Heap) (R : Kv) : Prop :=
 Try.C 40 #[.slice le1p le1l le1c] H fun r2 H3 => ∃ r4p r4l r4c r5, r2 = .tuple #[.slice r4p r4l r4c, .bool r5] ∧ br (!r5)
 (R (.tuple #[.pointer none, .bool false]) H3)
 (0 ≤ (1 : Int) ∧ (1 : Int) ≤ (1 : Int) ∧ ((16 : Nat) : Int) * (1 : Int) ≤ 281474976710656 ∧ (1 : Int) ≤ 281474976710656 ∧ alc H3 (.cells (List.toArray (reps (toNat 1) (Array.toList #[.int .i64 0, .int .i64 0]))) 150) fun b6 H7 => alc H7 (.cells #[.slice (some ⟨b6, 0, none⟩) (toNat 1) (toNat 1)] 149) fun b8 H9 => ∀ X10 : Kl, (∀ (s11 : Int) H12, (br (decide (s11 < (le1l : Int)))
 (∃ a13, le1p = some a13 ∧ 0 ≤ s11 ∧ s11 < (le1l : Int) ∧ ∃ n14, cell H12 (.add a13 (toNat s11 * 1)) = some (.int .i64 n14) ∧ ∀ X15 : Kl, (∀ (at_16 k17 : Int) H18, (br (decide (k17 ≥ 0))
 (∃ a19, r4p = some a19 ∧ 0 ≤ s11 ∧ s11 < (r4l : Int) ∧ ∃ v20, cell H18 (.add a19 (toNat s11 * 1)) = some (.int .i64 v20) ∧ 0 ≤ k17 ∧ br (k17 == 0)
 (∃ a21, (some ⟨b8, 0, none⟩) = some a21 ∧ ∃ no22p no22l no22c, cell H18 (.add a21 0) = some (.slice no22p no22l no22c) ∧ ∃ a23, no22p = some a23 ∧ 0 ≤ at_16 ∧ at_16 < (no22l : Int) ∧ 0 ≤ (andI .i64 (shrI .i64 v20 k17) 1) ∧ (andI .i64 (shrI .i64 v20 k17) 1) < ((2 : Nat) : Int) ∧ stAt H18 (.add (.add a23 (toNat at_16 * 2)) (toNat (andI .i64 (shrI .i64 v20 k17) 1) * 1)) [.int .i64 (wrap .i64 ((-1 : Int) - s11))] fun H24 => X10 [.int .i64 (wrap .i64 (s11 + 1))] H24)
 (∀ J25 : Kl, (∀ H26, (∃ a27, (some ⟨b8, 0, none⟩) = some a27 ∧ ∃ no28p no28l no28c, cell H26 (.add a27 0) = some (.slice no28p no28l no28c) ∧ ∃ a29, no28p = some a29 ∧ 0 ≤ at_16 ∧ at_16 < (no28l : Int) ∧ 0 ≤ (andI .i64 (shrI .i64 v20 k17) 1) ∧ (andI .i64 (shrI .i64 v20 k17) 1) < ((2 : Nat) : Int) ∧ ∃ at_30, cell H26 (.add (.add a29 (toNat at_16 * 2)) (toNat (andI .i64 (shrI .i64 v20 k17) 1) * 1)) = some (.int .i64 at_30) ∧ X15 [.int .i64 at_30, .int .i64 (wrap .i64 (k17 - 1))] H26) → J25 [] H26) →
 ∃ a31, (some ⟨b8, 0, none⟩) = some a31 ∧ ∃ no32p no32l no32c, cell H18 (.add a31 0) = some (.slice no32p no32l no32c) ∧ ∃ a33, no32p = some a33 ∧ 0 ≤ at_16 ∧ at_16 < (no32l : Int) ∧ 0 ≤ (andI .i64 (shrI .i64 v20 k17) 1) ∧ (andI .i64 (shrI .i64 v20 k17) 1) < ((2 : Nat) : Int) ∧ ∃ v34, cell H18 (.add (.add a33 (toNat at_16 * 2)) (toNat (andI .i64 (shrI .i64 v20 k17) 1) * 1)) = some (.int .i64 v34) ∧ br (v34 == 0)
 (∃ a35, (some ⟨b8, 0, none⟩) = some a35 ∧ ∃ no36p no36l no36c, cell H18 (.add a35 0) = some (.slice no36p no36l no36c) ∧ #[Value.int .i64 0, Value.int .i64 0].size = 2 ∧ 0 + 2 ≤ 2 ∧ alc H18 (.cells (List.toArray (setL [.int .i64 0, .int .i64 0] 0 (Array.toList #[.int .i64 0, .int .i64 0]))) 150) fun b37 H38 => appQ 2 16 #[.int .i64 0, .int .i64 0] H38 no36p no36l no36c (some ⟨b37, 0, none⟩) 1 150 fun ap39p ap39l ap39c H40 => ∃ a41, (some ⟨b8, 0, none⟩) = some a41 ∧ stAt H40 (.add a41 0) [.slice ap39p ap39l ap39c] fun H42 => ∃ a43, (some ⟨b8, 0, none⟩) = some a43 ∧ ∃ no44p no44l no44c, cell H42 (.add a43 0) = some (.slice no44p no44l no44c) ∧ ∃ a45, (some ⟨b8, 0, none⟩) = some a45 ∧ ∃ no46p no46l no46c, cell H42 (.add a45 0) = some (.slice no46p no46l no46c) ∧ ∃ a47, no44p = some a47 ∧ 0 ≤ at_16 ∧ at_16 < (no44l : Int) ∧ 0 ≤ (andI .i64 (shrI .i64 v20 k17) 1) ∧ (andI .i64 (shrI .i64 v20 k17) 1) < ((2 : Nat) : Int) ∧ stAt H42 (.add (.add a47 (toNat at_16 * 2)) (toNat (andI .i64 (shrI .i64 v20 k17) 1) * 1)) [.int .i64 (wrap .i64 ((no46l : Int) - 1))] fun H48 => J25 [] H48)
 (J25 [] H18)))
 (X10 [.int .i64 (wrap .i64 (s11 + 1))] H18)) → X15 [.int .i64 at_16, .int .i64 k17] H18) → X15 [.int .i64 0, .int .i64 (wrap .i64 (n14 - 1))] H12)
 (R (.tuple #[.pointer (some ⟨b8, 0, none⟩), .bool true]) H12)) → X10 [.int .i64 s11] H12) → X10 [.int .i64 0] H9)
def Try.p68 : Plan := (tl (tl (tg (tl (two (tl (one (loop [(24, 3)] [4, 6, 22, 23] (tl (two (tl leaf) (two (one (tl (tl (tl (one (loop [(9, 3), (10, 3)] [4, 6, 7, 22, 23, 24] (two (tl (tl leaf)) (two (one (tl (tg (two (join [] [4, 6, 7, 9, 10, 11, 22, 23, 24] g0) leaf)))) leaf)))))))) leaf)))))) (tl leaf))))))
theorem Try.s68 {le1p : OA} {le1l le1c : Nat} {H R} (h : Try.S68 le1p le1l le1c H R) : Try.C 68 #[.slice le1p le1l le1c] H R := vcs Try.tab_ok Try.mixed Try.func68 Try.cal68 Try.p68 h (by kernel_rfl)
def Try.S69 (r1 : OA) (n2 : Int) (H : Heap) (R : Kv) : Prop :=
 ∀ J3 : Kl, (∀ H4, (∀ X5 : Kl, (∀ (v6 k7 : Int) H8, (br (decide (k7 < n2))
 (∃ a9, r1 = some a9 ∧ ∃ b10p b10l b10c, cell H8 (.add a9 0) = some (.slice b10p b10l b10c) ∧ ∃ a11, r1 = some a11 ∧ ∃ at_12, cell H8 (.add a11 1) = some (.int .i64 at_12) ∧ (8 : Int) ≠ 0 ∧ ∃ a13, b10p = some a13 ∧ 0 ≤ (wrap .i64 (Int.tdiv at_12 8)) ∧ (wrap .i64 (Int.tdiv at_12 8)) < (b10l : Int) ∧ ∃ v14, cell H8 (.add a13 (toNat (wrap .i64 (Int.tdiv at_12 8)) * 1)) = some (.int .u8 v14) ∧ ∃ a15, r1 = some a15 ∧ ∃ at_16, cell H8 (.add a15 1) = some (.int .i64 at_16) ∧ ∃ a17, r1 = some a17 ∧ ∃ hi18, cell H8 (.add a17 2) = some (.bool hi18) ∧ Try.C 65 #[.int .i64 at_16, .bool hi18] H8 fun r19 H20 => ∃ r21, r19 = .int .i64 r21 ∧ (Ext H8 H20 ∨ (∃ v31, cell H20 (.add a13 (toNat (wrap .i64 (Int.tdiv at_12 8)) * 1)) = some (.int .u8 v31) ∧ Value.int .u8 v31 = .int .u8 v14) ∧ (∃ at_32, cell H20 (.add a11 1) = some (.int .i64 at_32) ∧ Value.int .i64 at_32 = .int .i64 at_12) ∧ (∃ b33p b33l b33c, cell H20 (.add a9 0) = some (.slice b33p b33l b33c) ∧ Value.slice b33p b33l b33c = .slice b10p b10l b10c)) ∧ 0 ≤ r21 ∧ ∀ J22 : Kl, (∀ (v23 : Int) H24, (∃ a25, r1 = some a25 ∧ ∃ at_26, cell H24 (.add a25 1) = some (.int .i64 at_26) ∧ ∃ a27, r1 = some a27 ∧ stAt H24 (.add a27 1) [.int .i64 (wrap .i64 (at_26 + 1))] fun H28 => X5 [.int .i64 v23, .int .i64 (wrap .i64 (k7 + 1))] H28) → J22 [.int .i64 v23] H24) →
 ∃ a29, r1 = some a29 ∧ ∃ hi30, cell H20 (.add a29 2) = some (.bool hi30) ∧ br hi30
 (0 ≤ (1 : Int) ∧ J22 [.int .i64 (orI .i64 (shlI .i64 v6 1) (andI .i64 (wrap .i64 (shrI .u8 v14 r21)) 1))] H20)
 (0 ≤ k7 ∧ J22 [.int .i64 (orI .i64 v6 (shlI .i64 (andI .i64 (wrap .i64 (shrI .u8 v14 r21)) 1) k7))] H20))
 (R (.tuple #[.int .i64 v6, .bool true]) H8)) → X5 [.int .i64 v6, .int .i64 k7] H8) → X5 [.int .i64 0, .int .i64 0] H4) → J3 [] H4) →
 br (decide (n2 < 0)) (R (.tuple #[.int .i64 0, .bool false]) H) (br (decide (n2 > 24)) (R (.tuple #[.int .i64 0, .bool false]) H) (Try.C 32 #[.pointer r1] H fun r34 H35 => ∃ r36, r34 = .int .i64 r36 ∧ br (decide (n2 > r36))
 (R (.tuple #[.int .i64 0, .bool false]) H35)
 (J3 [] H35)))
def Try.p69 : Plan := (tl (two (join [] [0, 1] g0) (tl (two (tl (one (loop [(6, 3), (22, 3)] [0, 21] (tl (two (tl leaf) (two (one (tl (tl (two (join [(6, 3)] [0, 21, 22] (tl (tl leaf))) leaf)))) leaf)))))) (tl leaf)))))
theorem Try.s69 {r1 : OA} {n2 : Int} {H R} (h : Try.S69 r1 n2 H R) : Try.C 69 #[.pointer r1, .int .i64 n2] H R := vcs Try.tab_ok Try.mixed Try.func69 Try.cal69 Try.p69 h (by kernel_rfl)
def Try.S70 (d1 : OA) (st2 bi3 : Int) (H : Heap) (R : Kv) : Prop :=
 ∀ J4 : Kl, (∀ H5, (∃ a6, d1 = some a6 ∧ ∃ no7p no7l no7c, cell H5 (.add a6 0) = some (.slice no7p no7l no7c) ∧ ∃ a8, no7p = some a8 ∧ 0 ≤ st2 ∧ st2 < (no7l : Int) ∧ 0 ≤ (andI .i64 bi3 1) ∧ (andI .i64 bi3 1) < ((2 : Nat) : Int) ∧ ∃ n9, cell H5 (.add (.add a8 (toNat st2 * 2)) (toNat (andI .i64 bi3 1) * 1)) = some (.int .i64 n9) ∧ br (decide (n9 > 0))
 (R (.tuple #[.int .i64 n9, .int .i64 (-1 : Int)]) H5)
 (br (decide (n9 < 0))
 (R (.tuple #[.int .i64 0, .int .i64 (wrap .i64 ((-1 : Int) - n9))]) H5)
 (R (.tuple #[.int .i64 (-1 : Int), .int .i64 (-1 : Int)]) H5))) → J4 [] H5) →
 br (decide (st2 < 0)) (R (.tuple #[.int .i64 (-1 : Int), .int .i64 (-1 : Int)]) H) (∃ a10, d1 = some a10 ∧ ∃ no11p no11l no11c, cell H (.add a10 0) = some (.slice no11p no11l no11c) ∧ br (decide (st2 ≥ (no11l : Int)))
 (R (.tuple #[.int .i64 (-1 : Int), .int .i64 (-1 : Int)]) H)
 (J4 [] H))
def Try.p70 : Plan := (tl (two (join [] [0, 1, 2] g0) (two (tl (one (tl (two (tl leaf) g0)))) (tl leaf))))
theorem Try.s70 {d1 : OA} {st2 bi3 : Int} {H R} (h : Try.S70 d1 st2 bi3 H R) : Try.C 70 #[.pointer d1, .int .i64 st2, .int .i64 bi3] H R := vcs Try.tab_ok Try.mixed Try.func70 Try.cal70 Try.p70 h (by kernel_rfl)
def Try.S71 (x1 y2 : Int) (H : Heap) (R : Kv) : Prop :=
 Try.C 80 #[.int .u64 x1, .int .u64 y2] H fun r3 H4 => ∃ r5 r6, r3 = .tuple #[.int .u64 r5, .int .u64 r6] ∧ R (.tuple #[.int .u64 r5, .int .u64 r6]) H4
def Try.p71 : Plan := (tl (two (two (tl (tl leaf)) leaf) (tl (tl leaf))))
theorem Try.s71 {x1 y2 : Int} {H R} (h : Try.S71 x1 y2 H R) : Try.C 71 #[.int .u64 x1, .int .u64 y2] H R := vcs Try.tab_ok Try.mixed Try.func71 Try.cal71 Try.p71 h (by kernel_rfl)
def Try.S73 (x1 : Int) (H : Heap) (R : Kv) : Prop :=
 ∀ J2 : Kl, (∀ (x3 n4 : Int) H5, (∀ J6 : Kl, (∀ (x7 n8 : Int) H9, (∀ J10 : Kl, (∀ (x11 n12 : Int) H13, (∃ b14 : UInt8, 0 ≤ (wrap .u8 x11) ∧ (ByteArray.mk #[0, 1, 2, 2, 3, 3, 3, 3, 4, 4, 4, 4, 4, 4, 4, 4, 5, 5, 5, 5, 5, 5, 5, 5, 5, 5, 5, 5, 5, 5, 5, 5, 6, 6, 6, 6, 6, 6, 6, 6, 6, 6, 6, 6, 6, 6, 6, 6, 6, 6, 6, 6, 6, 6, 6, 6, 6, 6, 6, 6, 6, 6, 6, 6, 7, 7, 7, 7, 7, 7, 7, 7, 7, 7, 7, 7, 7, 7, 7, 7, 7, 7, 7, 7, 7, 7, 7, 7, 7, 7, 7, 7, 7, 7, 7, 7, 7, 7, 7, 7, 7, 7, 7, 7, 7, 7, 7, 7, 7, 7, 7, 7, 7, 7, 7, 7, 7, 7, 7, 7, 7, 7, 7, 7, 7, 7, 7, 7, 8, 8, 8, 8, 8, 8, 8, 8, 8, 8, 8, 8, 8, 8, 8, 8, 8, 8, 8, 8, 8, 8, 8, 8, 8, 8, 8, 8, 8, 8, 8, 8, 8, 8, 8, 8, 8, 8, 8, 8, 8, 8, 8, 8, 8, 8, 8, 8, 8, 8, 8, 8, 8, 8, 8, 8, 8, 8, 8, 8, 8, 8, 8, 8, 8, 8, 8, 8, 8, 8, 8, 8, 8, 8, 8, 8, 8, 8, 8, 8, 8, 8, 8, 8, 8, 8, 8, 8, 8, 8, 8, 8, 8, 8, 8, 8, 8, 8, 8, 8, 8, 8, 8, 8, 8, 8, 8, 8, 8, 8, 8, 8, 8, 8, 8, 8, 8, 8, 8, 8, 8, 8, 8, 8, 8, 8, 8, 8])[toNat (wrap .u8 x11)]? = some b14 ∧ R (.int .i64 (wrap .i64 (n12 + (wrap .i64 ((UInt8.toNat b14 : Nat) : Int))))) H13) → J10 [.int .u64 x11, .int .i64 n12] H13) →
 br (decide (x7 ≥ 256))
 (0 ≤ (8 : Int) ∧ J10 [.int .u64 (shrI .u64 x7 8), .int .i64 (wrap .i64 (n8 + 8))] H9)
 (J10 [.int .u64 x7, .int .i64 n8] H9)) → J6 [.int .u64 x7, .int .i64 n8] H9) →
 br (decide (x3 ≥ 65536))
 (0 ≤ (16 : Int) ∧ J6 [.int .u64 (shrI .u64 x3 16), .int .i64 (wrap .i64 (n4 + 16))] H5)
 (J6 [.int .u64 x3, .int .i64 n4] H5)) → J2 [.int .u64 x3, .int .i64 n4] H5) →
 br (decide (x1 ≥ 4294967296))
 (0 ≤ (32 : Int) ∧ J2 [.int .u64 (shrI .u64 x1 32), .int .i64 32] H)
 (J2 [.int .u64 x1, .int .i64 0] H)
def Try.p73 : Plan := (tl (two (join [(0, 143), (2, 3)] [] g0) (two (join [(0, 143), (2, 3)] [] g0) (two (join [(0, 143), (2, 3)] [] g0) (tl leaf)))))
theorem Try.s73 {x1 : Int} {H R} (h : Try.S73 x1 H R) : Try.C 73 #[.int .u64 x1] H R := vcs Try.tab_ok Try.mixed Try.func73 Try.cal73 Try.p73 h (by kernel_rfl)
def Try.S74 (da1p : OA) (da1l da1c : Nat) (n2 : Int) (cm3g : Nat) (cm3x cm3y : AV) (H : Heap) (R : Kv) : Prop :=
 ∀ X4 : Kl, (∀ (a5 b6 : Int) H7, (br (decide (b6 ≤ n2))
 (Try.C 81 #[.slice da1p da1l da1c, .int .i64 a5, .int .i64 b6, .func (.func cm3g) cm3x cm3y] H7 fun r8 H9 => r8 = .tuple #[] ∧ X4 [.int .i64 b6, .int .i64 (wrap .i64 (b6 + 20))] H9)
 (Try.C 81 #[.slice da1p da1l da1c, .int .i64 a5, .int .i64 n2, .func (.func cm3g) cm3x cm3y] H7 fun r10 H11 => r10 = .tuple #[] ∧ ∀ X12 : Kl, (∀ (bl13 : Int) H14, (br (decide (bl13 < n2))
 (∀ X15 : Kl, (∀ (a16 b17 : Int) H18, (br (decide (b17 ≤ n2))
 (Try.C 82 #[.slice da1p da1l da1c, .int .i64 a16, .int .i64 (wrap .i64 (a16 + bl13)), .int .i64 b17, .func (.func cm3g) cm3x cm3y] H18 fun r19 H20 => r19 = .tuple #[] ∧ X15 [.int .i64 b17, .int .i64 (wrap .i64 (b17 + (wrap .i64 ((2 : Int) * bl13))))] H20)
 (br (decide (((wrap .i64 (a16 + bl13)) : Int) < n2))
 (Try.C 82 #[.slice da1p da1l da1c, .int .i64 a16, .int .i64 (wrap .i64 (a16 + bl13)), .int .i64 n2, .func (.func cm3g) cm3x cm3y] H18 fun r21 H22 => r21 = .tuple #[] ∧ X12 [.int .i64 (wrap .i64 (bl13 * 2))] H22)
 (X12 [.int .i64 (wrap .i64 (bl13 * 2))] H18))) → X15 [.int .i64 a16, .int .i64 b17] H18) → X15 [.int .i64 0, .int .i64 (wrap .i64 ((2 : Int) * bl13))] H14)
 (R (.tuple #[]) H14)) → X12 [.int .i64 bl13] H14) → X12 [.int .i64 20] H11)) → X4 [.int .i64 a5, .int .i64 b6] H7) → X4 [.int .i64 0, .int .i64 20] H
def Try.p74 : Plan := (tl (tl (two (one (loop [(7, 3), (8, 3)] [0, 1, 2, 6] (two (tl (tl leaf)) (one (tl (tl leaf)))))) (tl (one (loop [(6, 3)] [0, 1, 2] (two (tl (tl leaf)) (one (tl (two (one (loop [(7, 3), (8, 3)] [0, 1, 2, 6] (two (tl (tl leaf)) (one (tl (tl leaf)))))) (two (tl (tl (tl leaf))) leaf)))))))))))
theorem Try.s74 {da1p : OA} {da1l da1c : Nat} {n2 : Int} {cm3g : Nat} {cm3x cm3y : AV} {H R} (h : Try.S74 da1p da1l da1c n2 cm3g cm3x cm3y H R) : Try.C 74 #[.slice da1p da1l da1c, .int .i64 n2, .func (.func cm3g) cm3x cm3y] H R := vcs Try.tab_ok Try.mixed Try.func74 Try.cal74 Try.p74 h (by kernel_rfl)
def Try.S75 (sl1p : OA) (sl1l sl1c : Nat) (H : Heap) (R : Kv) : Prop :=
 ∀ X2 : Kl, (∀ (si3 t4 : Int) H5, (br (decide (t4 < (sl1l : Int)))
 (∃ a6, sl1p = some a6 ∧ 0 ≤ t4 ∧ t4 < (sl1l : Int) ∧ ∃ s7p s7l s7c, cell H5 (.add a6 (toNat t4 * 1)) = some (.slice s7p s7l s7c) ∧ br (decide (((wrap .i64 (si3 + (s7l : Int))) : Int) < 0))
 (False)
 (X2 [.int .i64 (wrap .i64 (si3 + (s7l : Int))), .int .i64 (wrap .i64 (t4 + 1))] H5))
 (Try.C 83 #[.slice none 0 0, .int .i64 si3] H5 fun r8 H9 => ∃ ne10p ne10l ne10c, r8 = .slice ne10p ne10l ne10c ∧ ∀ X11 : Kl, (∀ (ne12p : OA) (ne12l ne12c : Nat) (t13 : Int) H14, (br (decide (t13 < (sl1l : Int)))
 (∃ a15, sl1p = some a15 ∧ 0 ≤ t13 ∧ t13 < (sl1l : Int) ∧ ∃ s16p s16l s16c, cell H14 (.add a15 (toNat t13 * 1)) = some (.slice s16p s16l s16c) ∧ appQ 2 32 #[.int .i64 0, .slice none 0 0] H14 ne12p ne12l ne12c s16p s16l 122 fun ne17p ne17l ne17c H18 => X11 [.slice ne17p ne17l ne17c, .int .i64 (wrap .i64 (t13 + 1))] H18)
 (R (.slice ne12p ne12l ne12c) H14)) → X11 [.slice ne12p ne12l ne12c, .int .i64 t13] H14) → X11 [.slice ne10p ne10l ne10c, .int .i64 0] H9)) → X2 [.int .i64 si3, .int .i64 t4] H5) → X2 [.int .i64 0, .int .i64 0] H
def Try.p75 : Plan := (tl (tl (two (tl (one (loop [(3, 3), (11, 3)] [0, 9, 10] (tl (two (tl leaf) (two (one (tl (tl (tl (tl leaf))))) leaf)))))) (tl (two (tl (one (loop [(6, 120), (27, 3)] [25, 26] (tl (two (tl leaf) (two (one (tl leaf)) leaf)))))) (tl leaf))))))
theorem Try.s75 {sl1p : OA} {sl1l sl1c : Nat} {H R} (h : Try.S75 sl1p sl1l sl1c H R) : Try.C 75 #[.slice sl1p sl1l sl1c] H R := vcs Try.tab_ok Try.mixed Try.func75 Try.cal75 Try.p75 h (by kernel_rfl)
def Try.S76 (x1 y2 : AV) (H : Heap) (R : Kv) : Prop :=
 alc H (.cells x1 122) fun b3 H4 => alc H4 (.cells y2 122) fun b5 H6 => ∃ co7, cell H6 (.add ⟨b3, 0, none⟩ 0) = some (.int .i64 co7) ∧ ∃ co8, cell H6 (.add ⟨b5, 0, none⟩ 0) = some (.int .i64 co8) ∧ R (.int .i64 (wrap .i64 (co7 - co8))) H6
def Try.p76 : Plan := (tl (tl leaf))
theorem Try.s76 {x1 y2 : AV} {H R} (h : Try.S76 x1 y2 H R) : Try.C 76 #[.agg x1, .agg y2] H R := vcs Try.tab_ok Try.mixed Try.func76 Try.cal76 Try.p76 h (by kernel_rfl)
def Try.S77 (sl1p : OA) (sl1l sl1c : Nat) (H : Heap) (R : Kv) : Prop :=
 ∀ X2 : Kl, (∀ (si3 t4 : Int) H5, (br (decide (t4 < (sl1l : Int)))
 (∃ a6, sl1p = some a6 ∧ 0 ≤ t4 ∧ t4 < (sl1l : Int) ∧ ∃ s7p s7l s7c, cell H5 (.add a6 (toNat t4 * 1)) = some (.slice s7p s7l s7c) ∧ br (decide (((wrap .i64 (si3 + (s7l : Int))) : Int) < 0))
 (False)
 (X2 [.int .i64 (wrap .i64 (si3 + (s7l : Int))), .int .i64 (wrap .i64 (t4 + 1))] H5))
 (Try.C 84 #[.slice none 0 0, .int .i64 si3] H5 fun r8 H9 => ∃ ne10p ne10l ne10c, r8 = .slice ne10p ne10l ne10c ∧ ∀ X11 : Kl, (∀ (ne12p : OA) (ne12l ne12c : Nat) (t13 : Int) H14, (br (decide (t13 < (sl1l : Int)))
 (∃ a15, sl1p = some a15 ∧ 0 ≤ t13 ∧ t13 < (sl1l : Int) ∧ ∃ s16p s16l s16c, cell H14 (.add a15 (toNat t13 * 1)) = some (.slice s16p s16l s16c) ∧ appQ 1 8 #[.int .i64 0] H14 ne12p ne12l ne12c s16p s16l 3 fun ne17p ne17l ne17c H18 => X11 [.slice ne17p ne17l ne17c, .int .i64 (wrap .i64 (t13 + 1))] H18)
 (R (.slice ne12p ne12l ne12c) H14)) → X11 [.slice ne12p ne12l ne12c, .int .i64 t13] H14) → X11 [.slice ne10p ne10l ne10c, .int .i64 0] H9)) → X2 [.int .i64 si3, .int .i64 t4] H5) → X2 [.int .i64 0, .int .i64 0] H
def Try.p77 : Plan := (tl (tl (two (tl (one (loop [(3, 3), (11, 3)] [0, 9, 10] (tl (two (tl leaf) (two (one (tl (tl (tl (tl leaf))))) leaf)))))) (tl (two (tl (one (loop [(6, 48), (27, 3)] [25, 26] (tl (two (tl leaf) (two (one (tl leaf)) leaf)))))) (tl leaf))))))
theorem Try.s77 {sl1p : OA} {sl1l sl1c : Nat} {H R} (h : Try.S77 sl1p sl1l sl1c H R) : Try.C 77 #[.slice sl1p sl1l sl1c] H R := vcs Try.tab_ok Try.mixed Try.func77 Try.cal77 Try.p77 h (by kernel_rfl)
def Try.S78 (k1 : Int) (H : Heap) (R : Kv) : Prop :=
 (32 : Int) ≠ 0 ∧ br (decide (((Int.tmod k1 32) : Int) > 16))
 (Try.C 78 #[.int .i64 (wrap .i64 ((32 : Int) - (Int.tmod k1 32)))] H fun r2 H3 => ∃ r4, r2 = .int .i64 r4 ∧ R (.int .i64 r4) H3)
 (br (decide (((Int.tmod k1 32) : Int) > 8))
 (Try.C 78 #[.int .i64 (wrap .i64 ((16 : Int) - (Int.tmod k1 32)))] H fun r5 H6 => ∃ r7, r5 = .int .i64 r7 ∧ R (.int .i64 (wrap .i64 (0 - r7))) H6)
 (0 ≤ (Int.tmod k1 32) ∧ (Int.tmod k1 32) < ((9 : Nat) : Int) ∧ ∃ v8, #[Value.int .i64 4096, Value.int .i64 4017, Value.int .i64 3784, Value.int .i64 3406, Value.int .i64 2896, Value.int .i64 2276, Value.int .i64 1567, Value.int .i64 799, Value.int .i64 0][(toNat (Int.tmod k1 32) * 1)]? = some (.int .i64 v8) ∧ R (.int .i64 v8) H))
def Try.p78 : Plan := (tl (tl (two (one (tl (two (tl leaf) g0))) (tl leaf))))
theorem Try.s78 {k1 : Int} {H R} (h : Try.S78 k1 H R) : Try.C 78 #[.int .i64 k1] H R := vcs Try.tab_ok Try.mixed Try.func78 Try.cal78 Try.p78 h (by kernel_rfl)
def Try.S80 (x1 y2 : Int) (H : Heap) (R : Kv) : Prop :=
 0 ≤ (32 : Int) ∧ 0 ≤ (32 : Int) ∧ 0 ≤ (32 : Int) ∧ 0 ≤ (32 : Int) ∧ 0 ≤ (32 : Int) ∧ R (.tuple #[.int .u64 (wrap .u64 ((wrap .u64 ((wrap .u64 ((shrI .u64 x1 32) * (shrI .u64 y2 32))) + (shrI .u64 (wrap .u64 ((wrap .u64 ((shrI .u64 x1 32) * (andI .u64 y2 4294967295))) + (shrI .u64 (wrap .u64 ((andI .u64 x1 4294967295) * (andI .u64 y2 4294967295))) 32))) 32))) + (shrI .u64 (wrap .u64 ((andI .u64 (wrap .u64 ((wrap .u64 ((shrI .u64 x1 32) * (andI .u64 y2 4294967295))) + (shrI .u64 (wrap .u64 ((andI .u64 x1 4294967295) * (andI .u64 y2 4294967295))) 32))) 4294967295) + (wrap .u64 ((andI .u64 x1 4294967295) * (shrI .u64 y2 32))))) 32))), .int .u64 (wrap .u64 (x1 * y2))]) H
def Try.p80 : Plan := (tl (tl (tl (tl (tl (tl (tl (tl (tl (tl (tl (tl leaf))))))))))))
theorem Try.s80 {x1 y2 : Int} {H R} (h : Try.S80 x1 y2 H R) : Try.C 80 #[.int .u64 x1, .int .u64 y2] H R := vcs Try.tab_ok Try.mixed Try.func80 Try.cal80 Try.p80 h (by kernel_rfl)
def Try.S81 (da1p : OA) (da1l da1c : Nat) (a2 b3 : Int) (cm4g : Nat) (cm4x cm4y : AV) (H : Heap) (R : Kv) : Prop :=
 ∀ X5 : Kl, (∀ (i6 : Int) H7, (br (decide (i6 < b3))
 (∀ X8 : Kl, (∀ (j9 : Int) H10, (∀ J11 : Kl, (∀ H12, (∃ a13, da1p = some a13 ∧ 0 ≤ (wrap .i64 (j9 - 1)) ∧ (wrap .i64 (j9 - 1)) < (da1l : Int) ∧ ∃ v14, v14.size = 2 ∧ rowIn H12 (.add a13 (toNat (wrap .i64 (j9 - 1)) * 2)) v14 ∧ ∃ a15, da1p = some a15 ∧ 0 ≤ j9 ∧ j9 < (da1l : Int) ∧ ∃ v16, v16.size = 2 ∧ rowIn H12 (.add a15 (toNat j9 * 2)) v16 ∧ ∃ a17, da1p = some a17 ∧ 0 ≤ j9 ∧ j9 < (da1l : Int) ∧ v14.size = 2 ∧ stAt H12 (.add a17 (toNat j9 * 2)) v14.toList fun H18 => ∃ a19, da1p = some a19 ∧ 0 ≤ (wrap .i64 (j9 - 1)) ∧ (wrap .i64 (j9 - 1)) < (da1l : Int) ∧ v16.size = 2 ∧ stAt H18 (.add a19 (toNat (wrap .i64 (j9 - 1)) * 2)) v16.toList fun H20 => X8 [.int .i64 (wrap .i64 (j9 - 1))] H20) → J11 [] H12) →
 br (decide (j9 > a2)) (∃ a21, da1p = some a21 ∧ 0 ≤ j9 ∧ j9 < (da1l : Int) ∧ ∃ v22, v22.size = 2 ∧ rowIn H10 (.add a21 (toNat j9 * 2)) v22 ∧ ∃ a23, da1p = some a23 ∧ 0 ≤ (wrap .i64 (j9 - 1)) ∧ (wrap .i64 (j9 - 1)) < (da1l : Int) ∧ ∃ v24, v24.size = 2 ∧ rowIn H10 (.add a23 (toNat (wrap .i64 (j9 - 1)) * 2)) v24 ∧ Try.C cm4g (List.toArray (Array.toList cm4x ++ [Value.agg v22, Value.agg v24] ++ Array.toList cm4y)) H10 fun r25 H26 => ∃ r27, r25 = .int .i64 r27 ∧ br (decide (r27 < 0))
 (J11 [] H26)
 (X5 [.int .i64 (wrap .i64 (i6 + 1))] H26)) (X5 [.int .i64 (wrap .i64 (i6 + 1))] H10)) → X8 [.int .i64 j9] H10) → X8 [.int .i64 i6] H7)
 (R (.tuple #[]) H7)) → X5 [.int .i64 i6] H7) → X5 [.int .i64 (wrap .i64 (a2 + 1))] H
def Try.p81 : Plan := (tl (one (loop [(8, 3)] [0, 1, 2, 3] (two (tl (tl leaf)) (two (one (tl (one (loop [(9, 3)] [0, 1, 2, 3, 8] (two (join [] [0, 1, 2, 3, 8, 9] (tl (tl leaf))) (two (one leaf) leaf)))))) leaf)))))
theorem Try.s81 {da1p : OA} {da1l da1c : Nat} {a2 b3 : Int} {cm4g : Nat} {cm4x cm4y : AV} {H R} (h : Try.S81 da1p da1l da1c a2 b3 cm4g cm4x cm4y H R) : Try.C 81 #[.slice da1p da1l da1c, .int .i64 a2, .int .i64 b3, .func (.func cm4g) cm4x cm4y] H R := vcs Try.tab_ok Try.mixed Try.func81 Try.cal81 Try.p81 h (by kernel_rfl)
def Try.S82 (da1p : OA) (da1l da1c : Nat) (a2 m3 b4 : Int) (cm5g : Nat) (cm5x cm5y : AV) (H : Heap) (R : Kv) : Prop :=
 br (((wrap .i64 (m3 - a2)) : Int) == 1)
 (∀ X6 : Kl, (∀ (i7 j8 : Int) H9, (br (decide (i7 < j8))
 (0 ≤ (1 : Int) ∧ ∃ a10, da1p = some a10 ∧ 0 ≤ (wrap .i64 (shrI .u64 (wrap .u64 (wrap .i64 (i7 + j8))) 1)) ∧ (wrap .i64 (shrI .u64 (wrap .u64 (wrap .i64 (i7 + j8))) 1)) < (da1l : Int) ∧ ∃ v11, v11.size = 2 ∧ rowIn H9 (.add a10 (toNat (wrap .i64 (shrI .u64 (wrap .u64 (wrap .i64 (i7 + j8))) 1)) * 2)) v11 ∧ ∃ a12, da1p = some a12 ∧ 0 ≤ a2 ∧ a2 < (da1l : Int) ∧ ∃ v13, v13.size = 2 ∧ rowIn H9 (.add a12 (toNat a2 * 2)) v13 ∧ Try.C cm5g (List.toArray (Array.toList cm5x ++ [Value.agg v11, Value.agg v13] ++ Array.toList cm5y)) H9 fun r14 H15 => ∃ r16, r14 = .int .i64 r16 ∧ br (decide (r16 < 0))
 (X6 [.int .i64 (wrap .i64 ((wrap .i64 (shrI .u64 (wrap .u64 (wrap .i64 (i7 + j8))) 1)) + 1)), .int .i64 j8] H15)
 (X6 [.int .i64 i7, .int .i64 (wrap .i64 (shrI .u64 (wrap .u64 (wrap .i64 (i7 + j8))) 1))] H15))
 (∀ X17 : Kl, (∀ (k18 : Int) H19, (br (decide (k18 < (wrap .i64 (i7 - 1))))
 (∃ a20, da1p = some a20 ∧ 0 ≤ (wrap .i64 (k18 + 1)) ∧ (wrap .i64 (k18 + 1)) < (da1l : Int) ∧ ∃ v21, v21.size = 2 ∧ rowIn H19 (.add a20 (toNat (wrap .i64 (k18 + 1)) * 2)) v21 ∧ ∃ a22, da1p = some a22 ∧ 0 ≤ k18 ∧ k18 < (da1l : Int) ∧ ∃ v23, v23.size = 2 ∧ rowIn H19 (.add a22 (toNat k18 * 2)) v23 ∧ ∃ a24, da1p = some a24 ∧ 0 ≤ k18 ∧ k18 < (da1l : Int) ∧ v21.size = 2 ∧ stAt H19 (.add a24 (toNat k18 * 2)) v21.toList fun H25 => ∃ a26, da1p = some a26 ∧ 0 ≤ (wrap .i64 (k18 + 1)) ∧ (wrap .i64 (k18 + 1)) < (da1l : Int) ∧ v23.size = 2 ∧ stAt H25 (.add a26 (toNat (wrap .i64 (k18 + 1)) * 2)) v23.toList fun H27 => X17 [.int .i64 (wrap .i64 (k18 + 1))] H27)
 (R (.tuple #[]) H19)) → X17 [.int .i64 k18] H19) → X17 [.int .i64 a2] H9)) → X6 [.int .i64 i7, .int .i64 j8] H9) → X6 [.int .i64 m3, .int .i64 b4] H)
 (br (((wrap .i64 (b4 - m3)) : Int) == 1)
 (∀ X28 : Kl, (∀ (i29 j30 : Int) H31, (br (decide (i29 < j30))
 (0 ≤ (1 : Int) ∧ ∃ a32, da1p = some a32 ∧ 0 ≤ m3 ∧ m3 < (da1l : Int) ∧ ∃ v33, v33.size = 2 ∧ rowIn H31 (.add a32 (toNat m3 * 2)) v33 ∧ ∃ a34, da1p = some a34 ∧ 0 ≤ (wrap .i64 (shrI .u64 (wrap .u64 (wrap .i64 (i29 + j30))) 1)) ∧ (wrap .i64 (shrI .u64 (wrap .u64 (wrap .i64 (i29 + j30))) 1)) < (da1l : Int) ∧ ∃ v35, v35.size = 2 ∧ rowIn H31 (.add a34 (toNat (wrap .i64 (shrI .u64 (wrap .u64 (wrap .i64 (i29 + j30))) 1)) * 2)) v35 ∧ Try.C cm5g (List.toArray (Array.toList cm5x ++ [Value.agg v33, Value.agg v35] ++ Array.toList cm5y)) H31 fun r36 H37 => ∃ r38, r36 = .int .i64 r38 ∧ br (!(decide (r38 < 0)))
 (X28 [.int .i64 (wrap .i64 ((wrap .i64 (shrI .u64 (wrap .u64 (wrap .i64 (i29 + j30))) 1)) + 1)), .int .i64 j30] H37)
 (X28 [.int .i64 i29, .int .i64 (wrap .i64 (shrI .u64 (wrap .u64 (wrap .i64 (i29 + j30))) 1))] H37))
 (∀ X39 : Kl, (∀ (k40 : Int) H41, (br (decide (k40 > i29))
 (∃ a42, da1p = some a42 ∧ 0 ≤ (wrap .i64 (k40 - 1)) ∧ (wrap .i64 (k40 - 1)) < (da1l : Int) ∧ ∃ v43, v43.size = 2 ∧ rowIn H41 (.add a42 (toNat (wrap .i64 (k40 - 1)) * 2)) v43 ∧ ∃ a44, da1p = some a44 ∧ 0 ≤ k40 ∧ k40 < (da1l : Int) ∧ ∃ v45, v45.size = 2 ∧ rowIn H41 (.add a44 (toNat k40 * 2)) v45 ∧ ∃ a46, da1p = some a46 ∧ 0 ≤ k40 ∧ k40 < (da1l : Int) ∧ v43.size = 2 ∧ stAt H41 (.add a46 (toNat k40 * 2)) v43.toList fun H47 => ∃ a48, da1p = some a48 ∧ 0 ≤ (wrap .i64 (k40 - 1)) ∧ (wrap .i64 (k40 - 1)) < (da1l : Int) ∧ v45.size = 2 ∧ stAt H47 (.add a48 (toNat (wrap .i64 (k40 - 1)) * 2)) v45.toList fun H49 => X39 [.int .i64 (wrap .i64 (k40 - 1))] H49)
 (R (.tuple #[]) H41)) → X39 [.int .i64 k40] H41) → X39 [.int .i64 m3] H31)) → X28 [.int .i64 i29, .int .i64 j30] H31) → X28 [.int .i64 a2, .int .i64 m3] H)
 (0 ≤ (1 : Int) ∧ ∀ J50 : Kl, (∀ (st51 r52 : Int) H53, (∀ X54 : Kl, (∀ (st55 r56 : Int) H57, (br (decide (st55 < r56))
 (0 ≤ (1 : Int) ∧ ∃ a58, da1p = some a58 ∧ 0 ≤ (wrap .i64 ((wrap .i64 ((wrap .i64 ((wrap .i64 (shrI .u64 (wrap .u64 (wrap .i64 (a2 + b4))) 1)) + m3)) - 1)) - (wrap .i64 (shrI .u64 (wrap .u64 (wrap .i64 (st55 + r56))) 1)))) ∧ (wrap .i64 ((wrap .i64 ((wrap .i64 ((wrap .i64 (shrI .u64 (wrap .u64 (wrap .i64 (a2 + b4))) 1)) + m3)) - 1)) - (wrap .i64 (shrI .u64 (wrap .u64 (wrap .i64 (st55 + r56))) 1)))) < (da1l : Int) ∧ ∃ v59, v59.size = 2 ∧ rowIn H57 (.add a58 (toNat (wrap .i64 ((wrap .i64 ((wrap .i64 ((wrap .i64 (shrI .u64 (wrap .u64 (wrap .i64 (a2 + b4))) 1)) + m3)) - 1)) - (wrap .i64 (shrI .u64 (wrap .u64 (wrap .i64 (st55 + r56))) 1)))) * 2)) v59 ∧ ∃ a60, da1p = some a60 ∧ 0 ≤ (wrap .i64 (shrI .u64 (wrap .u64 (wrap .i64 (st55 + r56))) 1)) ∧ (wrap .i64 (shrI .u64 (wrap .u64 (wrap .i64 (st55 + r56))) 1)) < (da1l : Int) ∧ ∃ v61, v61.size = 2 ∧ rowIn H57 (.add a60 (toNat (wrap .i64 (shrI .u64 (wrap .u64 (wrap .i64 (st55 + r56))) 1)) * 2)) v61 ∧ Try.C cm5g (List.toArray (Array.toList cm5x ++ [Value.agg v59, Value.agg v61] ++ Array.toList cm5y)) H57 fun r62 H63 => ∃ r64, r62 = .int .i64 r64 ∧ br (!(decide (r64 < 0)))
 (X54 [.int .i64 (wrap .i64 ((wrap .i64 (shrI .u64 (wrap .u64 (wrap .i64 (st55 + r56))) 1)) + 1)), .int .i64 r56] H63)
 (X54 [.int .i64 st55, .int .i64 (wrap .i64 (shrI .u64 (wrap .u64 (wrap .i64 (st55 + r56))) 1))] H63))
 (∀ J65 : Kl, (∀ H66, (∀ J67 : Kl, (∀ H68, (br (decide (((wrap .i64 (shrI .u64 (wrap .u64 (wrap .i64 (a2 + b4))) 1)) : Int) < (wrap .i64 ((wrap .i64 ((wrap .i64 (shrI .u64 (wrap .u64 (wrap .i64 (a2 + b4))) 1)) + m3)) - st55)))) (br (decide (((wrap .i64 ((wrap .i64 ((wrap .i64 (shrI .u64 (wrap .u64 (wrap .i64 (a2 + b4))) 1)) + m3)) - st55)) : Int) < b4))
 (Try.C 82 #[.slice da1p da1l da1c, .int .i64 (wrap .i64 (shrI .u64 (wrap .u64 (wrap .i64 (a2 + b4))) 1)), .int .i64 (wrap .i64 ((wrap .i64 ((wrap .i64 (shrI .u64 (wrap .u64 (wrap .i64 (a2 + b4))) 1)) + m3)) - st55)), .int .i64 b4, .func (.func cm5g) cm5x cm5y] H68 fun r69 H70 => r69 = .tuple #[] ∧ R (.tuple #[]) H70)
 (R (.tuple #[]) H68)) (R (.tuple #[]) H68)) → J67 [] H68) →
 br (decide (a2 < st55)) (br (decide (st55 < (wrap .i64 (shrI .u64 (wrap .u64 (wrap .i64 (a2 + b4))) 1))))
 (Try.C 82 #[.slice da1p da1l da1c, .int .i64 a2, .int .i64 st55, .int .i64 (wrap .i64 (shrI .u64 (wrap .u64 (wrap .i64 (a2 + b4))) 1)), .func (.func cm5g) cm5x cm5y] H66 fun r71 H72 => r71 = .tuple #[] ∧ J67 [] H72)
 (J67 [] H66)) (J67 [] H66)) → J65 [] H66) →
 br (decide (st55 < m3)) (br (decide (m3 < (wrap .i64 ((wrap .i64 ((wrap .i64 (shrI .u64 (wrap .u64 (wrap .i64 (a2 + b4))) 1)) + m3)) - st55))))
 (Try.C 85 #[.slice da1p da1l da1c, .int .i64 st55, .int .i64 m3, .int .i64 (wrap .i64 ((wrap .i64 ((wrap .i64 (shrI .u64 (wrap .u64 (wrap .i64 (a2 + b4))) 1)) + m3)) - st55)), .func (.func cm5g) cm5x cm5y] H57 fun r73 H74 => r73 = .tuple #[] ∧ J65 [] H74)
 (J65 [] H57)) (J65 [] H57))) → X54 [.int .i64 st55, .int .i64 r56] H57) → X54 [.int .i64 st51, .int .i64 r52] H53) → J50 [.int .i64 st51, .int .i64 r52] H53) →
 br (decide (m3 > (wrap .i64 (shrI .u64 (wrap .u64 (wrap .i64 (a2 + b4))) 1))))
 (J50 [.int .i64 (wrap .i64 ((wrap .i64 ((wrap .i64 (shrI .u64 (wrap .u64 (wrap .i64 (a2 + b4))) 1)) + m3)) - b4)), .int .i64 (wrap .i64 (shrI .u64 (wrap .u64 (wrap .i64 (a2 + b4))) 1))] H)
 (J50 [.int .i64 a2, .int .i64 m3] H)))
def Try.p82 : Plan := (two (tl (two (tl (tl (two (one (loop [(10, 3), (11, 3)] [0, 1, 4] (two (tl (tl leaf)) (one (tl (tl (tl leaf))))))) (two (tl (one (loop [(13, 3)] [0, 10] (two (tl (tl leaf)) (two (one leaf) leaf))))) leaf)))) leaf)) (two (tl (two (tl (tl (two (one (loop [(14, 3), (15, 3)] [0, 2, 4] (two (tl (tl leaf)) (one (tl (tl (tl leaf))))))) (two (tl (one (loop [(17, 3)] [0, 14] (two (tl (tl leaf)) (two (one leaf) leaf))))) leaf)))) leaf)) (tl (tl (tl (two (join [(20, 3), (21, 3)] [0, 1, 2, 3, 4, 18, 19] (tl (two (tl leaf) (tl leaf)))) (tl (two (one (loop [(20, 3), (21, 3)] [0, 1, 2, 3, 4, 18, 19, 22] (two (tl (tl leaf)) (one (tl (tl (tl leaf))))))) (tl (two (join [] [0, 1, 3, 4, 18, 20, 24] (tl (tl leaf))) (two (join [] [0, 3, 4, 18, 24] (tl (tl leaf))) (tl (tl leaf)))))))))))))
theorem Try.s82 {da1p : OA} {da1l da1c : Nat} {a2 m3 b4 : Int} {cm5g : Nat} {cm5x cm5y : AV} {H R} (h : Try.S82 da1p da1l da1c a2 m3 b4 cm5g cm5x cm5y H R) : Try.C 82 #[.slice da1p da1l da1c, .int .i64 a2, .int .i64 m3, .int .i64 b4, .func (.func cm5g) cm5x cm5y] H R := vcs Try.tab_ok Try.mixed Try.func82 Try.cal82 Try.p82 h (by kernel_rfl)
def Try.S83 (s1p : OA) (s1l s1c : Nat) (n2 : Int) (H : Heap) (R : Kv) : Prop :=
 ∀ J3 : Kl, (∀ H4, (br (decide (((wrap .i64 (n2 - (wrap .i64 ((s1c : Int) - (s1l : Int))))) : Int) > 0))
 (0 ≤ (s1c : Int) ∧ (s1c : Int) ≤ (s1c : Int) ∧ appZ 2 32 #[.int .i64 0, .slice none 0 0] H4 (if s1c = 0 then s1p else Option.map (fun x => Addr.add x (0 * 2)) s1p) ((toNat (s1c : Int)) - 0) (s1c - 0) (wrap .i64 (n2 - (wrap .i64 ((s1c : Int) - (s1l : Int))))) 122 fun ap5p ap5l ap5c H6 => 0 ≤ (s1l : Int) ∧ (s1l : Int) ≤ (ap5c : Int) ∧ R (.slice (if ap5c = 0 then ap5p else Option.map (fun x => Addr.add x (0 * 2)) ap5p) ((toNat (s1l : Int)) - 0) (ap5c - 0)) H6)
 (R (.slice s1p s1l s1c) H4)) → J3 [] H4) →
 br (decide (n2 < 0))
 (False)
 (J3 [] H)
def Try.p83 : Plan := (tl (two (join [] [0, 1] (tl (tl leaf))) (two (tl (tl (tl leaf))) (tl leaf))))
theorem Try.s83 {s1p : OA} {s1l s1c : Nat} {n2 : Int} {H R} (h : Try.S83 s1p s1l s1c n2 H R) : Try.C 83 #[.slice s1p s1l s1c, .int .i64 n2] H R := vcs Try.tab_ok Try.mixed Try.func83 Try.cal83 Try.p83 h (by kernel_rfl)
def Try.S84 (s1p : OA) (s1l s1c : Nat) (n2 : Int) (H : Heap) (R : Kv) : Prop :=
 ∀ J3 : Kl, (∀ H4, (br (decide (((wrap .i64 (n2 - (wrap .i64 ((s1c : Int) - (s1l : Int))))) : Int) > 0))
 (0 ≤ (s1c : Int) ∧ (s1c : Int) ≤ (s1c : Int) ∧ appZ 1 8 #[.int .i64 0] H4 (if s1c = 0 then s1p else Option.map (fun x => Addr.add x (0 * 1)) s1p) ((toNat (s1c : Int)) - 0) (s1c - 0) (wrap .i64 (n2 - (wrap .i64 ((s1c : Int) - (s1l : Int))))) 3 fun ap5p ap5l ap5c H6 => 0 ≤ (s1l : Int) ∧ (s1l : Int) ≤ (ap5c : Int) ∧ R (.slice (if ap5c = 0 then ap5p else Option.map (fun x => Addr.add x (0 * 1)) ap5p) ((toNat (s1l : Int)) - 0) (ap5c - 0)) H6)
 (R (.slice s1p s1l s1c) H4)) → J3 [] H4) →
 br (decide (n2 < 0))
 (False)
 (J3 [] H)
def Try.p84 : Plan := (tl (two (join [] [0, 1] (tl (tl leaf))) (two (tl (tl (tl leaf))) (tl leaf))))
theorem Try.s84 {s1p : OA} {s1l s1c : Nat} {n2 : Int} {H R} (h : Try.S84 s1p s1l s1c n2 H R) : Try.C 84 #[.slice s1p s1l s1c, .int .i64 n2] H R := vcs Try.tab_ok Try.mixed Try.func84 Try.cal84 Try.p84 h (by kernel_rfl)
def Try.S85 (da1p : OA) (da1l da1c : Nat) (a2 m3 b4 : Int) (cm5g : Nat) (cm5x cm5y : AV) (H : Heap) (R : Kv) : Prop :=
 ∀ X6 : Kl, (∀ (i7 j8 : Int) H9, (br (i7 != j8)
 (br (decide (i7 > j8))
 (Try.C 86 #[.slice da1p da1l da1c, .int .i64 (wrap .i64 (m3 - i7)), .int .i64 m3, .int .i64 j8, .func (.func cm5g) cm5x cm5y] H9 fun r10 H11 => r10 = .tuple #[] ∧ X6 [.int .i64 (wrap .i64 (i7 - j8)), .int .i64 j8] H11)
 (Try.C 86 #[.slice da1p da1l da1c, .int .i64 (wrap .i64 (m3 - i7)), .int .i64 (wrap .i64 ((wrap .i64 (m3 + j8)) - i7)), .int .i64 i7, .func (.func cm5g) cm5x cm5y] H9 fun r12 H13 => r12 = .tuple #[] ∧ X6 [.int .i64 i7, .int .i64 (wrap .i64 (j8 - i7))] H13))
 (Try.C 86 #[.slice da1p da1l da1c, .int .i64 (wrap .i64 (m3 - i7)), .int .i64 m3, .int .i64 i7, .func (.func cm5g) cm5x cm5y] H9 fun r14 H15 => r14 = .tuple #[] ∧ R (.tuple #[]) H15)) → X6 [.int .i64 i7, .int .i64 j8] H9) → X6 [.int .i64 (wrap .i64 (m3 - a2)), .int .i64 (wrap .i64 (b4 - m3))] H
def Try.p85 : Plan := (tl (tl (two (one (loop [(10, 3), (11, 3)] [0, 2, 4] (two (tl (tl leaf)) (one (tl (two (tl leaf) (tl leaf))))))) leaf)))
theorem Try.s85 {da1p : OA} {da1l da1c : Nat} {a2 m3 b4 : Int} {cm5g : Nat} {cm5x cm5y : AV} {H R} (h : Try.S85 da1p da1l da1c a2 m3 b4 cm5g cm5x cm5y H R) : Try.C 85 #[.slice da1p da1l da1c, .int .i64 a2, .int .i64 m3, .int .i64 b4, .func (.func cm5g) cm5x cm5y] H R := vcs Try.tab_ok Try.mixed Try.func85 Try.cal85 Try.p85 h (by kernel_rfl)
def Try.S86 (da1p : OA) (da1l da1c : Nat) (a2 b3 n4 : Int) (cm5g : Nat) (cm5x cm5y : AV) (H : Heap) (R : Kv) : Prop :=
 ∀ X6 : Kl, (∀ (i7 : Int) H8, (br (decide (i7 < n4))
 (∃ a9, da1p = some a9 ∧ 0 ≤ (wrap .i64 (b3 + i7)) ∧ (wrap .i64 (b3 + i7)) < (da1l : Int) ∧ ∃ v10, v10.size = 2 ∧ rowIn H8 (.add a9 (toNat (wrap .i64 (b3 + i7)) * 2)) v10 ∧ ∃ a11, da1p = some a11 ∧ 0 ≤ (wrap .i64 (a2 + i7)) ∧ (wrap .i64 (a2 + i7)) < (da1l : Int) ∧ ∃ v12, v12.size = 2 ∧ rowIn H8 (.add a11 (toNat (wrap .i64 (a2 + i7)) * 2)) v12 ∧ ∃ a13, da1p = some a13 ∧ 0 ≤ (wrap .i64 (a2 + i7)) ∧ (wrap .i64 (a2 + i7)) < (da1l : Int) ∧ v10.size = 2 ∧ stAt H8 (.add a13 (toNat (wrap .i64 (a2 + i7)) * 2)) v10.toList fun H14 => ∃ a15, da1p = some a15 ∧ 0 ≤ (wrap .i64 (b3 + i7)) ∧ (wrap .i64 (b3 + i7)) < (da1l : Int) ∧ v12.size = 2 ∧ stAt H14 (.add a15 (toNat (wrap .i64 (b3 + i7)) * 2)) v12.toList fun H16 => X6 [.int .i64 (wrap .i64 (i7 + 1))] H16)
 (R (.tuple #[]) H8)) → X6 [.int .i64 i7] H8) → X6 [.int .i64 0] H
def Try.p86 : Plan := (tl (one (loop [(10, 3)] [0, 1, 2, 3] (two (tl (tl leaf)) (two (one leaf) leaf)))))
theorem Try.s86 {da1p : OA} {da1l da1c : Nat} {a2 b3 n4 : Int} {cm5g : Nat} {cm5x cm5y : AV} {H R} (h : Try.S86 da1p da1l da1c a2 b3 n4 cm5g cm5x cm5y H R) : Try.C 86 #[.slice da1p da1l da1c, .int .i64 a2, .int .i64 b3, .int .i64 n4, .func (.func cm5g) cm5x cm5y] H R := vcs Try.tab_ok Try.mixed Try.func86 Try.cal86 Try.p86 h (by kernel_rfl)
end Go.Proofs
namespace Go.Sh
def ints (l : List Int) : List Value := l.map (Value.int .i64)
theorem ints_get {l : List Int} {i : Nat} {v : Int} (h : l[i]? = some v) : (ints l)[i]? = some (Value.int .i64 v) := by simp [ints, h]
theorem ints_len (l : List Int) : (ints l).length = l.length := by simp [ints]
theorem ints_append (a b : List Int) : ints (a ++ b) = ints a ++ ints b := by simp [ints]
theorem ints_set (l : List Int) (i : Nat) (v : Int) : (ints l).set i (.int .i64 v) = ints (l.set i v) := by simp [ints]
theorem ints_one (l : List Int) : ∀ v ∈ ints l, v.oneCell' = true := fun v hv => by
 obtain ⟨x, _, rfl⟩ := List.mem_map.1 hv; rfl
structure RS (H : Heap) (p : Option Addr) (l : Nat) (el : TypeId) (k : Nat) (fs : List Value) : Prop where
 len : fs.length = l * k
 one : ∀ v ∈ fs, v.oneCell' = true
 at_ : l = 0 ∨ ∃ blk cs, p = some ⟨blk, 0, none⟩ ∧ H[blk]? = some (.cells cs el) ∧ ∀ (i : Nat) v, fs[i]? = some v → cs[i]? = some v
structure FS (n0 : Nat) (H : Heap) (p : Option Addr) (l c : Nat) (el : TypeId) (k : Nat) (fs : List Value) : Prop where
 len : fs.length = l * k
 le : l ≤ c
 one : ∀ v ∈ fs, v.oneCell' = true
 at_ : (p = none ∧ c = 0) ∨ ∃ blk cs, p = some ⟨blk, 0, none⟩ ∧ n0 ≤ blk ∧ H[blk]? = some (.cells cs el) ∧ cs.size = c * k ∧ ∀ (i : Nat) v, fs[i]? = some v → cs[i]? = some v
theorem FS.rs {n0 : Nat} {H : Heap} {p : Option Addr} {l c : Nat} {el : TypeId} {k : Nat} {fs : List Value} (h : FS n0 H p l c el k fs) : RS H p l el k fs := by
 refine ⟨h.len, h.one, ?_⟩
 rcases h.at_ with ⟨_, h2⟩ | ⟨blk, cs, h1, _, h3, _, h5⟩
 ·left; have := h.le; omega
 ·exact .inr ⟨blk, cs, h1, h3, h5⟩
theorem RS.keep {H H' : Heap} {p : Option Addr} {l : Nat} {el : TypeId} {k : Nat} {fs : List Value} (h : RS H p l el k fs) (hk : ∀ b cs, p = some ⟨b, 0, none⟩ → H[b]? = some (.cells cs el) → H'[b]? = some (.cells cs el)) : RS H' p l el k fs := by
 refine ⟨h.len, h.one, ?_⟩
 rcases h.at_ with h1 | ⟨blk, cs, h1, h3, h5⟩
 ·exact .inl h1
 ·exact .inr ⟨blk, cs, h1, hk _ _ h1 h3, h5⟩
theorem RS.ext {H H' : Heap} {p : Option Addr} {l : Nat} {el : TypeId} {k : Nat} {fs : List Value} (h : RS H p l el k fs) (he : Ext H H') : RS H' p l el k fs := h.keep fun b cs _ hb => he _ _ hb
theorem FS.keep {n0 : Nat} {H H' : Heap} {p : Option Addr} {l c : Nat} {el : TypeId} {k : Nat} {fs : List Value} (h : FS n0 H p l c el k fs) (hk : ∀ b cs, p = some ⟨b, 0, none⟩ → H[b]? = some (.cells cs el) → H'[b]? = some (.cells cs el)) : FS n0 H' p l c el k fs := by
 refine ⟨h.len, h.le, h.one, ?_⟩
 rcases h.at_ with h1 | ⟨blk, cs, h1, h2, h3, h5⟩
 ·exact .inl h1
 ·exact .inr ⟨blk, cs, h1, h2, hk _ _ h1 h3, h5⟩
theorem FS.ext {n0 : Nat} {H H' : Heap} {p : Option Addr} {l c : Nat} {el : TypeId} {k : Nat} {fs : List Value} (h : FS n0 H p l c el k fs) (he : Ext H H') : FS n0 H' p l c el k fs := h.keep fun b cs _ hb => he _ _ hb
theorem FS.lower {n0 n1 : Nat} {H : Heap} {p : Option Addr} {l c : Nat} {el : TypeId} {k : Nat} {fs : List Value} (h : FS n0 H p l c el k fs) (hn : n1 ≤ n0) : FS n1 H p l c el k fs := by
 refine ⟨h.len, h.le, h.one, ?_⟩
 rcases h.at_ with h1 | ⟨blk, cs, h1, h2, h3, h5⟩
 ·exact .inl h1
 ·exact .inr ⟨blk, cs, h1, by omega, h3, h5⟩
theorem FS.nil (n0 : Nat) (H : Heap) (el : TypeId) (k : Nat) : FS n0 H none 0 0 el k [] := ⟨by simp, Nat.le_refl _, by simp, .inl ⟨rfl, rfl⟩⟩
theorem RS.nil (H : Heap) (p : Option Addr) (el : TypeId) (k : Nat) : RS H p 0 el k [] := ⟨by simp, by simp, .inl rfl⟩
theorem FS.whole {n0 : Nat} {H : Heap} {b l k : Nat} {el : TypeId} {cs : Array Value} (hb : n0 ≤ b) (h : H[b]? = some (.cells cs el)) (hs : cs.size = l * k) (ho : ∀ v ∈ cs.toList, v.oneCell' = true) : FS n0 H (some ⟨b, 0, none⟩) l l el k cs.toList :=
 ⟨by simpa using hs, Nat.le_refl _, ho, .inr ⟨b, cs, rfl, hb, h, hs, fun i v hv => by simpa using hv⟩⟩
theorem RS.cell {H : Heap} {p : Option Addr} {l : Nat} {el : TypeId} {k : Nat} {fs : List Value} (h : RS H p l el k fs) {i : Nat} {v : Value} (hv : fs[i]? = some v) : ∃ blk, p = some ⟨blk, 0, none⟩ ∧ Go.Sh.cell H ⟨blk, i, none⟩ = some v := by
 rcases h.at_ with h1 | ⟨blk, cs, h1, h3, h5⟩
 ·have := (List.getElem?_eq_some_iff.1 hv).1
  have := h.len
  rw [h1] at this
  omega
 ·exact ⟨blk, h1, cell_get h3 (h5 i v hv)⟩
theorem RS.row {H : Heap} {p : Option Addr} {l : Nat} {el : TypeId} {k : Nat} {fs : List Value} (h : RS H p l el k fs) {i : Nat} (hi : i < l) (hk : 0 < k) {xs : Array Value} (hx : ∀ (j : Nat) v, xs[j]? = some v → fs[i * k + j]? = some v) : ∃ blk, p = some ⟨blk, 0, none⟩ ∧ rowIn H ⟨blk, i * k, none⟩ xs := by
 rcases h.at_ with h1 | ⟨blk, cs, h1, h3, h5⟩
 ·omega
 ·exact ⟨blk, h1, rowIn_block h3 fun j v hv => h5 _ _ (hx j v hv)⟩
structure IS (H : Heap) (p : Option Addr) (l : Nat) (fs : List Value) : Prop where
 len : fs.length = l
 get : ∀ (i : Nat) v, fs[i]? = some v → ∃ a, p = some a ∧ Go.Sh.cell H (a.add i) = some v
theorem IS.ext {H H' : Heap} {p : Option Addr} {l : Nat} {fs : List Value} (h : IS H p l fs) (he : Ext H H') : IS H' p l fs := ⟨h.len, fun i v hv => let ⟨a, h1, h2⟩ := h.get i v hv; ⟨a, h1, he.cell h2⟩⟩
theorem IS.cell {H : Heap} {p : Option Addr} {l : Nat} {fs : List Value} (h : IS H p l fs) {i : Nat} {v : Value} (hv : fs[i]? = some v) : ∃ a, p = some a ∧ Go.Sh.cell H (a.add i) = some v := h.get i v hv
theorem RS.is {H : Heap} {p : Option Addr} {l : Nat} {el : TypeId} {fs : List Value} (h : RS H p l el 1 fs) : IS H p l fs :=
 ⟨by have := h.len; omega, fun i v hv => let ⟨blk, h1, h2⟩ := h.cell hv; ⟨_, h1, by simpa using h2⟩⟩
theorem RS.rowOf {H : Heap} {p : Option Addr} {l : Nat} {el : TypeId} {k : Nat} {fs : List Value} (h : RS H p l el k fs) : rowOf H p (l * k) fs.toArray := by
 rcases h.at_ with h1 | ⟨blk, cs, h1, h3, h5⟩
 ·have := h.len
  rw [h1, Nat.zero_mul] at this
  have : fs = [] := List.length_eq_zero_iff.1 this
  subst this
  subst h1
  cases p with
  | none => rfl
  | some a => exact ⟨by simp, fun j v hv => by simp at hv⟩
 ·subst h1
  refine ⟨by simp [h.len], rowIn_block h3 fun j v hv => ?_⟩
  rw [Nat.zero_add]
  exact h5 j v (by simpa using hv)
theorem setL_get {c vs : List Value} {i : Nat} (h : i + vs.length ≤ c.length) (j : Nat) : (setL c i vs)[j]? = if i ≤ j ∧ j < i + vs.length then vs[j - i]? else c[j]? := by
 unfold setL
 by_cases h1 : j < i
 ·rw [if_neg (by omega), List.append_assoc, List.getElem?_append_left (by simp; omega), List.getElem?_take_of_lt h1]
 ·by_cases h2 : j < i + vs.length
  ·rw [if_pos ⟨by omega, h2⟩, List.append_assoc, List.getElem?_append_right (by simp; omega), List.getElem?_append_left (by simp; omega)]
   congr 1
   simp; omega
  ·rw [if_neg (by omega), List.getElem?_append_right (by simp; omega), List.getElem?_drop]
   congr 1
   simp; omega
theorem setL_len {c vs : List Value} {i : Nat} (h : i + vs.length ≤ c.length) : (setL c i vs).length = c.length := by unfold setL; simp; omega
theorem stAt_some {H : Heap} {b i : Nat} {c : Array Value} {t : TypeId} {vs : List Value} {f : Heap → Prop} (h : H[b]? = some (.cells c t (0, 0))) (hl : i + vs.length ≤ c.size) (ho : ∀ v ∈ vs, v.oneCell' = true)
    (hf : ∀ c' : Array Value, c'.size = c.size → (∀ j : Nat, c'[j]? = if i ≤ j ∧ j < i + vs.length then vs[j - i]? else c[j]?) → f (H.setIfInBounds b (.cells c' t (0, 0)))) : stAt H ⟨b, i, none⟩ vs f := by
  have hl' : i + vs.length ≤ c.toList.length := by simpa using hl
  refine ⟨c, t, h, rfl, hl, ho, ?_⟩
  refine hf (setL c.toList i vs).toArray (by simp [setL_len hl']) fun j => ?_
  rw [List.getElem?_toArray, setL_get hl' j, Array.getElem?_toList (xs := c)]
theorem FS.app' {n0 : Nat} {H : Heap} {p q : Option Addr} {l c n : Nat} {el : TypeId} {k bytes : Nat} {zero : Array Value} {fs gs : List Value} (h : FS n0 H p l c el k fs) (hrow : Go.Sh.rowOf H q (n * k) gs.toArray) (hgl : gs.length = n * k) (hgo : ∀ v ∈ gs, v.oneCell' = true) (hk : 0 < k) (hn : n0 ≤ H.size) (hz : zero.size = k)
    (hb : (l + n) * bytes ≤ 70368744177664) (hm : l + n ≤ 1000000000000) {K : Option Addr → Nat → Nat → Heap → Prop}
    (hK : ∀ p' c' H', FS n0 H' p' (l + n) c' el k (fs ++ gs) → (∀ (b : Nat) (o : Obj), H[b]? = some o → p ≠ some ⟨b, 0, none⟩ → H'[b]? = some o) → H.size ≤ H'.size → K p' (l + n) c' H') : appQ k bytes zero H p l c q n el K := by
  have hfl := h.len
  have hlen : (fs ++ gs).length = (l + n) * k := by rw [List.length_append, hfl, hgl, Nat.add_mul]
  have hone : ∀ v ∈ fs ++ gs, v.oneCell' = true := fun v hv => (List.mem_append.1 hv).elim (h.one v) (hgo v)
  refine ⟨hb, by omega, gs.toArray, hrow, fun hle => ?_, fun hlt => ?_⟩
  · rcases h.at_ with ⟨rfl, hc0⟩ | ⟨blk, cs, rfl, h2, h3, h4, h5⟩
    · refine hK none c H ⟨hlen, hle, hone, .inl ⟨rfl, hc0⟩⟩ (fun b o hb _ => hb) (Nat.le_refl _)
    · simp only [add_none, Nat.zero_add]
      have hcap : (l + n) * k ≤ c * k := Nat.mul_le_mul_right k hle
      rw [Nat.add_mul] at hcap
      refine stAt_some h3 (by show l * k + gs.length ≤ cs.size; omega) (by simpa using hgo) fun c' hc' hg => ?_
      refine hK _ _ _ ⟨hlen, hle, hone, .inr ⟨blk, c', rfl, h2, get_set_self h3, by omega, fun i v hv => ?_⟩⟩ (fun b o hb hne => get_set_ne (fun hh => hne (by rw [hh])) hb) (by simp)
      rw [hg]
      by_cases hi : i < fs.length
      · rw [if_neg (by omega)]
        rw [List.getElem?_append_left hi] at hv
        exact h5 i v hv
      · rw [List.getElem?_append_right (by omega)] at hv
        have hlt := (List.getElem?_eq_some_iff.1 hv).1
        rw [if_pos ⟨by omega, by show i < l * k + gs.length; omega⟩]
        rw [← hfl]
        simpa using hv
  · have hrow : ∃ ys, Go.Sh.rowOf H p (l * k) ys ∧ ys.toList = fs := ⟨fs.toArray, h.rs.rowOf, by simp⟩
    obtain ⟨ys, hy, hvs⟩ := hrow
    refine ⟨ys, hy, fun c' hc' => ?_⟩
    rw [zeroCells_eq _ _ (by omega)]
    have hcap : (l + n) * k ≤ c' * k := Nat.mul_le_mul_right k hc'
    have hys : ys.size = l * k := by rw [← Array.length_toList, hvs, hfl]
    refine hK _ _ _ ⟨hlen, hc', hone, .inr ⟨H.size, _, rfl, hn, get_push_self _ _, ?_, fun i v hv => ?_⟩⟩ (fun b o hb _ => get_push hb) (by simp)
    · simp only [Array.size_append, hys, List.size_toArray, reps_length, Array.length_toList, hz, hgl]
      rw [Nat.sub_mul]
      rw [Nat.add_mul] at hcap ⊢
      omega
    · have hi := (List.getElem?_eq_some_iff.1 hv).1
      rw [Array.getElem?_append_left (by simp [hys, hgl]; rw [hlen, Nat.add_mul] at hi; omega)]
      have : (ys ++ gs.toArray).toList = fs ++ gs := by simp [hvs]
      rw [← Array.getElem?_toList, this]
      exact hv
theorem FS.app {n0 : Nat} {H : Heap} {p q : Option Addr} {l c n : Nat} {el : TypeId} {k bytes : Nat} {zero : Array Value} {fs gs : List Value} (h : FS n0 H p l c el k fs) (hs : RS H q n el k gs) (hk : 0 < k) (hn : n0 ≤ H.size) (hz : zero.size = k)
    (hb : (l + n) * bytes ≤ 70368744177664) (hm : l + n ≤ 1000000000000) {K : Option Addr → Nat → Nat → Heap → Prop}
    (hK : ∀ p' c' H', FS n0 H' p' (l + n) c' el k (fs ++ gs) → (∀ (b : Nat) (o : Obj), H[b]? = some o → p ≠ some ⟨b, 0, none⟩ → H'[b]? = some o) → H.size ≤ H'.size → K p' (l + n) c' H') : appQ k bytes zero H p l c q n el K :=
  h.app' hs.rowOf hs.len hs.one hk hn hz hb hm hK
theorem FS.set {n0 : Nat} {H : Heap} {b l c : Nat} {el : TypeId} {k : Nat} {fs : List Value} {i : Nat} {v : Value} {f : Heap → Prop} (h : FS n0 H (some ⟨b, 0, none⟩) l c el k fs) (hi : i < fs.length) (ho : v.oneCell' = true)
    (hf : ∀ H', FS n0 H' (some ⟨b, 0, none⟩) l c el k (fs.set i v) → (∀ (b' : Nat) (o : Obj), H[b']? = some o → b' ≠ b → H'[b']? = some o) → H'.size = H.size → f H') : stAt H ⟨b, i, none⟩ [v] f := by
  have hlen := h.len
  rcases h.at_ with ⟨h1, _⟩ | ⟨blk, cs, h1, h2, h3, h4, h5⟩
  · cases h1
  · cases h1
    have hics : i < cs.size := by
      have := h5 i fs[i] (List.getElem?_eq_getElem hi)
      exact (Array.getElem?_eq_some_iff.1 this).1
    refine stAt_one h3 hics ho ?_
    refine hf _ ⟨by simpa using hlen, h.le, fun u hu => ?_, .inr ⟨b, cs.setIfInBounds i v, rfl, h2, get_set_self h3, by simpa using h4, fun j u hu => ?_⟩⟩ (fun b' o hb' hne => get_set_ne (Ne.symm hne) hb') (by simp)
    · rcases List.mem_or_eq_of_mem_set hu with hu | rfl
      · exact h.one u hu
      · exact ho
    · rw [List.getElem?_set] at hu
      rw [Array.getElem?_setIfInBounds]
      by_cases hij : i = j
      · subst hij
        rw [if_pos rfl, if_pos hi] at hu
        rw [if_pos rfl, if_pos hics]
        exact hu
      · rw [if_neg hij] at hu
        rw [if_neg hij]
        exact h5 j u hu
theorem zeros_FS {n0 : Nat} {H : Heap} {n b : Nat} {el : TypeId} (hb : n0 ≤ b) (h : H[b]? = some (.cells (List.toArray (reps n [Value.int .i64 0])) el)) : FS n0 H (some ⟨b, 0, none⟩) n n el 1 (ints (List.replicate n 0)) := by
 refine ⟨by simp [ints], Nat.le_refl _, ints_one _, .inr ⟨b, _, rfl, hb, h, by simp [reps_length], fun i v hv => ?_⟩⟩
 rw [List.getElem?_toArray]
 have hi : i < n := by have := (List.getElem?_eq_some_iff.1 hv).1; simpa [ints] using this
 rw [reps_get [Value.int .i64 0] (by decide) n i (by simpa using hi)]
 simp only [ints, List.map_replicate, List.getElem?_replicate, if_pos hi] at hv
 simpa [Nat.mod_one] using hv
end Go.Sh
namespace Go.Sh
structure Rs where
 at_ : Heap → List Nat → Prop
 loc : ∀ {H H' : Heap} {fp : List Nat}, at_ H fp → (∀ b ∈ fp, ∀ o, H[b]? = some o → H'[b]? = some o) → at_ H' fp
 has : ∀ {H : Heap} {fp : List Nat}, at_ H fp → ∀ b ∈ fp, b < H.size
def Rs.cell (b : Nat) (cs : Array Value) (ty : TypeId) : Rs where
 at_ H fp := fp = [b] ∧ H[b]? = some (.cells cs ty)
 loc h hk := ⟨h.1, hk _ (by rw [h.1]; exact List.mem_singleton.2 rfl) _ h.2⟩
 has h b hb := by rw [h.1, List.mem_singleton] at hb; subst hb; exact lt_of_get h.2
def Rs.sl (p : Option Addr) (l c : Nat) (el : TypeId) (k : Nat) (fs : List Value) : Rs where
 at_ H fp := FS 0 H p l c el k fs ∧ ((p = none ∧ fp = []) ∨ ∃ blk, p = some ⟨blk, 0, none⟩ ∧ fp = [blk])
 loc h hk := by
  refine ⟨h.1.keep fun b cs hp hb => hk b ?_ _ hb, h.2⟩
  rcases h.2 with ⟨h1, _⟩ | ⟨blk, h1, h2⟩
  ·rw [h1] at hp; cases hp
  ·rw [h1] at hp; cases hp; rw [h2]; exact List.mem_singleton.2 rfl
 has h b hb := by
  rcases h.2 with ⟨_, h2⟩ | ⟨blk, h1, h2⟩
  ·rw [h2] at hb; cases hb
  ·rw [h2, List.mem_singleton] at hb
   subst hb
   rcases h.1.at_ with ⟨h3, _⟩ | ⟨blk', cs, h3, _, h4, _⟩
   ·rw [h1] at h3; cases h3
   ·rw [h1] at h3; cases h3; exact lt_of_get h4
def Rs.star (r s : Rs) : Rs where
 at_ H fp := ∃ a b, fp = a ++ b ∧ r.at_ H a ∧ s.at_ H b
 loc := fun ⟨a, b, e, h1, h2⟩ hk => ⟨a, b, e, r.loc h1 fun x hx => hk x (by rw [e]; exact List.mem_append_left _ hx), s.loc h2 fun x hx => hk x (by rw [e]; exact List.mem_append_right _ hx)⟩
 has := fun ⟨a, b, e, h1, h2⟩ x hx => by
  rw [e] at hx
  rcases List.mem_append.1 hx with hx | hx
  ·exact r.has h1 x hx
  ·exact s.has h2 x hx
def Rs.ex {α : Type} (f : α → Rs) : Rs where
 at_ H fp := ∃ a, (f a).at_ H fp
 loc := fun ⟨a, h⟩ hk => ⟨a, (f a).loc h hk⟩
 has := fun ⟨a, h⟩ => (f a).has h
def Rs.pu (q : Prop) (r : Rs) : Rs where
 at_ H fp := q ∧ r.at_ H fp
 loc := fun ⟨a, h⟩ hk => ⟨a, r.loc h hk⟩
 has := fun ⟨a, h⟩ => r.has h
def Lie (H : Heap) : List Rs → List (List Nat) → Prop
 | [], [] => True
 | r :: σ, fp :: fps => r.at_ H fp ∧ Lie H σ fps
 | _, _ => False
theorem Lie.get {H : Heap} : ∀ {σ : List Rs} {fps : List (List Nat)}, Lie H σ fps → ∀ {i : Nat} {r : Rs}, σ[i]? = some r → ∃ fp, fps[i]? = some fp ∧ r.at_ H fp
 | [], [], _, i, r, h => by simp at h
 | r :: σ, fp :: fps, hl, 0, s, h => by simp at h; subst h; exact ⟨fp, rfl, hl.1⟩
 | r :: σ, fp :: fps, hl, i + 1, s, h => by
  simp only [List.getElem?_cons_succ] at h ⊢
  exact Lie.get hl.2 h
theorem Lie.has {H : Heap} : ∀ {σ : List Rs} {fps : List (List Nat)}, Lie H σ fps → ∀ b ∈ fps.flatten, b < H.size
 | [], [], _, b, hb => by simp at hb
 | r :: σ, fp :: fps, hl, b, hb => by
  simp only [List.flatten_cons, List.mem_append] at hb
  rcases hb with hb | hb
  ·exact r.has hl.1 b hb
  ·exact Lie.has hl.2 b hb
theorem Lie.loc {H H' : Heap} : ∀ {σ : List Rs} {fps : List (List Nat)}, Lie H σ fps → (∀ b ∈ fps.flatten, ∀ o, H[b]? = some o → H'[b]? = some o) → Lie H' σ fps
 | [], [], _, _ => trivial
 | r :: σ, fp :: fps, hl, hk => by
  simp only [List.flatten_cons, List.mem_append] at hk
  exact ⟨r.loc hl.1 fun b hb => hk b (.inl hb), Lie.loc hl.2 fun b hb => hk b (.inr hb)⟩
theorem Lie.set {H H' : Heap} : ∀ {σ : List Rs} {fps : List (List Nat)} {i : Nat} {fp fp' : List Nat} {r' : Rs}, Lie H σ fps → fps.flatten.Nodup → fps[i]? = some fp → r'.at_ H' fp' → fp'.Nodup → (∀ b ∈ fp', b ∈ fp ∨ H.size ≤ b) →
    (∀ b o, H[b]? = some o → b ∉ fp → H'[b]? = some o) → Lie H' (σ.set i r') (fps.set i fp') ∧ (fps.set i fp').flatten.Nodup
  | [], [], i, fp, fp', r', hl, hn, hi, h, hn', hf, hk => by simp at hi
  | r :: σ, g :: fps, 0, fp, fp', r', hl, hn, hi, h, hn', hf, hk => by
    simp at hi; subst hi
    simp only [List.flatten_cons, List.nodup_append] at hn
    refine ⟨⟨h, hl.2.loc fun b hb o ho => hk b o ho fun hg => hn.2.2 b hg b hb rfl⟩, ?_⟩
    simp only [List.set_cons_zero, List.flatten_cons, List.nodup_append]
    refine ⟨hn', hn.2.1, fun a ha b hb hab => ?_⟩
    subst hab
    rcases hf a ha with h1 | h1
    · exact hn.2.2 a h1 a hb rfl
    · have := Lie.has hl.2 a hb; omega
  | r :: σ, g :: fps, i + 1, fp, fp', r', hl, hn, hi, h, hn', hf, hk => by
    simp only [List.getElem?_cons_succ] at hi
    simp only [List.flatten_cons, List.nodup_append] at hn
    obtain ⟨h1, h2⟩ := Lie.set hl.2 hn.2.1 hi h hn' hf hk
    have hmem : ∀ b ∈ fp, b ∈ fps.flatten := fun b hb => List.mem_flatten.2 ⟨fp, List.mem_of_getElem? hi, hb⟩
    refine ⟨⟨r.loc hl.1 fun b hb o ho => hk b o ho fun hg => hn.2.2 b hb b (hmem b hg) rfl, h1⟩, ?_⟩
    simp only [List.set_cons_succ, List.flatten_cons, List.nodup_append]
    refine ⟨hn.1, h2, fun a ha b hb hab => ?_⟩
    subst hab
    obtain ⟨f, hf1, hf2⟩ := List.mem_flatten.1 hb
    rcases List.mem_or_eq_of_mem_set hf1 with hf1 | rfl
    · exact hn.2.2 a ha a (List.mem_flatten.2 ⟨f, hf1, hf2⟩) rfl
    · rcases hf a hf2 with h3 | h3
      · exact hn.2.2 a ha a (hmem a h3) rfl
      · have := r.has hl.1 a ha; omega
structure St (H0 H : Heap) (σ : List Rs) : Prop where
 ext : Ext H0 H
 own : ∃ fps, Lie H σ fps ∧ fps.flatten.Nodup ∧ ∀ b ∈ fps.flatten, H0.size ≤ b
theorem St.nil (H : Heap) : St H H [] := ⟨Ext.refl H, [], trivial, by simp, by simp⟩
theorem St.of_ext {H0 H : Heap} (h : Ext H0 H) : St H0 H [] := ⟨h, [], trivial, by simp, by simp⟩
variable {H0 H H' : Heap} {σ τ : List Rs}
theorem nodup_mem : ∀ {fps : List (List Nat)}, fps.flatten.Nodup → ∀ fp ∈ fps, fp.Nodup
 | [], _, fp, h => by cases h
 | g :: r, hn, fp, h => by
  rw [List.flatten_cons, List.nodup_append] at hn
  rcases List.mem_cons.1 h with rfl | h
  ·exact hn.1
  ·exact nodup_mem hn.2.1 fp h
theorem St.upd (hs : St H0 H σ) {i : Nat} {r r' : Rs} (hi : σ[i]? = some r)
    (h : ∀ fp, r.at_ H fp → fp.Nodup → (∀ b ∈ fp, H0.size ≤ b) → ∃ fp', r'.at_ H' fp' ∧ fp'.Nodup ∧ (∀ b ∈ fp', b ∈ fp ∨ H.size ≤ b) ∧ ∀ b o, H[b]? = some o → b ∉ fp → H'[b]? = some o) : St H0 H' (σ.set i r') := by
  obtain ⟨he, fps, hl, hn, hb⟩ := hs
  obtain ⟨fp, hfp, hat⟩ := hl.get hi
  have hmem : ∀ b ∈ fp, b ∈ fps.flatten := fun b hb => List.mem_flatten.2 ⟨fp, List.mem_of_getElem? hfp, hb⟩
  have hfn : fp.Nodup := nodup_mem hn _ (List.mem_of_getElem? hfp)
  obtain ⟨fp', h1, h2, h3, h4⟩ := h fp hat hfn fun b hb' => hb b (hmem b hb')
  obtain ⟨h5, h6⟩ := hl.set hn hfp h1 h2 h3 h4
  refine ⟨fun b o ho => h4 b o (he b o ho) fun hf => ?_, _, h5, h6, fun b hb' => ?_⟩
  · have := hb b (hmem b hf); have := lt_of_get ho; omega
  · obtain ⟨f, hf1, hf2⟩ := List.mem_flatten.1 hb'
    rcases List.mem_or_eq_of_mem_set hf1 with hf1 | rfl
    · exact hb b (List.mem_flatten.2 ⟨f, hf1, hf2⟩)
    · rcases h3 b hf2 with h7 | h7
      · exact hb b (hmem b h7)
      · have := he.size; omega
theorem St.as (hs : St H0 H σ) (i : Nat) {r r' : Rs} (hi : σ[i]? = some r) (h : ∀ fp, r.at_ H fp → r'.at_ H fp) : St H0 H (σ.set i r') :=
 hs.upd hi fun fp h1 h2 _ => ⟨fp, h fp h1, h2, fun b hb => .inl hb, fun b o ho _ => ho⟩
theorem St.step (hs : St H0 H σ) (he : Ext H H') : St H0 H' σ := by
 obtain ⟨h1, fps, hl, hn, hb⟩ := hs
 exact ⟨h1.trans he, fps, hl.loc fun b _ o ho => he b o ho, hn, hb⟩
theorem Lie.append {H : Heap} : ∀ {σ τ : List Rs} {f g : List (List Nat)}, Lie H σ f → Lie H τ g → Lie H (σ ++ τ) (f ++ g)
 | [], _, [], _, _, h => h
 | _ :: _, _, _ :: _, _, h, h' => ⟨h.1, Lie.append h.2 h'⟩
theorem Lie.split {H : Heap} : ∀ {σ τ : List Rs} {f : List (List Nat)}, Lie H (σ ++ τ) f → ∃ a b, f = a ++ b ∧ Lie H σ a ∧ Lie H τ b
 | [], _, f, h => ⟨[], f, rfl, trivial, h⟩
 | r :: σ, τ, [], h => h.elim
 | r :: σ, τ, g :: f, h => let ⟨a, b, e, h1, h2⟩ := Lie.split h.2; ⟨g :: a, b, by rw [e]; rfl, ⟨h.1, h1⟩, h2⟩
theorem St.call (hs : St H0 H σ) (ht : St H H' τ) : St H0 H' (τ ++ σ) := by
 obtain ⟨h1, fps, hl, hn, hb⟩ := hs
 obtain ⟨h2, gps, hl2, hn2, hb2⟩ := ht
 refine ⟨h1.trans h2, gps ++ fps, hl2.append (hl.loc fun b _ o ho => h2 b o ho), ?_, fun b h => ?_⟩
 ·rw [List.flatten_append, List.nodup_append]
  refine ⟨hn2, hn, fun a ha b hb' hab => ?_⟩
  subst hab
  have := hb2 a ha; have := hl.has a hb'; omega
 ·rw [List.flatten_append, List.mem_append] at h
  rcases h with h | h
  ·have := hb2 b h; have := h1.size; omega
  ·exact hb b h
theorem St.perm (hs : St H0 H σ) (hp : σ.Perm τ) : St H0 H τ := by
 obtain ⟨he, fps, hl, hn, hb⟩ := hs
 have : ∀ {σ τ : List Rs}, σ.Perm τ → ∀ fps, Lie H σ fps → ∃ gps, Lie H τ gps ∧ fps.Perm gps := by
  intro σ τ hp
  induction hp with
  | nil => intro fps h; exact ⟨fps, h, List.Perm.refl _⟩
  | cons x _ ih =>
   intro fps h
   match fps, h with
   | f :: fps, h => obtain ⟨g, h1, h2⟩ := ih fps h.2; exact ⟨f :: g, ⟨h.1, h1⟩, h2.cons f⟩
  | swap x y l =>
   intro fps h
   match fps, h with
   | f :: g :: fps, h => exact ⟨g :: f :: fps, ⟨h.2.1, h.1, h.2.2⟩, List.Perm.swap _ _ _⟩
  | trans _ _ ih1 ih2 =>
   intro fps h
   obtain ⟨g, h1, h2⟩ := ih1 fps h
   obtain ⟨k, h3, h4⟩ := ih2 g h1
   exact ⟨k, h3, h2.trans h4⟩
 obtain ⟨gps, h1, h2⟩ := this hp fps hl
 exact ⟨he, gps, h1, (h2.flatten.nodup_iff).1 hn, fun b h => hb b ((h2.flatten.mem_iff).2 h)⟩
theorem St.app (hs : St H0 H (σ ++ τ)) : St H0 H σ ∧ St H0 H τ := by
 obtain ⟨he, fps, hl, hn, hb⟩ := hs
 obtain ⟨a, b, rfl, h1, h2⟩ := hl.split
 rw [List.flatten_append, List.nodup_append] at hn
 rw [List.flatten_append] at hb
 exact ⟨⟨he, a, h1, hn.1, fun x hx => hb x (List.mem_append_left _ hx)⟩, ⟨he, b, h2, hn.2.1, fun x hx => hb x (List.mem_append_right _ hx)⟩⟩
theorem St.tail {r : Rs} (hs : St H0 H (r :: σ)) : St H0 H σ := (St.app (σ := [r]) hs).2
theorem St.drop (hs : St H0 H σ) (n : Nat) : St H0 H (σ.drop n) := by
 rw [← List.take_append_drop n σ] at hs
 exact hs.app.2
theorem St.take (hs : St H0 H σ) (n : Nat) : St H0 H (σ.take n) := by
 rw [← List.take_append_drop n σ] at hs
 exact hs.app.1
theorem St.swap {r s : Rs} (hs : St H0 H (r :: s :: σ)) : St H0 H (s :: r :: σ) := hs.perm (List.Perm.swap _ _ _)
theorem St.front (hs : St H0 H σ) (i : Nat) {r : Rs} (hi : σ[i]? = some r) : St H0 H (r :: σ.eraseIdx i) := by
 refine hs.perm ?_
 have : ∀ (l : List Rs) (i : Nat), l[i]? = some r → l.Perm (r :: l.eraseIdx i) := by
  intro l
  induction l with
  | nil => intro i h; simp at h
  | cons x l ih =>
   intro i h
   cases i with
   | zero => simp at h; subst h; exact List.Perm.refl _
   | succ i => exact ((ih i (by simpa using h)).cons x).trans (List.Perm.swap _ _ _)
 exact this σ i hi
theorem St.back {r r' : Rs} {i : Nat} (hi : σ[i]? = some r) (hs : St H0 H (r' :: σ.eraseIdx i)) : St H0 H (σ.set i r') := by
 refine hs.perm ?_
 have : ∀ (l : List Rs) (i : Nat), l[i]? = some r → (r' :: l.eraseIdx i).Perm (l.set i r') := by
  intro l
  induction l with
  | nil => intro i h; simp at h
  | cons x l ih =>
   intro i h
   cases i with
   | zero => exact List.Perm.refl _
   | succ i => exact (List.Perm.swap _ _ _).trans ((ih i (by simpa using h)).cons x)
 exact this σ i hi
theorem St.del (hs : St H0 H σ) (i : Nat) : St H0 H (σ.eraseIdx i) := by
 rcases Nat.lt_or_ge i σ.length with h | h
 ·exact (hs.front i (List.getElem?_eq_getElem h)).tail
 ·rw [List.eraseIdx_of_length_le h]; exact hs
theorem St.cat {r s : Rs} (hs : St H0 H (r :: s :: σ)) : St H0 H (.star r s :: σ) := by
 obtain ⟨he, fps, hl, hn, hb⟩ := hs
 match fps, hl with
 | f :: g :: fps, hl => exact ⟨he, (f ++ g) :: fps, ⟨⟨f, g, rfl, hl.1, hl.2.1⟩, hl.2.2⟩, by simpa using hn, fun b h => hb b (by simpa using h)⟩
theorem St.cut {r s : Rs} (hs : St H0 H (.star r s :: σ)) : St H0 H (r :: s :: σ) := by
 obtain ⟨he, fps, hl, hn, hb⟩ := hs
 match fps, hl with
 | _ :: fps, ⟨⟨f, g, rfl, h1, h2⟩, h3⟩ => exact ⟨he, f :: g :: fps, ⟨h1, h2, h3⟩, by simpa using hn, fun b h => hb b (by simpa using h)⟩
theorem St.unex {α : Type} {f : α → Rs} (hs : St H0 H (.ex f :: σ)) : ∃ a, St H0 H (f a :: σ) := by
 obtain ⟨he, fps, hl, hn, hb⟩ := hs
 match fps, hl with
 | g :: fps, ⟨⟨a, h1⟩, h3⟩ => exact ⟨a, he, g :: fps, ⟨h1, h3⟩, hn, hb⟩
theorem St.inex {α : Type} {f : α → Rs} (a : α) (hs : St H0 H (f a :: σ)) : St H0 H (.ex f :: σ) := by
 obtain ⟨he, fps, hl, hn, hb⟩ := hs
 match fps, hl with
 | g :: fps, ⟨h1, h3⟩ => exact ⟨he, g :: fps, ⟨⟨a, h1⟩, h3⟩, hn, hb⟩
theorem St.fact {q : Prop} {r : Rs} (hs : St H0 H (.pu q r :: σ)) : q ∧ St H0 H (r :: σ) := by
 obtain ⟨he, fps, hl, hn, hb⟩ := hs
 match fps, hl with
 | g :: fps, ⟨⟨a, h1⟩, h3⟩ => exact ⟨a, he, g :: fps, ⟨h1, h3⟩, hn, hb⟩
theorem St.with {q : Prop} {r : Rs} (hq : q) (hs : St H0 H (r :: σ)) : St H0 H (.pu q r :: σ) := by
 obtain ⟨he, fps, hl, hn, hb⟩ := hs
 match fps, hl with
 | g :: fps, ⟨h1, h3⟩ => exact ⟨he, g :: fps, ⟨⟨hq, h1⟩, h3⟩, hn, hb⟩
theorem St.new (hs : St H0 H σ) {r : Rs} {fp : List Nat} (he : Ext H H') (h : r.at_ H' fp) (hn : fp.Nodup) (hb : ∀ b ∈ fp, H.size ≤ b) : St H0 H' (r :: σ) :=
 St.call (τ := [r]) hs ⟨he, [fp], ⟨h, trivial⟩, by simpa using hn, by simpa using hb⟩
theorem St.block (hs : St H0 H σ) (i : Nat) {b : Nat} {cs : Array Value} {ty : TypeId} (hi : σ[i]? = some (.cell b cs ty)) : H[b]? = some (.cells cs ty) := by
 obtain ⟨_, fps, hl, _⟩ := hs
 obtain ⟨fp, _, h⟩ := hl.get hi
 exact h.2
theorem St.get (hs : St H0 H σ) (i : Nat) {b j : Nat} {cs : Array Value} {ty : TypeId} {v : Value} (hi : σ[i]? = some (.cell b cs ty)) (hj : cs[j]? = some v) : Sh.cell H ⟨b, j, none⟩ = some v :=
 cell_get (hs.block i hi) hj
theorem St.alc (hs : St H0 H σ) {cs : Array Value} {ty : TypeId} {K : Nat → Heap → Prop} (hK : ∀ b H', St H0 H' (.cell b cs ty :: σ) → K b H') : Sh.alc H (.cells cs ty) K :=
 hK _ _ (hs.new (Ext.push _ _) (fp := [H.size]) ⟨rfl, get_push_self _ _⟩ (by simp) (by simp))
theorem St.alcE (hs : St H0 H σ) {cs : Array Value} {ty : TypeId} {K : Nat → Heap → Prop} (hK : ∀ b H', Ext H H' → St H0 H' (.cell b cs ty :: σ) → K b H') : Sh.alc H (.cells cs ty) K :=
 hK _ _ (Ext.push _ _) (hs.new (Ext.push _ _) (fp := [H.size]) ⟨rfl, get_push_self _ _⟩ (by simp) (by simp))
theorem St.put (hs : St H0 H σ) (i : Nat) {b j : Nat} {cs : Array Value} {ty : TypeId} {v : Value} {f : Heap → Prop} (hi : σ[i]? = some (.cell b cs ty)) (hj : j < cs.size) (ho : v.oneCell' = true)
    (hK : ∀ H', St H0 H' (σ.set i (.cell b (cs.setIfInBounds j v) ty)) → f H') : stAt H ⟨b, j, none⟩ [v] f :=
  stAt_one (hs.block i hi) hj ho (hK _ (hs.upd hi fun fp h1 _ _ => ⟨[b], ⟨rfl, get_set_self h1.2⟩, by simp, fun x hx => .inl (h1.1 ▸ hx), fun x o ho hx => get_set_ne (fun he => hx (by rw [h1.1, he]; exact List.mem_singleton.2 rfl)) ho⟩))
theorem St.putAll (hs : St H0 H σ) (i : Nat) {b : Nat} {cs : Array Value} {ty : TypeId} {vs : List Value} {f : Heap → Prop} (hi : σ[i]? = some (.cell b cs ty)) (hl : vs.length = cs.size) (ho : ∀ v ∈ vs, v.oneCell' = true)
    (hK : ∀ H', St H0 H' (σ.set i (.cell b vs.toArray ty)) → f H') : stAt H ⟨b, 0, none⟩ vs f :=
  stAt_whole (hs.block i hi) hl ho (hK _ (hs.upd hi fun fp h1 _ _ => ⟨[b], ⟨rfl, get_set_self h1.2⟩, by simp, fun x hx => .inl (h1.1 ▸ hx), fun x o ho hx => get_set_ne (fun he => hx (by rw [h1.1, he]; exact List.mem_singleton.2 rfl)) ho⟩))
theorem St.putRow (hs : St H0 H σ) (i : Nat) {b j : Nat} {cs : Array Value} {ty : TypeId} {vs : List Value} {f : Heap → Prop} (hi : σ[i]? = some (.cell b cs ty)) (hl : j + vs.length ≤ cs.size) (ho : ∀ v ∈ vs, v.oneCell' = true)
    (hK : ∀ H', St H0 H' (σ.set i (.cell b (setL cs.toList j vs).toArray ty)) → f H') : stAt H ⟨b, j, none⟩ vs f :=
  ⟨cs, ty, hs.block i hi, rfl, hl, ho, hK _ (hs.upd hi fun fp h1 _ _ => ⟨[b], ⟨rfl, get_set_self h1.2⟩, by simp, fun x hx => .inl (h1.1 ▸ hx), fun x o ho hx => get_set_ne (fun he => hx (by rw [h1.1]; exact List.mem_singleton.2 he.symm)) ho⟩)⟩
theorem St.fs (hs : St H0 H σ) (i : Nat) {p : Option Addr} {l c k : Nat} {el : TypeId} {fs : List Value} (hi : σ[i]? = some (.sl p l c el k fs)) : FS 0 H p l c el k fs := by
 obtain ⟨_, fps, hl, _⟩ := hs
 obtain ⟨fp, _, h⟩ := hl.get hi
 exact h.1
theorem St.rs (hs : St H0 H σ) (i : Nat) {p : Option Addr} {l c k : Nat} {el : TypeId} {fs : List Value} (hi : σ[i]? = some (.sl p l c el k fs)) : RS H p l el k fs := (hs.fs i hi).rs
theorem St.is (hs : St H0 H σ) (i : Nat) {p : Option Addr} {l c : Nat} {el : TypeId} {fs : List Value} (hi : σ[i]? = some (.sl p l c el 1 fs)) : IS H p l fs := (hs.rs i hi).is
theorem FS.resrc {n0 : Nat} {H : Heap} {p : Option Addr} {l c k : Nat} {el : TypeId} {fs : List Value} (h : FS n0 H p l c el k fs) : ∃ fp, (Rs.sl p l c el k fs).at_ H fp ∧ fp.Nodup ∧ (∀ b ∈ fp, n0 ≤ b) ∧ ∀ b ∈ fp, p = some ⟨b, 0, none⟩ := by
 rcases h.at_ with ⟨h1, h2⟩ | ⟨blk, cs, h1, h2, h3, h4, h5⟩
 ·exact ⟨[], ⟨h.lower (Nat.zero_le _), .inl ⟨h1, rfl⟩⟩, by simp, by simp, by simp⟩
 ·exact ⟨[blk], ⟨h.lower (Nat.zero_le _), .inr ⟨blk, h1, rfl⟩⟩, by simp, by simpa using h2, by simpa using h1⟩
theorem St.newSl (hs : St H0 H σ) {p : Option Addr} {l c k : Nat} {el : TypeId} {fs : List Value} (he : Ext H H') (h : FS H.size H' p l c el k fs) : St H0 H' (.sl p l c el k fs :: σ) := by
 obtain ⟨fp, h1, h2, h3, _⟩ := h.resrc
 exact hs.new he h1 h2 h3
theorem St.nilSl (hs : St H0 H σ) (el : TypeId) (k : Nat) : St H0 H (.sl none 0 0 el k [] :: σ) := hs.newSl (Ext.refl _) (FS.nil _ _ _ _)
theorem St.toSl (hs : St H0 H σ) (i : Nat) {b l k : Nat} {cs : Array Value} {ty : TypeId} {fs : List Value} (hi : σ[i]? = some (.cell b cs ty)) (hl : cs.size = l * k) (hf : cs.toList = fs) (ho : ∀ v ∈ fs, v.oneCell' = true) :
    St H0 H (σ.set i (.sl (some ⟨b, 0, none⟩) l l ty k fs)) :=
  hs.as i hi fun fp h => ⟨⟨by rw [← hf]; simpa using hl, Nat.le_refl _, ho, .inr ⟨b, cs, rfl, Nat.zero_le _, h.2, hl, fun j v hv => by rw [← hf] at hv; simpa using hv⟩⟩, .inr ⟨b, rfl, h.1⟩⟩
theorem FS.app2 {n0 : Nat} {H : Heap} {p q : Option Addr} {l c n : Nat} {el : TypeId} {k bytes : Nat} {zero : Array Value} {fs gs : List Value} (h : FS n0 H p l c el k fs) (hrow : Go.Sh.rowOf H q (n * k) gs.toArray) (hgl : gs.length = n * k) (hgo : ∀ v ∈ gs, v.oneCell' = true) (hk : 0 < k) (hn : n0 ≤ H.size) (hz : zero.size = k)
    (hb : (l + n) * bytes ≤ 70368744177664) (hm : l + n ≤ 1000000000000) {K : Option Addr → Nat → Nat → Heap → Prop}
    (hK : ∀ p' c' H', FS n0 H' p' (l + n) c' el k (fs ++ gs) → (∀ (b : Nat) (o : Obj), H[b]? = some o → p ≠ some ⟨b, 0, none⟩ → H'[b]? = some o) → (p' = p ∨ p' = some ⟨H.size, 0, none⟩) → K p' (l + n) c' H') : appQ k bytes zero H p l c q n el K := by
  by_cases hle : l + n ≤ c
  · obtain ⟨g1, g2, xs, g3, g4, _⟩ := h.app' (K := fun p' l' c' H' => p' = p → K p' l' c' H') hrow hgl hgo hk hn hz hb hm fun p' c' H' h1 h2 h3 hp => hK p' c' H' h1 h2 (.inl hp)
    refine ⟨g1, g2, xs, g3, fun hle => ?_, fun hlt => by omega⟩
    have := g4 hle
    cases p with
    | none => exact this rfl
    | some a =>
      obtain ⟨cs, T, a1, a2, a3, a4, a5⟩ := this
      exact ⟨cs, T, a1, a2, a3, a4, a5 rfl⟩
  · obtain ⟨g1, g2, xs, g3, _, g4⟩ := h.app' (K := fun p' l' c' H' => p' = some ⟨H.size, 0, none⟩ → K p' l' c' H') hrow hgl hgo hk hn hz hb hm fun p' c' H' h1 h2 h3 hp => hK p' c' H' h1 h2 (.inr hp)
    refine ⟨g1, g2, xs, g3, fun hle' => by omega, fun hlt => ?_⟩
    obtain ⟨ys, b1, b2⟩ := g4 hlt
    exact ⟨ys, b1, fun c' hc' => b2 c' hc' rfl⟩
theorem Rs.sl_at {H : Heap} {p : Option Addr} {l c k : Nat} {el : TypeId} {fs : List Value} {fp : List Nat} (h : (Rs.sl p l c el k fs).at_ H fp) {b : Nat} (hp : p = some ⟨b, 0, none⟩) : fp = [b] := by
 rcases h.2 with ⟨h1, _⟩ | ⟨blk, h1, h2⟩
 ·rw [hp] at h1; cases h1
 ·rw [hp] at h1; cases h1; exact h2
theorem St.slSet (hs : St H0 H σ) {i : Nat} {p p' : Option Addr} {l c l' c' k : Nat} {el : TypeId} {fs fs' : List Value} (hi : σ[i]? = some (.sl p l c el k fs)) (h : FS 0 H' p' l' c' el k fs')
    (hk : ∀ (b : Nat) (o : Obj), H[b]? = some o → p ≠ some ⟨b, 0, none⟩ → H'[b]? = some o) (hp : p' = p ∨ p' = some ⟨H.size, 0, none⟩) : St H0 H' (σ.set i (.sl p' l' c' el k fs')) := by
  refine hs.upd hi fun fp h1 h2 h3 => ?_
  obtain ⟨fp', g1, g2, _, g4⟩ := h.resrc
  refine ⟨fp', g1, g2, fun b hb => ?_, fun b o ho hb => hk b o ho fun he => hb (by rw [Rs.sl_at h1 he]; exact List.mem_singleton.2 rfl)⟩
  have := g4 b hb
  rcases hp with rfl | hp
  · left; rw [Rs.sl_at h1 this]; exact List.mem_singleton.2 rfl
  · rw [this] at hp; cases hp; exact .inr (Nat.le_refl _)
theorem St.appS (hs : St H0 H σ) (i : Nat) {p q : Option Addr} {l c n k bytes : Nat} {el : TypeId} {zero : Array Value} {fs gs : List Value} (hi : σ[i]? = some (.sl p l c el k fs)) (hrow : Go.Sh.rowOf H q (n * k) gs.toArray) (hgl : gs.length = n * k)
    (hgo : ∀ v ∈ gs, v.oneCell' = true) (hk : 0 < k) (hz : zero.size = k) (hb : (l + n) * bytes ≤ 70368744177664) (hm : l + n ≤ 1000000000000) {K : Option Addr → Nat → Nat → Heap → Prop}
    (hK : ∀ p' c' H', St H0 H' (σ.set i (.sl p' (l + n) c' el k (fs ++ gs))) → K p' (l + n) c' H') : appQ k bytes zero H p l c q n el K :=
  (hs.fs i hi).app2 hrow hgl hgo hk (Nat.zero_le _) hz hb hm fun p' c' H' h1 h2 h3 => hK p' c' H' (hs.slSet hi h1 h2 h3)
theorem St.appC (hs : St H0 H σ) (i m : Nat) {p : Option Addr} {b l c n k bytes : Nat} {el ty : TypeId} {zero cs : Array Value} {fs : List Value} (hi : σ[i]? = some (.sl p l c el k fs)) (hm' : σ[m]? = some (.cell b cs ty)) (hgl : cs.size = n * k)
    (hgo : ∀ v ∈ cs.toList, v.oneCell' = true) (hk : 0 < k) (hz : zero.size = k) (hb : (l + n) * bytes ≤ 70368744177664) (hm : l + n ≤ 1000000000000) {K : Option Addr → Nat → Nat → Heap → Prop}
    (hK : ∀ p' c' H', St H0 H' (σ.set i (.sl p' (l + n) c' el k (fs ++ cs.toList))) → K p' (l + n) c' H') : appQ k bytes zero H p l c (some ⟨b, 0, none⟩) n el K :=
  hs.appS i hi (gs := cs.toList) (show Go.Sh.rowOf H (Option.some ⟨b, 0, none⟩) (n * k) cs.toList.toArray from ⟨by simpa using hgl, by simpa using rowIn_whole (hs.block m hm')⟩) (by simpa using hgl) hgo hk hz hb hm hK
theorem IS.rowOf {H : Heap} {p : Option Addr} {l : Nat} {fs : List Value} (h : IS H p l fs) : Go.Sh.rowOf H p (l * 1) fs.toArray := by
 cases p with
 | none =>
  have : fs = [] := List.eq_nil_iff_forall_not_mem.2 fun v hv => by
   obtain ⟨i, hi⟩ := List.getElem?_of_mem hv
   obtain ⟨a, h1, _⟩ := h.get i v hi
   cases h1
  subst this; rfl
 | some a =>
  refine ⟨by simp [h.len], fun j v hv => ?_⟩
  obtain ⟨a', h1, h2⟩ := h.get j v (by simpa using hv)
  cases h1; exact h2
theorem St.appI (hs : St H0 H σ) (i : Nat) {p q : Option Addr} {l c n bytes : Nat} {el : TypeId} {zero : Array Value} {fs gs : List Value} (hi : σ[i]? = some (.sl p l c el 1 fs)) (hr : IS H q n gs) (ho : ∀ v ∈ gs, v.oneCell' = true) (hz : zero.size = 1)
    (hb : (l + n) * bytes ≤ 70368744177664) (hm : l + n ≤ 1000000000000) {K : Option Addr → Nat → Nat → Heap → Prop}
    (hK : ∀ p' c' H', St H0 H' (σ.set i (.sl p' (l + n) c' el 1 (fs ++ gs))) → K p' (l + n) c' H') : appQ 1 bytes zero H p l c q n el K :=
  hs.appS i hi hr.rowOf (by simp [hr.len]) ho (by decide) hz hb hm hK
theorem St.slPut (hs : St H0 H σ) (i : Nat) {b l c k j : Nat} {el : TypeId} {fs : List Value} {v : Value} {f : Heap → Prop} (hi : σ[i]? = some (.sl (some ⟨b, 0, none⟩) l c el k fs)) (hj : j < fs.length) (ho : v.oneCell' = true)
    (hK : ∀ H', St H0 H' (σ.set i (.sl (some ⟨b, 0, none⟩) l c el k (fs.set j v))) → f H') : stAt H ⟨b, j, none⟩ [v] f :=
  (hs.fs i hi).set hj ho fun H' h1 h2 h3 => hK H' (hs.slSet hi h1 (fun b' o ho hne => h2 b' o ho fun he => hne (by rw [he])) (.inl rfl))
theorem St.slSome (hs : St H0 H σ) (i : Nat) {p : Option Addr} {l c k j : Nat} {el : TypeId} {fs : List Value} (hi : σ[i]? = some (.sl p l c el k fs)) (hj : j < fs.length) : ∃ b, p = some ⟨b, 0, none⟩ := by
 obtain ⟨b, h, _⟩ := (hs.rs i hi).cell (List.getElem?_eq_getElem hj)
 exact ⟨b, h⟩
def kints (k : IntKind) (l : List Int) : List Value := l.map (Value.int k)
theorem kints_get {k : IntKind} {l : List Int} {i : Nat} {v : Int} (h : l[i]? = some v) : (kints k l)[i]? = some (Value.int k v) := by simp [kints, h]
theorem kints_len (k : IntKind) (l : List Int) : (kints k l).length = l.length := by simp [kints]
theorem kints_append (k : IntKind) (a b : List Int) : kints k (a ++ b) = kints k a ++ kints k b := by simp [kints]
theorem kints_set (k : IntKind) (l : List Int) (i : Nat) (v : Int) : (kints k l).set i (.int k v) = kints k (l.set i v) := by simp [kints]
theorem kints_one (k : IntKind) (l : List Int) : ∀ v ∈ kints k l, v.oneCell' = true := fun v hv => by
 obtain ⟨x, _, rfl⟩ := List.mem_map.1 hv; rfl
theorem IS.rd {H : Heap} {p : Option Addr} {l : Nat} {k : IntKind} {ls : List Int} (h : IS H p l (kints k ls)) {i x : Int} (h0 : 0 ≤ i) (h1 : i < l) (hx : ls[i.toNat]? = some x) {K : Int → Prop} (hK : K x) :
    ∃ a : Addr, p = some a ∧ 0 ≤ i ∧ i < ((l : Nat) : Int) ∧ ∃ v : Int, Sh.cell H (Addr.add a (Int.toNat i * 1)) = some (.int k v) ∧ K v := by
  obtain ⟨a, hp, hc⟩ := h.get _ _ (kints_get hx)
  exact ⟨a, hp, h0, h1, x, by simpa using hc, hK⟩
theorem IS.length {H : Heap} {p : Option Addr} {l : Nat} {k : IntKind} {ls : List Int} (h : IS H p l (kints k ls)) : ls.length = l := by have := h.len; rwa [kints_len] at this
theorem add_add (a : Addr) (i j : Nat) : (a.add i).add j = a.add (i + j) := by
 obtain ⟨b, o, s⟩ := a
 unfold Addr.add
 cases s <;> simp <;> split <;> split <;> simp_all <;> omega
theorem IS.part {H : Heap} {a : Addr} {l : Nat} {fs : List Value} (h : IS H (some a) l fs) {i n : Nat} (hi : i + n ≤ l) : IS H (some (a.add i)) n ((fs.drop i).take n) := by
 refine ⟨by have := h.len; simp; omega, fun j v hv => ?_⟩
 rw [List.getElem?_take] at hv
 split at hv
 ·rw [List.getElem?_drop] at hv
  obtain ⟨a', h1, h2⟩ := h.get _ _ hv
  cases h1
  refine ⟨_, rfl, ?_⟩
  rw [show (a.add i).add j = a.add (i + j) from add_add a i j]
  exact h2
 ·cases hv
theorem upto {n : Nat} {Q : Nat → Prop} (h : ∀ i, i ≤ n → (i < n → Q (i + 1)) → Q i) : ∀ i, i ≤ n → Q i := by
 have : ∀ m i, n - i = m → i ≤ n → Q i := by
  intro m
  induction m with
  | zero => intro i hm hi; exact h i hi fun hlt => by omega
  | succ m ih => intro i hm hi; exact h i hi fun hlt => ih (i + 1) (by omega) (by omega)
 exact fun i hi => this (n - i) i rfl hi
end Go.Sh
namespace Go.Sh
variable {H0 H : Heap} {σ : List Rs}
theorem zeroA (n : Nat) : Array.replicate n (Value.int .i64 0) = (ints (List.replicate n 0)).toArray := by simp [ints]
theorem intsA_size (l : List Int) : (ints l).toArray.size = l.length := by simp [ints]
theorem oneV {v : Value} (h : v.oneCell' = true) : ∀ u ∈ [v], u.oneCell' = true := fun u hu => by rw [List.mem_singleton.1 hu]; exact h
theorem St.rdA (hs : St H0 H σ) (i : Nat) {b j : Nat} {l : List Int} {ty : TypeId} {x : Int} (hi : σ[i]? = some (.cell b (ints l).toArray ty)) (hx : l[j]? = some x) : Sh.cell H ⟨b, j, none⟩ = some (.int .i64 x) :=
 hs.get i hi (by rw [List.getElem?_toArray]; exact ints_get hx)
theorem St.putA (hs : St H0 H σ) (i : Nat) {b j : Nat} {l : List Int} {ty : TypeId} {x : Int} {f : Heap → Prop} (hi : σ[i]? = some (.cell b (ints l).toArray ty)) (hj : j < l.length)
    (hK : ∀ H', St H0 H' (σ.set i (.cell b (ints (l.set j x)).toArray ty)) → f H') : stAt H ⟨b, j, none⟩ [.int .i64 x] f :=
  hs.put i hi (by rw [intsA_size]; exact hj) rfl fun H' hs' => hK H' (by
    have e : (ints l).toArray.setIfInBounds j (Value.int .i64 x) = (ints (l.set j x)).toArray := by rw [← ints_set]; simp
    rw [← e]; exact hs')
theorem St.putAllA (hs : St H0 H σ) (i : Nat) {b : Nat} {cs : Array Value} {l : List Int} {ty : TypeId} {f : Heap → Prop} (hi : σ[i]? = some (.cell b cs ty)) (hl : l.length = cs.size)
    (hK : ∀ H', St H0 H' (σ.set i (.cell b (ints l).toArray ty)) → f H') : stAt H ⟨b, 0, none⟩ (Array.toList (ints l).toArray) f :=
  hs.putAll i hi (by simpa [ints] using hl) (fun v hv => ints_one l v (by simpa using hv)) fun H' hs' => hK H' (by simpa using hs')
theorem reps_rep (v : Value) : ∀ n, reps n [v] = List.replicate n v
 | 0 => rfl
 | n + 1 => by rw [reps, reps_rep v n, List.replicate_succ]; rfl
theorem repsA (n : Nat) : (reps n (Array.toList #[Value.int .i64 0])).toArray = (ints (List.replicate n 0)).toArray := by
 show (reps n [Value.int .i64 0]).toArray = _
 rw [reps_rep]; simp [ints]
theorem St.isA (hs : St H0 H σ) (i : Nat) {b n : Nat} {l : List Int} {ty : TypeId} (hi : σ[i]? = some (.cell b (ints l).toArray ty)) (hn : l.length = n) : IS H (some ⟨b, 0, none⟩) n (ints l) :=
 ⟨by rw [ints_len]; exact hn, fun j v hv => ⟨_, rfl, by rw [add_none, Nat.zero_add]; exact hs.get i hi (by rw [List.getElem?_toArray]; exact hv)⟩⟩
theorem St.rowA (hs : St H0 H σ) (i : Nat) {b j n : Nat} {l xs : List Int} {ty : TypeId} (hi : σ[i]? = some (.cell b (ints l).toArray ty)) (hx : xs = (l.drop j).take n) (hn : j + n ≤ l.length) : rowOf H (some ⟨b, j, none⟩) n (ints xs).toArray := by
 subst hx
 refine ⟨by rw [intsA_size]; simp; omega, fun k v hv => ?_⟩
 rw [add_none]
 rw [List.getElem?_toArray] at hv
 have hk := (List.getElem?_eq_some_iff.1 hv).1
 rw [ints_len, List.length_take, List.length_drop] at hk
 refine hs.get i hi ?_
 rw [List.getElem?_toArray]
 simp only [ints, List.getElem?_map] at hv ⊢
 rw [List.getElem?_take_of_lt (by omega), List.getElem?_drop] at hv
 exact hv
theorem St.putRowA (hs : St H0 H σ) (i : Nat) {b j : Nat} {l xs : List Int} {ty : TypeId} {f : Heap → Prop} (hi : σ[i]? = some (.cell b (ints l).toArray ty)) (hj : j + xs.length ≤ l.length)
    (hK : ∀ H', St H0 H' (σ.set i (.cell b (ints (l.take j ++ xs ++ l.drop (j + xs.length))).toArray ty)) → f H') : stAt H ⟨b, j, none⟩ (Array.toList (ints xs).toArray) f :=
  hs.putRow i hi (by rw [intsA_size]; simp only [ints_len]; exact hj) (fun v hv => ints_one xs v (by simpa using hv)) fun H' hs' => hK H' (by
    have e : setL (ints l).toArray.toList j (Array.toList (ints xs).toArray) = ints (l.take j ++ xs ++ l.drop (j + xs.length)) := by simp [setL, ints]
    rw [e] at hs'; exact hs')
theorem getD_some {α : Type} (a : List α) (d : α) {i : Nat} (h : i < a.length) : a[i]? = some (a.getD i d) := by rw [List.getD_eq_getElem?_getD, List.getElem?_eq_getElem h]; rfl
def fillA (L : List Int) (s : Nat) : List Int := L.take s ++ List.replicate (L.length - s) 0
theorem fillA_len {L : List Int} {s : Nat} (h : s ≤ L.length) : (fillA L s).length = L.length := by unfold fillA; simp; omega
theorem fillA_zero (L : List Int) : fillA L 0 = List.replicate L.length 0 := by simp [fillA]
theorem fillA_all (L : List Int) : fillA L L.length = L := by simp [fillA]
theorem fillA_set {L : List Int} {s : Nat} (h : s < L.length) : (fillA L s).set s (L.getD s 0) = fillA L (s + 1) := by
 unfold fillA
 have ht : L.take (s + 1) = L.take s ++ [L.getD s 0] := by rw [List.take_add_one, getD_some L 0 h]; rfl
 rw [ht, List.set_append_right _ _ (by rw [List.length_take]; omega), List.length_take, Nat.min_eq_left (by omega), Nat.sub_self, show L.length - s = (L.length - (s + 1)) + 1 from by omega, List.replicate_succ, List.set_cons_zero, List.append_assoc]
 rfl
theorem fillA_at {L : List Int} {s : Nat} (h : s < L.length) : (fillA L s)[s]? = some 0 := by
 unfold fillA
 rw [List.getElem?_append_right (by rw [List.length_take]; omega), List.length_take, Nat.min_eq_left (by omega), Nat.sub_self, show L.length - s = (L.length - (s + 1)) + 1 from by omega, List.replicate_succ]
 rfl
theorem fillA_set0 {L : List Int} {s : Nat} (h : s < L.length) : (fillA L s).set s 0 = fillA L s := by
 have h1 := fillA_at h
 obtain ⟨h2, h3⟩ := List.getElem?_eq_some_iff.1 h1
 rw [← h3, List.set_getElem_self]
theorem tab_getD {n : Nat} {f : Nat → Int} {i : Nat} (h : i < n) : ((List.range n).map f).getD i 0 = f i := by simp [List.getD_eq_getElem?_getD, h]
theorem tab_get {n : Nat} {f : Nat → Int} {i : Nat} (h : i < n) : ((List.range n).map f)[i]? = some (f i) := by simp [h]
theorem tab_len (n : Nat) (f : Nat → Int) : ((List.range n).map f).length = n := by simp
def sumN : Nat → (Nat → Int) → Int
 | 0, _ => 0
 | n + 1, f => sumN n f + f n
theorem sumN_bd {f : Nat → Int} {B : Int} (n : Nat) (h : ∀ i, i < n → -B ≤ f i ∧ f i ≤ B) : -((n : Int) * B) ≤ sumN n f ∧ sumN n f ≤ (n : Int) * B := by
 induction n with
 | zero => simp [sumN]
 | succ n ih =>
  have h1 := ih fun i hi => h i (by omega)
  have h2 := h n (by omega)
  rw [sumN, show ((n + 1 : Nat) : Int) * B = (n : Int) * B + B from by rw [Int.natCast_add, Int.add_mul]; simp]
  omega
theorem mul_bd {x y A B : Int} (hx : -A ≤ x ∧ x ≤ A) (hy : -B ≤ y ∧ y ≤ B) : -(A * B) ≤ x * y ∧ x * y ≤ A * B := by
 have h1 : x.natAbs ≤ A.toNat := by omega
 have h2 : y.natAbs ≤ B.toNat := by omega
 have h3 := Nat.mul_le_mul h1 h2
 rw [← Int.natAbs_mul] at h3
 have h4 : ((A.toNat * B.toNat : Nat) : Int) = A * B := by
  rw [Int.natCast_mul, Int.toNat_of_nonneg (by omega), Int.toNat_of_nonneg (by omega)]
 omega
theorem sumN_mul (n : Nat) (f : Nat → Int) (c : Int) : sumN n f * c = sumN n fun i => f i * c := by
 induction n with
 | zero => simp [sumN]
 | succ n ih => rw [sumN, sumN, Int.add_mul, ih]
theorem sumN_congr {n : Nat} {f g : Nat → Int} (h : ∀ i, i < n → f i = g i) : sumN n f = sumN n g := by
 induction n with
 | zero => rfl
 | succ n ih => rw [sumN, sumN, ih fun i hi => h i (by omega), h n (by omega)]
end Go.Sh
namespace Go.Proofs
open Go.Sh
variable {H0 H : Heap} {σ : List Rs} {R : Value → Heap → Prop}
def wtab : List Int := [4096, 4017, 3784, 3406, 2896, 2276, 1567, 799, 0]
def waveM (k : Nat) : Int := if k % 32 ≤ 8 then wtab.getD (k % 32) 0 else if k % 32 ≤ 16 then -wtab.getD (16 - k % 32) 0 else if 32 - k % 32 ≤ 8 then wtab.getD (32 - k % 32) 0 else -wtab.getD (16 - (32 - k % 32)) 0
def cM (u x : Nat) : Int := if u = 0 then 2896 else waveM ((2 * x + 1) * u)
def cT : List Int := (List.range 64).map fun i => cM (i / 8) (i % 8)
theorem wtab_rng (i : Nat) : -4096 ≤ wtab.getD i 0 ∧ wtab.getD i 0 ≤ 4096 := by
 by_cases h : i < 9
 ·have : ∀ i : Fin 9, -4096 ≤ wtab.getD i.val 0 ∧ wtab.getD i.val 0 ≤ 4096 := by decide
  exact this ⟨i, h⟩
 ·rw [List.getD_eq_getElem?_getD, List.getElem?_eq_none (by simp [wtab]; omega)]; decide
theorem waveM_rng (k : Nat) : -4096 ≤ waveM k ∧ waveM k ≤ 4096 := by
 unfold waveM
 have h1 := wtab_rng (k % 32)
 have h2 := wtab_rng (16 - k % 32)
 have h3 := wtab_rng (32 - k % 32)
 have h4 := wtab_rng (16 - (32 - k % 32))
 split
 ·exact h1
 ·split
  ·omega
  ·split
   ·exact h3
   ·omega
theorem cM_rng (u x : Nat) : -4096 ≤ cM u x ∧ cM u x ≤ 4096 := by
 unfold cM
 split
 ·decide
 ·exact waveM_rng _
theorem tmodN (k m : Nat) : Int.tmod (k : Int) (m : Int) = ((k % m : Nat) : Int) := by rw [Int.tmod_eq_emod_of_nonneg (by omega)]; rfl
theorem tdivN (k m : Nat) : Int.tdiv (k : Int) (m : Int) = ((k / m : Nat) : Int) := by rw [Int.tdiv_eq_ediv_of_nonneg (by omega)]; rfl
theorem wN {k : Nat} (h : k ≤ 1000000000000) : IntKind.wrap .i64 (k : Int) = (k : Int) := wrap_id (by omega) (by omega)
theorem wtabA (r : Nat) (h : r ≤ 8) : (#[Value.int .i64 (4096 : Int), Value.int .i64 (4017 : Int), Value.int .i64 (3784 : Int), Value.int .i64 (3406 : Int), Value.int .i64 (2896 : Int), Value.int .i64 (2276 : Int), Value.int .i64 (1567 : Int), Value.int .i64 (799 : Int), Value.int .i64 (0 : Int)] : Array Value)[r * 1]? = some (.int .i64 (wtab.getD r 0)) := by
 obtain rfl | rfl | rfl | rfl | rfl | rfl | rfl | rfl | rfl : r = 0 ∨ r = 1 ∨ r = 2 ∨ r = 3 ∨ r = 4 ∨ r = 5 ∨ r = 6 ∨ r = 7 ∨ r = 8 := by omega
 all_goals rfl
theorem wave8 {k : Nat} (h : k % 32 ≤ 8) (hR : R (.int .i64 (wtab.getD (k % 32) 0)) H) : CallsH Try.prog 78 #[.int .i64 (k : Nat)] H R := by
 refine Try.s78 ⟨by decide, ?_⟩
 rw [show ((32 : Int)) = ((32 : Nat) : Int) from rfl, tmodN]
 refine br_n (by omega) (br_n (by omega) ⟨by omega, by omega, _, ?_, hR⟩)
 rw [Int.toNat_natCast]; exact wtabA _ h
theorem wave16 {k : Nat} (h : k % 32 ≤ 16) (hR : R (.int .i64 (if k % 32 ≤ 8 then wtab.getD (k % 32) 0 else -wtab.getD (16 - k % 32) 0)) H) : CallsH Try.prog 78 #[.int .i64 (k : Nat)] H R := by
 by_cases h8 : k % 32 ≤ 8
 ·rw [if_pos h8] at hR; exact wave8 h8 hR
 rw [if_neg h8] at hR
 refine Try.s78 ⟨by decide, ?_⟩
 rw [show ((32 : Int)) = ((32 : Nat) : Int) from rfl, tmodN]
 refine br_n (by omega) (br_y (by omega) ?_)
 rw [wrap_id (by omega) (by omega), show (16 : Int) - ((k % 32 : Nat) : Int) = ((16 - k % 32 : Nat) : Int) from by omega]
 refine wave8 (by omega) ⟨_, rfl, ?_⟩
 rw [show (16 - k % 32) % 32 = 16 - k % 32 from by omega]
 have := wtab_rng (16 - k % 32)
 rw [wrap_id (by omega) (by omega), Int.zero_sub]
 exact hR
theorem c78 {k : Nat} (hR : R (.int .i64 (waveM k)) H) : CallsH Try.prog 78 #[.int .i64 (k : Nat)] H R := by
 unfold waveM at hR
 by_cases h16 : k % 32 ≤ 16
 ·refine wave16 h16 ?_
  split at hR
  ·rename_i h8; rw [if_pos h8]; exact hR
  ·rename_i h8; rw [if_neg h8]; exact hR
 ·rw [if_neg (by omega), if_neg h16] at hR
  refine Try.s78 ⟨by decide, ?_⟩
  rw [show ((32 : Int)) = ((32 : Nat) : Int) from rfl, tmodN]
  refine br_y (by omega) ?_
  rw [wrap_id (by omega) (by omega), show ((32 : Nat) : Int) - ((k % 32 : Nat) : Int) = ((32 - k % 32 : Nat) : Int) from by omega]
  refine wave16 (by omega) ⟨_, rfl, ?_⟩
  rw [show (32 - k % 32) % 32 = 32 - k % 32 from by omega]
  exact hR
theorem row_len (u : Nat) : ((List.range 8).map (cM u)).length = 8 := by simp
theorem c67 {u : Nat} (hu : u < 8) (hR : ∀ H', Ext H H' → R (.agg (ints ((List.range 8).map (cM u))).toArray) H') : CallsH Try.prog 67 #[.int .i64 (u : Nat)] H R := by
 refine Try.s67 ?_
 unfold Try.S67
 refine (St.nil H).alc fun b H1 hs1 => ?_
 have hs1 : St H H1 [.cell b (ints (List.replicate 8 0)).toArray _] := hs1
 intro X hX
 have hl := row_len u
 have go : ∀ k, k ≤ 8 → ∀ H2, St H H2 [.cell b (ints (fillA ((List.range 8).map (cM u)) k)).toArray 105] → X [.int .i64 (k : Nat)] H2 := upto fun k hk ih H2 hs2 => by
  refine hX _ H2 (br_dec (fun hlt => ?_) (fun hge => ?_))
  ·have hlt : k < 8 := by omega
   have nx : ∀ v H3, v = cM u k → St H H3 [.cell b (ints (fillA ((List.range 8).map (cM u)) k)).toArray 105] → 0 ≤ (k : Int) ∧ (k : Int) < ((8 : Nat) : Int) ∧ stAt H3 (Addr.add ⟨b, 0, none⟩ (Int.toNat (k : Int) * 1)) [Value.int .i64 v] fun H_7 => X [.int .i64 (IntKind.wrap .i64 ((k : Int) + (1 : Int)))] H_7 := fun v H3 hv hs3 => by
    refine ⟨by omega, by omega, ?_⟩
    rw [add_none, Nat.zero_add, Int.toNat_natCast, Nat.mul_one, wrap_id (by omega) (by omega)]
    refine hs3.putA 0 rfl (by rw [fillA_len (by omega)]; omega) fun H4 hs4 => ih hlt H4 ?_
    rw [hv, ← tab_getD (f := cM u) hlt, fillA_set (by omega)] at hs4
    exact hs4
   refine br_eq (fun h0 => nx _ H2 ?_ hs2) (fun h0 => ?_)
   ·have : u = 0 := by omega
    subst this; rfl
   ·have hm : (2 * k + 1) * u ≤ 15 * 7 := Nat.mul_le_mul (by omega) (by omega)
    have e : ((2 : Int) * (k : Nat) + 1) * (u : Nat) = (((2 * k + 1) * u : Nat) : Int) := by push_cast; rfl
    rw [wrap_id (n := (2 : Int) * (k : Nat)) (by omega) (by omega), wrap_id (n := (2 : Int) * (k : Nat) + 1) (by omega) (by omega), e, wrap_id (by omega) (by omega)]
    refine c78 ⟨_, rfl, nx _ H2 ?_ hs2⟩
    unfold cM
    rw [if_neg (by omega)]
  ·have : k = 8 := by omega
   subst this
   have e := fillA_all ((List.range 8).map (cM u))
   rw [hl] at e
   rw [e] at hs2
   refine ⟨_, by rw [intsA_size]; exact hl, rowIn_whole (hs2.block 0 rfl), by rw [intsA_size]; exact hl, ?_⟩
   refine hs2.putAllA 0 rfl (by rw [intsA_size]) fun H3 hs3 => ?_
   exact ⟨_, by rw [intsA_size]; exact hl, rowIn_whole (hs3.block 0 rfl), hR H3 hs3.ext⟩
 exact go 0 (by omega) H1 (by rw [fillA_zero, hl]; exact hs1)
theorem cT_len : cT.length = 64 := by simp [cT]
theorem cT_get {u x : Nat} (hu : u < 8) (hx : x < 8) : cT[u * 8 + x]? = some (cM u x) := by
 unfold cT
 rw [tab_get (by omega), show (u * 8 + x) / 8 = u from by omega, show (u * 8 + x) % 8 = x from by omega]
theorem c45 (hR : ∀ H', Ext H H' → R (.agg (ints cT).toArray) H') : CallsH Try.prog 45 #[] H R := by
 refine Try.s45 (_u := ()) ?_
 unfold Try.S45
 refine (St.nil H).alc fun b H1 hs1 => ?_
 rw [zeroA] at hs1
 intro X hX
 have hl := cT_len
 have go : ∀ k, k ≤ 8 → ∀ H2, St H H2 [.cell b (ints (fillA cT (8 * k))).toArray 106] → X [.int .i64 (k : Nat)] H2 := upto fun k hk ih H2 hs2 => by
  refine hX _ H2 (br_dec (fun hlt => ?_) (fun hge => ?_))
  ·have hlt : k < 8 := by omega
   refine c67 hlt fun H3 e3 => ⟨_, rfl, by omega, by omega, by rw [intsA_size]; exact row_len k, ?_⟩
   rw [add_none, Nat.zero_add, Int.toNat_natCast, wrap_id (by omega) (by omega)]
   have hs3 := hs2.step e3
   refine hs3.putRow 0 rfl (by rw [intsA_size, fillA_len (by omega), Array.length_toList, intsA_size, row_len]; omega) (fun v hv => ints_one _ v (by simpa using hv)) fun H4 hs4 => ih hlt H4 ?_
   have e : setL (ints (fillA cT (8 * k))).toArray.toList (k * 8) (ints ((List.range 8).map (cM k))).toArray.toList = ints (fillA cT (8 * (k + 1))) := by
    obtain rfl | rfl | rfl | rfl | rfl | rfl | rfl | rfl : k = 0 ∨ k = 1 ∨ k = 2 ∨ k = 3 ∨ k = 4 ∨ k = 5 ∨ k = 6 ∨ k = 7 := by omega
    all_goals rfl
   rw [e] at hs4
   exact hs4
  ·have : k = 8 := by omega
   subst this
   have e := fillA_all cT
   rw [hl] at e
   rw [e] at hs2
   refine ⟨_, by rw [intsA_size]; exact hl, rowIn_whole (hs2.block 0 rfl), by rw [intsA_size]; exact hl, ?_⟩
   refine hs2.putAllA 0 rfl (by rw [intsA_size]) fun H3 hs3 => ?_
   exact ⟨_, by rw [intsA_size]; exact hl, rowIn_whole (hs3.block 0 rfl), hR H3 hs3.ext⟩
 exact go 0 (by omega) H1 (by rw [Nat.mul_zero, fillA_zero, hl]; exact hs1)
end Go.Proofs
namespace Go.Proofs
open Go.Sh
variable {H0 H : Heap} {σ : List Rs} {R : Value → Heap → Prop}
def halfV (s : List Int) (y u : Nat) : Int := sumN 8 fun x => s.getD (y * 8 + x) 0 * cM u x
def fwdV (s : List Int) (v u : Nat) : Int := sumN 8 fun y => halfV s y u * cM v y
def nearM (n : Int) : Int := (n + 33554432) / 67108864
def fwdM (s : List Int) : List Int := (List.range 64).map fun i => nearM (fwdV s (i / 8) (i % 8))
def Small (s : List Int) : Prop := s.length = 64 ∧ ∀ i, -255 ≤ s.getD i 0 ∧ s.getD i 0 ≤ 255
theorem fwdM_len (s : List Int) : (fwdM s).length = 64 := tab_len _ _
theorem term_bd {s : List Int} (h : Small s) (j u x : Nat) : -1044480 ≤ s.getD j 0 * cM u x ∧ s.getD j 0 * cM u x ≤ 1044480 := by
 have := mul_bd (h.2 j) (cM_rng u x); omega
theorem half_part {s : List Int} (h : Small s) (y u : Nat) {n : Nat} (hn : n ≤ 8) : -8355840 ≤ sumN n (fun x => s.getD (y * 8 + x) 0 * cM u x) ∧ sumN n (fun x => s.getD (y * 8 + x) 0 * cM u x) ≤ 8355840 := by
 have := sumN_bd (f := fun x => s.getD (y * 8 + x) 0 * cM u x) (B := 1044480) n fun x _ => term_bd h _ _ _
 omega
theorem half_bd {s : List Int} (h : Small s) (y u : Nat) : -8355840 ≤ halfV s y u ∧ halfV s y u ≤ 8355840 := half_part h y u (Nat.le_refl 8)
theorem fterm_bd {s : List Int} (h : Small s) (y u v : Nat) : -34225520640 ≤ halfV s y u * cM v y ∧ halfV s y u * cM v y ≤ 34225520640 := by
 have := mul_bd (half_bd h y u) (cM_rng v y); omega
theorem fwd_part {s : List Int} (h : Small s) (v u : Nat) {n : Nat} (hn : n ≤ 8) : -273804165120 ≤ sumN n (fun y => halfV s y u * cM v y) ∧ sumN n (fun y => halfV s y u * cM v y) ≤ 273804165120 := by
 have := sumN_bd (f := fun y => halfV s y u * cM v y) (B := 34225520640) n fun y _ => fterm_bd h _ _ _
 omega
theorem fwd_bd {s : List Int} (h : Small s) (v u : Nat) : -273804165120 ≤ fwdV s v u ∧ fwdV s v u ≤ 273804165120 := fwd_part h v u (Nat.le_refl 8)
theorem near_bd {s : List Int} (h : Small s) (v u : Nat) : -5000 ≤ nearM (fwdV s v u) ∧ nearM (fwdV s v u) ≤ 5000 := by
 have := fwd_bd h v u
 unfold nearM; omega
theorem shr26 (x : Int) : shrI .i64 x (26 : Int) = x / 67108864 := by
 unfold shrI
 rw [show min (26 : Int).toNat (IntKind.bits .i64) = 26 from rfl]
 exact Int.fdiv_eq_ediv_of_nonneg _ (by decide)
theorem c46 {n : Int} (h : -1000000000000000 ≤ n ∧ n ≤ 1000000000000000) (hR : R (.int .i64 (nearM n)) H) : CallsH Try.prog 46 #[.int .i64 n] H R := by
 refine Try.s46 ⟨by decide, ?_⟩
 rw [wrap_id (by omega) (by omega), shr26]
 exact hR
theorem ix1 {i x : Nat} (hi : i < 64) (hx : x < 8) : IntKind.wrap .i64 (IntKind.wrap .i64 (IntKind.wrap .i64 (Int.tdiv (i : Int) 8) * 8) + (x : Int)) = ((i / 8 * 8 + x : Nat) : Int) := by
 rw [show (8 : Int) = ((8 : Nat) : Int) from rfl, tdivN, wN (by omega), wrap_id (n := ((i / 8 : Nat) : Int) * ((8 : Nat) : Int)) (by omega) (by omega), wrap_id (by omega) (by omega)]; omega
theorem ix2 {i y : Nat} (hi : i < 64) (hy : y < 8) : IntKind.wrap .i64 (IntKind.wrap .i64 ((y : Int) * 8) + Int.tmod (i : Int) 8) = ((y * 8 + i % 8 : Nat) : Int) := by
 rw [show (8 : Int) = ((8 : Nat) : Int) from rfl, tmodN, wrap_id (n := (y : Int) * ((8 : Nat) : Int)) (by omega) (by omega), wrap_id (by omega) (by omega)]; omega
theorem ix3 (i : Nat) : Int.tmod (i : Int) 8 = ((i % 8 : Nat) : Int) := tmodN i 8
theorem ix4 {i : Nat} (hi : i < 1000000) : IntKind.wrap .i64 (Int.tdiv (i : Int) 8) = ((i / 8 : Nat) : Int) := by
 rw [show (8 : Int) = ((8 : Nat) : Int) from rfl, tdivN, wN (by omega)]
theorem w1 {i : Nat} (hi : i < 1000000000) : IntKind.wrap .i64 ((i : Int) + 1) = ((i + 1 : Nat) : Int) := by rw [wrap_id (by omega) (by omega)]; omega
set_option maxHeartbeats 1000000 in
theorem c26 {s : List Int} (h : Small s) (hR : ∀ H', Ext H H' → R (.agg (ints (fwdM s)).toArray) H') : CallsH Try.prog 26 #[.agg (ints s).toArray] H R := by
 have hsl := h.1
 have hcl := cT_len
 refine Try.s26 ?_
 unfold Try.S26
 refine (St.nil H).alc fun b2 H1 hs1 => hs1.alc fun b4 H2 hs2 => c45 fun H3 e3 => ⟨_, rfl, ?_⟩
 refine (hs2.step e3).alc fun b9 H4 hs4 => ⟨by rw [intsA_size]; exact hcl, hs4.putAllA 0 rfl (by rw [hcl]; simp) fun H5 hs5 => hs5.alc fun b12 H6 hs6 => hs6.alc fun b14 H7 hs7 => ?_⟩
 simp only [zeroA, List.set_cons_zero] at hs7
 clear hs1 hs2 hs4 hs5 hs6
 intro X hX
 have hl1 := tab_len 64 fun i => halfV s (i / 8) (i % 8)
 generalize hL1 : (List.range 64).map (fun i => halfV s (i / 8) (i % 8)) = L1 at hl1
 have hg1 : ∀ i, i < 64 → L1.getD i 0 = halfV s (i / 8) (i % 8) := fun i hi => by rw [← hL1]; exact tab_getD hi
 have hlf := fwdM_len s
 have two : ∀ H8, St H H8 [.cell b14 (ints (List.replicate 64 0)).toArray 40, .cell b12 (ints L1).toArray 40, .cell b9 (ints cT).toArray 106, .cell b4 (ints (List.replicate 64 0)).toArray 40, .cell b2 (ints s).toArray 40] → X [.int .i64 ((64 : Nat) : Int)] H8 := fun H8 hs8 => by
  refine hX _ H8 (br_n (by omega) ?_)
  intro Y hY
  have go : ∀ i, i ≤ 64 → ∀ H9, St H H9 [.cell b14 (ints (fillA (fwdM s) i)).toArray 40, .cell b12 (ints L1).toArray 40, .cell b9 (ints cT).toArray 106, .cell b4 (ints (List.replicate 64 0)).toArray 40, .cell b2 (ints s).toArray 40] → Y [.int .i64 (i : Nat)] H9 := upto fun i hi ih H9 hs9 => by
   refine hY _ H9 (br_dec (fun hlt => ?_) (fun hge => ?_))
   ·have hlt : i < 64 := by omega
    rw [w1 (by omega)]
    intro Z hZ
    have inner : ∀ y, y ≤ 8 → Z [.int .i64 (sumN y fun y => halfV s y (i % 8) * cM (i / 8) y), .int .i64 (y : Nat)] H9 := upto fun y hy ihy => by
     refine hZ _ _ H9 (br_dec (fun hlty => ?_) (fun hgey => ?_))
     ·have hlty : y < 8 := by omega
      rw [ix2 hlt hlty, ix4 (by omega), w1 (by omega)]
      have v1 : L1[y * 8 + i % 8]? = some (halfV s y (i % 8)) := by
       rw [getD_some L1 0 (by omega), hg1 _ (by omega), show (y * 8 + i % 8) / 8 = y from by omega, show (y * 8 + i % 8) % 8 = i % 8 from by omega]
      have v2 : cT[(i / 8) * 8 + y]? = some (cM (i / 8) y) := cT_get (by omega) hlty
      refine ⟨by decide, by omega, by omega, halfV s y (i % 8), ?_, by decide, by omega, by omega, by omega, by omega, cM (i / 8) y, ?_, ?_⟩
      ·rw [add_none, Nat.zero_add, Int.toNat_natCast, Nat.mul_one]; exact hs9.rdA 1 rfl v1
      ·rw [add_none, add_none, Nat.zero_add, Int.toNat_natCast, Int.toNat_natCast, Nat.mul_one]; exact hs9.rdA 2 rfl v2
      ·have t1 := fterm_bd h y (i % 8) (i / 8)
       have t2 := fwd_part h (i / 8) (i % 8) (n := y) (by omega)
       rw [wrap_id (n := halfV s y (i % 8) * cM (i / 8) y) (by omega) (by omega), wrap_id (by omega) (by omega)]
       exact ihy hlty
     ·have : y = 8 := by omega
      subst this
      have t2 := fwd_bd h (i / 8) (i % 8)
      unfold fwdV at t2
      refine c46 (by omega) ⟨_, rfl, by omega, by omega, ?_⟩
      rw [add_none, Nat.zero_add, Int.toNat_natCast, Nat.mul_one]
      refine hs9.putA 0 rfl (by rw [fillA_len (by omega)]; omega) fun H10 hs10 => ih hlt H10 ?_
      have e : nearM (sumN 8 fun y => halfV s y (i % 8) * cM (i / 8) y) = (fwdM s).getD i 0 := (tab_getD (f := fun i => nearM (fwdV s (i / 8) (i % 8))) hlt).symm
      rw [e, fillA_set (by omega)] at hs10
      exact hs10
    exact inner 0 (by omega)
   ·have : i = 64 := by omega
    subst this
    have e := fillA_all (fwdM s)
    rw [hlf] at e
    rw [e] at hs9
    refine ⟨_, by rw [intsA_size]; exact hlf, rowIn_whole (hs9.block 0 rfl), by rw [intsA_size]; exact hlf, ?_⟩
    refine hs9.putAllA 3 rfl (by rw [intsA_size, hlf]; simp) fun H10 hs10 => ?_
    exact ⟨_, by rw [intsA_size]; exact hlf, rowIn_whole (hs10.block 3 rfl), hR H10 hs10.ext⟩
  exact go 0 (by omega) H8 (by rw [fillA_zero, hlf]; exact hs8)
 have go : ∀ i, i ≤ 64 → ∀ H9, St H H9 [.cell b14 (ints (List.replicate 64 0)).toArray 40, .cell b12 (ints (fillA L1 i)).toArray 40, .cell b9 (ints cT).toArray 106, .cell b4 (ints (List.replicate 64 0)).toArray 40, .cell b2 (ints s).toArray 40] → X [.int .i64 (i : Nat)] H9 := upto fun i hi ih H9 hs9 => by
  by_cases hlt : i < 64
  ·refine hX _ H9 (br_y (by omega) ?_)
   rw [w1 (by omega)]
   intro Z hZ
   have inner : ∀ x, x ≤ 8 → ∀ H10, St H H10 [.cell b14 (ints (List.replicate 64 0)).toArray 40, .cell b12 (ints ((fillA L1 i).set i (sumN x fun x => s.getD (i / 8 * 8 + x) 0 * cM (i % 8) x))).toArray 40, .cell b9 (ints cT).toArray 106, .cell b4 (ints (List.replicate 64 0)).toArray 40, .cell b2 (ints s).toArray 40] → Z [.int .i64 (x : Nat)] H10 := upto fun x hx ihx H10 hs10 => by
    refine hZ _ H10 (br_dec (fun hltx => ?_) (fun hgex => ?_))
    ·have hltx : x < 8 := by omega
     rw [ix1 hlt hltx, ix3, w1 (by omega)]
     have v1 := getD_some s 0 (i := i / 8 * 8 + x) (by omega)
     have v2 : cT[(i % 8) * 8 + x]? = some (cM (i % 8) x) := cT_get (by omega) hltx
     have v0 : ((fillA L1 i).set i (sumN x fun x => s.getD (i / 8 * 8 + x) 0 * cM (i % 8) x))[i]? = some (sumN x fun x => s.getD (i / 8 * 8 + x) 0 * cM (i % 8) x) := List.getElem?_set_self (by rw [fillA_len (by omega)]; omega)
     refine ⟨by omega, by omega, (sumN x fun x => s.getD (i / 8 * 8 + x) 0 * cM (i % 8) x), ?_, by decide, by omega, by omega, s.getD (i / 8 * 8 + x) 0, ?_, by decide, by omega, by omega, by omega, by omega, cM (i % 8) x, ?_, by omega, by omega, ?_⟩
     ·rw [add_none, Nat.zero_add, Int.toNat_natCast, Nat.mul_one]; exact hs10.rdA 1 rfl v0
     ·rw [add_none, Nat.zero_add, Int.toNat_natCast, Nat.mul_one]; exact hs10.rdA 4 rfl v1
     ·rw [add_none, add_none, Nat.zero_add, Int.toNat_natCast, Int.toNat_natCast, Nat.mul_one]; exact hs10.rdA 2 rfl v2
     ·have t1 := term_bd h (i / 8 * 8 + x) (i % 8) x
      have t2 := half_part h (i / 8) (i % 8) (n := x) (by omega)
      rw [wrap_id (n := s.getD (i / 8 * 8 + x) 0 * cM (i % 8) x) (by omega) (by omega), wrap_id (by omega) (by omega), add_none, Nat.zero_add, Int.toNat_natCast, Nat.mul_one]
      refine hs10.putA 1 rfl (by rw [List.length_set, fillA_len (by omega)]; omega) fun H11 hs11 => ihx hltx H11 ?_
      simp only [List.set_set, List.set_cons_succ, List.set_cons_zero] at hs11
      exact hs11
    ·have : x = 8 := by omega
     subst this
     refine ih hlt H10 ?_
     have e : (sumN 8 fun x => s.getD (i / 8 * 8 + x) 0 * cM (i % 8) x) = L1.getD i 0 := by rw [hg1 i hlt]; rfl
     rw [e, fillA_set (by omega)] at hs10
     exact hs10
   refine inner 0 (by omega) H9 ?_
   rw [sumN, fillA_set0 (by omega)]; exact hs9
  ·have : i = 64 := by omega
   subst this
   have e := fillA_all L1
   rw [hl1] at e
   rw [e] at hs9
   exact two H9 hs9
 exact go 0 (by omega) H7 (by rw [fillA_zero, hl1]; exact hs7)
def inStepsM (f t : Int) : Int := if f < 0 then -((-f + t / 2) / t) else (f + t / 2) / t
theorem quo_bd {n t : Int} (h0 : 0 ≤ n) (ht : 1 ≤ t) : 0 ≤ n / t ∧ n / t ≤ n := ⟨Int.ediv_nonneg h0 (by omega), Int.ediv_le_self _ h0⟩
theorem inPos {f t : Int} (hf : 0 ≤ f ∧ f ≤ 10000) (ht : 1 ≤ t ∧ t ≤ 255) (hR : R (.int .i64 ((f + t / 2) / t)) H) : CallsH Try.prog 27 #[.int .i64 f, .int .i64 t] H R := by
 refine Try.s27 (br_n (by omega) ⟨by decide, by omega, ?_⟩)
 have := quo_bd (n := f + t / 2) (t := t) (by omega) (by omega)
 rw [Int.tdiv_eq_ediv_of_nonneg (a := t) (by omega), wrap_id (n := t / 2) (by omega) (by omega), wrap_id (n := f + t / 2) (by omega) (by omega), Int.tdiv_eq_ediv_of_nonneg (by omega), wrap_id (by omega) (by omega)]
 exact hR
theorem c27 {f t : Int} (hf : -5000 ≤ f ∧ f ≤ 5000) (ht : 1 ≤ t ∧ t ≤ 255) (hR : R (.int .i64 (inStepsM f t)) H) : CallsH Try.prog 27 #[.int .i64 f, .int .i64 t] H R := by
 unfold inStepsM at hR
 by_cases h : f < 0
 ·rw [if_pos h] at hR
  refine Try.s27 (br_y h ?_)
  rw [wrap_id (by omega) (by omega), Int.zero_sub]
  have := quo_bd (n := -f + t / 2) (t := t) (by omega) (by omega)
  refine inPos (by omega) ht ⟨_, rfl, ?_⟩
  rw [wrap_id (by omega) (by omega), Int.zero_sub]
  exact hR
 ·rw [if_neg h] at hR
  exact inPos (by omega) ht hR
end Go.Proofs
namespace Go.Proofs
open Go.Sh
variable {H0 H : Heap} {σ : List Rs} {R : Value → Heap → Prop}
def T0 : List Int := [16, 11, 10, 16, 24, 40, 51, 61, 12, 12, 14, 19, 26, 58, 60, 55, 14, 13, 16, 24, 40, 57, 69, 56, 14, 17, 22, 29, 51, 87, 80, 62, 18, 22, 37, 56, 68, 109, 103, 77, 24, 35, 55, 64, 81, 104, 113, 92, 49, 64, 78, 87, 103, 121, 120, 101, 72, 92, 95, 98, 112, 100, 103, 99]
def corner : List Int := [17, 18, 24, 47, 18, 21, 26, 66, 24, 26, 56, 99, 47, 66, 99, 99]
def tbl (v : Nat) : List Int := (List.range 64).map fun i => if i % 8 < 4 ∧ i / 8 < v then corner.getD (i / 8 * 4 + i % 8) 0 else 99
def T (d : Bool) : List Int := if d then tbl 4 else T0
def facM (q : Int) : Int := if q < 50 then 5000 / q else 200 - 2 * q
def stepV (q : Int) (d : Bool) (i : Nat) : Int := min 255 (max 1 (((T d).getD i 0 * facM q + 50) / 100))
def stepsM (q : Int) (d : Bool) : List Int := (List.range 64).map (stepV q d)
theorem stepsM_len (q : Int) (d : Bool) : (stepsM q d).length = 64 := tab_len _ _
theorem stepV_rng (q : Int) (d : Bool) (i : Nat) : 1 ≤ stepV q d i ∧ stepV q d i ≤ 255 := by unfold stepV; omega
theorem T_len (d : Bool) : (T d).length = 64 := by cases d <;> rfl
theorem T_rng (d : Bool) (i : Nat) : 0 ≤ (T d).getD i 0 ∧ (T d).getD i 0 ≤ 121 := by
 by_cases h : i < 64
 ·have h0 : ∀ i : Fin 64, 0 ≤ (T false).getD i.val 0 ∧ (T false).getD i.val 0 ≤ 121 := by decide +kernel
  have h1 : ∀ i : Fin 64, 0 ≤ (T true).getD i.val 0 ∧ (T true).getD i.val 0 ≤ 121 := by decide +kernel
  cases d
  ·exact h0 ⟨i, h⟩
  ·exact h1 ⟨i, h⟩
 ·have := T_len d
  rw [List.getD_eq_getElem?_getD, List.getElem?_eq_none (by omega)]; decide
theorem fac_rng {q : Int} (h : 1 ≤ q ∧ q ≤ 100) : 0 ≤ facM q ∧ facM q ≤ 5000 := by
 unfold facM
 split
 ·have := quo_bd (n := 5000) (t := q) (by omega) (by omega); omega
 ·omega
theorem tf_rng {q : Int} (h : 1 ≤ q ∧ q ≤ 100) (d : Bool) (i : Nat) : 0 ≤ (T d).getD i 0 * facM q ∧ (T d).getD i 0 * facM q ≤ 605000 := by
 have h1 := T_rng d i
 have h2 := fac_rng h
 have := mul_bd (A := 121) (B := 5000) (x := (T d).getD i 0) (y := facM q) (by omega) (by omega)
 exact ⟨Int.mul_nonneg h1.1 h2.1, by omega⟩
theorem mul64 (hR : R (.tuple #[.int .u64 0, .int .u64 64]) H) : CallsH Try.prog 80 #[.int .u64 1, .int .u64 64] H R :=
 Try.s80 ⟨by decide, by decide, by decide, by decide, by decide, Eq.mp (by kernel_rfl) hR⟩
theorem rp_take {n : Nat} (h : n ≤ 32) : (((List.replicate n (99 : Int) ++ List.replicate (64 - n) 0).drop 0).take n) = List.replicate n 99 := by
 rw [List.drop_zero, List.take_append_of_le_length (by simp)]; simp
theorem rp_put {n : Nat} (h : n ≤ 32) : (List.replicate n (99 : Int) ++ List.replicate (64 - n) 0).take n ++ List.replicate n 99 ++ (List.replicate n (99 : Int) ++ List.replicate (64 - n) 0).drop (n + (List.replicate n (99 : Int)).length) = List.replicate (2 * n) 99 ++ List.replicate (64 - 2 * n) 0 := by
 rw [List.length_replicate, List.take_append_of_le_length (by simp), List.take_of_length_le (by simp), List.drop_append, List.drop_of_length_le (by simp), List.nil_append, List.length_replicate, List.drop_replicate, List.replicate_append_replicate]
 congr 2 <;> omega
theorem repeat99 {b2 : Nat} {ty : TypeId} (hb : H[b2]? = some (.cells #[Value.int .i64 99] ty)) (hR : ∀ b H', St H H' [.cell b (ints (List.replicate 64 99)).toArray 3] → R (.slice (some ⟨b, 0, none⟩) 64 64) H') :
    CallsH Try.prog 57 #[.slice (some ⟨b2, 0, none⟩) 1 1, .int .i64 (64 : Int)] H R := by
  refine Try.s57 ?_
  unfold Try.S57
  intro J hJ
  refine br_n (by decide) (hJ H (Try.s71 ?_))
  rw [show IntKind.wrap .u64 (((1 : Nat) : Nat) : Int) = 1 from by decide, show IntKind.wrap .u64 (64 : Int) = 64 from by decide]
  refine mul64 ⟨_, _, rfl, _, _, rfl, ?_⟩
  intro K hK
  refine br_n (by decide) (br_n (by decide) (hK H ?_))
  rw [show IntKind.wrap .i64 (64 : Int) = 64 from by decide, show Int.toNat (64 : Int) = 64 from rfl]
  refine ⟨by decide, by decide, by decide, by decide, (St.nil H).alc fun b H1 hs1 => ?_⟩
  rw [repsA] at hs1
  refine ⟨(ints [99]).toArray, ⟨rfl, rowIn_whole (hs1.ext _ _ hb)⟩, ?_⟩
  refine hs1.putRowA 0 rfl (by simp) fun H2 hs2 => ?_
  have hs2 : St H H2 [.cell b (ints (List.replicate 1 99 ++ List.replicate (64 - 1) 0)).toArray 3] := hs2
  intro X hX
  have step : ∀ n : Nat, 1 ≤ n → n ≤ 32 → (∀ H4, St H H4 [.cell b (ints (List.replicate (2 * n) 99 ++ List.replicate (64 - 2 * n) 0)).toArray 3] → X [.int .i64 ((2 * n : Nat) : Int)] H4) → ∀ H3, St H H3 [.cell b (ints (List.replicate n 99 ++ List.replicate (64 - n) 0)).toArray 3] → X [.int .i64 (n : Nat)] H3 := fun n h1 h32 nx H3 hs3 => by
    refine hX _ H3 (br_y (by omega) ⟨by omega, by omega, by omega, by omega, (ints (List.replicate n 99)).toArray, ?_, ?_⟩)
    · rw [if_neg (by decide)]
      show rowOf H3 (some (Addr.add ⟨b, 0, none⟩ (0 * 1))) _ _
      simp only [add_none, Int.toNat_natCast, Nat.mul_one, Nat.zero_add]
      rw [show min (n - 0) (64 - n) = n from by omega]
      exact hs3.rowA 0 rfl (rp_take h32).symm (by rw [List.length_append, List.length_replicate, List.length_replicate]; omega)
    · rw [Int.toNat_natCast, if_neg (by omega), show min (n - 0) (64 - n) = n from by omega, wrap_id (by omega) (by omega), show (n : Int) + (n : Nat) = ((2 * n : Nat) : Int) from by omega]
      show stAt H3 (Addr.add ⟨b, 0, none⟩ (n * 1)) _ _
      rw [add_none, Nat.zero_add, Nat.mul_one]
      refine hs3.putRowA 0 rfl (by simp; omega) fun H4 hs4 => nx H4 ?_
      rw [rp_put h32] at hs4
      exact hs4
  refine step 1 (by omega) (by omega) (step 2 (by omega) (by omega) (step 4 (by omega) (by omega) (step 8 (by omega) (by omega) (step 16 (by omega) (by omega) (step 32 (by omega) (by omega) fun H4 hs4 => ?_))))) H2 hs2
  exact hX _ H4 (br_n (by decide) (hR b H4 hs4))
theorem tbl_put : ∀ v : Nat, v < 4 → (tbl v).take (8 * v) ++ (corner.drop (4 * v)).take 4 ++ (tbl v).drop (8 * v + 4) = tbl (v + 1) := fun v hv => by
 obtain rfl | rfl | rfl | rfl : v = 0 ∨ v = 1 ∨ v = 2 ∨ v = 3 := by omega
 all_goals decide +kernel
theorem tbl_len (v : Nat) : (tbl v).length = 64 := tab_len _ _
theorem c35 {d : Bool} (hR : ∀ b H', St H H' [.cell b (ints (T d)).toArray 3] → R (.slice (some ⟨b, 0, none⟩) 64 64) H') : CallsH Try.prog 35 #[.bool d] H R := by
  refine Try.s35 (br_i (fun hd => ?_) (fun hd => ?_))
  · subst hd
    refine (St.nil H).alc fun b2 H1 hs1 => repeat99 (hs1.block 0 rfl) fun b H2 hs2 => ⟨_, _, _, rfl, ?_⟩
    refine (hs1.call hs2).alc fun b7 H3 hs3 => hs3.alc fun b9 H4 hs4 => hs4.alc fun b11 H5 hs5 => hs5.alc fun b13 H6 hs6 => hs6.alc fun b15 H7 hs7 => ?_
    clear hs1 hs2 hs3 hs4 hs5 hs6
    intro X hX
    -- a row is laid
    have step : ∀ (v : Nat) (bl : Nat) (i : Nat), v < 4 → (∀ H9, St H H9 [.cell b15 #[.slice (some ⟨b7, 0, none⟩) 4 4, .slice (some ⟨b9, 0, none⟩) 4 4, .slice (some ⟨b11, 0, none⟩) 4 4, .slice (some ⟨b13, 0, none⟩) 4 4] 48, .cell b13 (ints [47, 66, 99, 99]).toArray 3, .cell b11 (ints [24, 26, 56, 99]).toArray 3, .cell b9 (ints [18, 21, 26, 66]).toArray 3, .cell b7 (ints [17, 18, 24, 47]).toArray 3, .cell b (ints (tbl (v + 1))).toArray 3, .cell b2 #[Value.int .i64 99] 3] → X [.int .i64 ((v + 1 : Nat) : Int)] H9) →
        ∀ H8, St H H8 [.cell b15 #[.slice (some ⟨b7, 0, none⟩) 4 4, .slice (some ⟨b9, 0, none⟩) 4 4, .slice (some ⟨b11, 0, none⟩) 4 4, .slice (some ⟨b13, 0, none⟩) 4 4] 48, .cell b13 (ints [47, 66, 99, 99]).toArray 3, .cell b11 (ints [24, 26, 56, 99]).toArray 3, .cell b9 (ints [18, 21, 26, 66]).toArray 3, .cell b7 (ints [17, 18, 24, 47]).toArray 3, .cell b (ints (tbl v)).toArray 3, .cell b2 #[Value.int .i64 99] 3] →
        cell H8 ⟨b15, v, none⟩ = some (.slice (some ⟨bl, 0, none⟩) 4 4) → rowOf H8 (some ⟨bl, 0, none⟩) 4 (ints ((corner.drop (4 * v)).take 4)).toArray → X [.int .i64 (v : Nat)] H8 := fun v bl i hv nx H8 hs8 hc hro => by
      have w8 : IntKind.wrap .i64 ((8 : Int) * (v : Nat)) = ((8 * v : Nat) : Int) := by rw [wrap_id (by omega) (by omega)]; omega
      have htl := tbl_len v
      have hcl : ((corner.drop (4 * v)).take 4).length = 4 := by simp [corner]; omega
      refine hX _ H8 (br_y (by omega) ⟨_, rfl, by omega, by omega, some ⟨bl, 0, none⟩, 4, 4, ?_, ?_⟩)
      · rw [add_none, Nat.zero_add, Int.toNat_natCast, Nat.mul_one]; exact hc
      · rw [w8, w1 (by omega)]
        refine ⟨by omega, by omega, (ints ((corner.drop (4 * v)).take 4)).toArray, ?_, ?_⟩
        · rw [show min 4 (64 - Int.toNat ((8 * v : Nat) : Int)) * 1 = 4 from by omega]; exact hro
        · rw [Int.toNat_natCast, if_neg (by omega)]
          show stAt H8 (Addr.add ⟨b, 0, none⟩ (8 * v * 1)) _ _
          rw [add_none, Nat.zero_add, Nat.mul_one]
          refine hs8.putRowA 5 rfl (by omega) fun H9 hs9 => nx H9 ?_
          rw [hcl, tbl_put v hv] at hs9
          exact hs9
    have e0 : (ints (List.replicate 64 99)).toArray = (ints (tbl 0)).toArray := by rw [show (List.replicate 64 99 : List Int) = tbl 0 from by decide +kernel]
    have hs7 : St H H7 [.cell b15 #[.slice (some ⟨b7, 0, none⟩) 4 4, .slice (some ⟨b9, 0, none⟩) 4 4, .slice (some ⟨b11, 0, none⟩) 4 4, .slice (some ⟨b13, 0, none⟩) 4 4] 48, .cell b13 (ints [47, 66, 99, 99]).toArray 3, .cell b11 (ints [24, 26, 56, 99]).toArray 3, .cell b9 (ints [18, 21, 26, 66]).toArray 3, .cell b7 (ints [17, 18, 24, 47]).toArray 3, .cell b (ints (tbl 0)).toArray 3, .cell b2 #[Value.int .i64 99] 3] := by rw [← e0]; exact hs7
    refine step 0 b7 4 (by omega) (fun H8 hs8 => step 1 b9 3 (by omega) (fun H9 hs9 => step 2 b11 2 (by omega) (fun H10 hs10 => step 3 b13 1 (by omega) (fun H11 hs11 => ?_) H10 hs10 (hs10.get 0 rfl rfl) ⟨rfl, rowIn_whole (hs10.block 1 rfl)⟩) H9 hs9 (hs9.get 0 rfl rfl) ⟨rfl, rowIn_whole (hs9.block 2 rfl)⟩) H8 hs8 (hs8.get 0 rfl rfl) ⟨rfl, rowIn_whole (hs8.block 3 rfl)⟩) H7 hs7 (hs7.get 0 rfl rfl) ⟨rfl, rowIn_whole (hs7.block 4 rfl)⟩
    exact hX _ H11 (br_n (by decide) (hR b H11 ((hs11.front 5 rfl).take 1)))
  · subst hd
    exact (St.nil H).alc fun b H1 hs1 => hR b H1 hs1
theorem fac_eq {q : Int} (h : 1 ≤ q ∧ q ≤ 100) : (q < 50 → IntKind.wrap .i64 (Int.tdiv (5000 : Int) q) = facM q) ∧ (¬ q < 50 → IntKind.wrap .i64 ((200 : Int) - IntKind.wrap .i64 ((2 : Int) * q)) = facM q) := by
 have hf := fac_rng h
 unfold facM at *
 refine ⟨fun h' => ?_, fun h' => ?_⟩
 ·rw [if_pos h'] at hf ⊢
  rw [Int.tdiv_eq_ediv_of_nonneg (by omega), wrap_id (by omega) (by omega)]
 ·rw [if_neg h'] at hf ⊢
  rw [wrap_id (n := 2 * q) (by omega) (by omega), wrap_id (by omega) (by omega)]
theorem c14 {q : Int} {d : Bool} (hbad : ¬ (1 ≤ q ∧ q ≤ 100) → ∀ H', Ext H H' → R (.tuple #[.agg (ints (List.replicate 64 0)).toArray, .bool false]) H')
    (hR : 1 ≤ q ∧ q ≤ 100 → ∀ H', Ext H H' → R (.tuple #[.agg (ints (stepsM q d)).toArray, .bool true]) H') : CallsH Try.prog 14 #[.int .i64 q, .bool d] H R := by
  have hsl := stepsM_len q d
  refine Try.s14 ?_
  unfold Try.S14
  refine (St.nil H).alc fun b3 H1 hs1 => hs1.alc fun b5 H2 hs2 => ?_
  simp only [zeroA] at hs2
  intro J hJ
  have hz : (List.replicate 64 (0 : Int)).length = 64 := by simp
  have none_ : ¬ (1 ≤ q ∧ q ≤ 100) → ∃ v24 : Array Value, v24.size = 64 ∧ rowIn H2 ⟨b5, 0, none⟩ v24 ∧ v24.size = 64 ∧ stAt H2 ⟨b3, 0, none⟩ (Array.toList v24) fun H_25 => ∃ res26 : Array Value, res26.size = 64 ∧ rowIn H_25 ⟨b3, 0, none⟩ res26 ∧ R (Value.tuple #[Value.agg res26, Value.bool false]) H_25 := fun hn => by
    refine ⟨_, by rw [intsA_size]; exact hz, rowIn_whole (hs2.block 0 rfl), by rw [intsA_size]; exact hz, ?_⟩
    refine hs2.putAllA 1 rfl (by simp [ints]) fun H3 hs3 => ?_
    exact ⟨_, by rw [intsA_size]; exact hz, rowIn_whole (hs3.block 1 rfl), hbad hn H3 hs3.ext⟩
  refine br_dec (fun h => none_ (by omega)) (fun h1 => br_dec (fun h => none_ (by omega)) (fun h2 => hJ H2 ?_))
  have hq : 1 ≤ q ∧ q ≤ 100 := by omega
  have hR := hR hq
  have hTl := T_len d
  intro K hK
  have nx : ∀ s, s = facM q → K [.int .i64 s] H2 := fun s hs => by
    subst hs
    refine hK _ H2 (c35 fun b H3 hs3 => ⟨_, _, _, rfl, ?_⟩)
    have hs3 := hs2.call hs3
    intro X hX
    have go : ∀ i, i ≤ 64 → ∀ H4, St H H4 [.cell b (ints (T d)).toArray 3, .cell b5 (ints (fillA (stepsM q d) i)).toArray 40, .cell b3 (ints (List.replicate 64 0)).toArray 40] → X [.int .i64 (i : Nat)] H4 := upto fun i hi ih H4 hs4 => by
      refine hX _ H4 (br_dec (fun hlt => ?_) (fun hge => ?_))
      · have hlt : i < 64 := by omega
        have v1 := getD_some (T d) 0 (i := i) (by omega)
        have t1 := tf_rng hq d i
        refine ⟨_, rfl, by omega, by omega, (T d).getD i 0, ?_, by decide, by omega, by omega, ?_⟩
        · rw [add_none, Nat.zero_add, Int.toNat_natCast, Nat.mul_one]; exact hs4.rdA 0 rfl v1
        · rw [wrap_id (n := (T d).getD i 0 * facM q) (by omega) (by omega), wrap_id (n := (T d).getD i 0 * facM q + 50) (by omega) (by omega), Int.tdiv_eq_ediv_of_nonneg (by omega), wrap_id (by omega) (by omega), add_none, Nat.zero_add, Int.toNat_natCast, Nat.mul_one, w1 (by omega)]
          refine hs4.putA 1 rfl (by rw [fillA_len (by omega)]; omega) fun H5 hs5 => ih hlt H5 ?_
          have e : min 255 (max 1 (((T d).getD i 0 * facM q + 50) / 100)) = (stepsM q d).getD i 0 := (tab_getD (f := stepV q d) hlt).symm
          rw [e, fillA_set (by omega)] at hs5
          exact hs5
      · have : i = 64 := by omega
        subst this
        have e := fillA_all (stepsM q d)
        rw [hsl] at e
        rw [e] at hs4
        refine ⟨_, by rw [intsA_size]; exact hsl, rowIn_whole (hs4.block 1 rfl), by rw [intsA_size]; exact hsl, ?_⟩
        refine hs4.putAllA 2 rfl (by rw [intsA_size, hsl]; simp) fun H5 hs5 => ?_
        exact ⟨_, by rw [intsA_size]; exact hsl, rowIn_whole (hs5.block 2 rfl), hR H5 hs5.ext⟩
    exact go 0 (by omega) H3 (by rw [fillA_zero, hsl]; exact hs3)
  refine br_dec (fun h => ⟨by omega, nx _ ((fac_eq hq).1 h)⟩) (fun h => nx _ ((fac_eq hq).2 h))
end Go.Proofs
namespace Go.Proofs
open Go.Sh
variable {H0 H : Heap} {σ : List Rs} {R : Value → Heap → Prop}
def cutM (n : Int) : Int := min 255 (max 0 n)
def brightM (r g b : Int) (k : Nat) : Int := match k with
 | 0 => cutM ((19595 * r + 38470 * g + 7471 * b + 32768) / 65536)
 | 1 => cutM ((32768 * b - 11059 * r - 21709 * g + 32768) / 65536 + 128)
 | _ => cutM ((32768 * r - 27439 * g - 5329 * b + 32768) / 65536 + 128)
theorem cutM_rng (n : Int) : 0 ≤ cutM n ∧ cutM n ≤ 255 := by unfold cutM; omega
theorem brightM_rng (r g b : Int) (k : Nat) : 0 ≤ brightM r g b k ∧ brightM r g b k ≤ 255 := by
 unfold brightM; split <;> exact cutM_rng _
def brightL (r g b : Int) : List Int := [brightM r g b 0, brightM r g b 1, brightM r g b 2]
theorem shr16 (x : Int) : shrI .i64 x (16 : Int) = x / 65536 := by
 unfold shrI
 rw [show min (16 : Int).toNat (IntKind.bits .i64) = 16 from rfl]
 exact Int.fdiv_eq_ediv_of_nonneg _ (by decide)
theorem c66 {n : Int} (hR : R (.int .i64 (cutM n)) H) : CallsH Try.prog 66 #[.int .i64 n] H R := Try.s66 hR
theorem c43 {r g b : Int} (hr : 0 ≤ r ∧ r < 256) (hg : 0 ≤ g ∧ g < 256) (hb : 0 ≤ b ∧ b < 256) (hR : ∀ H', Ext H H' → R (.agg (ints (brightL r g b)).toArray) H') :
    CallsH Try.prog 43 #[.agg #[.int .i64 r, .int .i64 g, .int .i64 b]] H R := by
  refine Try.s43 ?_
  unfold Try.S43
  refine (St.nil H).alc fun b2 H1 hs1 => hs1.alc fun b4 H2 hs2 => ?_
  refine ⟨by decide, by decide, r, hs2.get 1 rfl rfl, by decide, by decide, g, hs2.get 1 (j := 1) rfl rfl, by decide, by decide, b, hs2.get 1 (j := 2) rfl rfl, by decide, ?_⟩
  rw [wrap_id (n := 19595 * r) (by omega) (by omega), wrap_id (n := 38470 * g) (by omega) (by omega), wrap_id (n := 19595 * r + 38470 * g) (by omega) (by omega), wrap_id (n := 7471 * b) (by omega) (by omega), wrap_id (n := 19595 * r + 38470 * g + 7471 * b) (by omega) (by omega), wrap_id (n := 19595 * r + 38470 * g + 7471 * b + 32768) (by omega) (by omega), shr16]
  refine c66 ⟨_, rfl, by decide, ?_⟩
  rw [wrap_id (n := 32768 * b) (by omega) (by omega), wrap_id (n := 11059 * r) (by omega) (by omega), wrap_id (n := 32768 * b - 11059 * r) (by omega) (by omega), wrap_id (n := 21709 * g) (by omega) (by omega), wrap_id (n := 32768 * b - 11059 * r - 21709 * g) (by omega) (by omega), wrap_id (n := 32768 * b - 11059 * r - 21709 * g + 32768) (by omega) (by omega), shr16, wrap_id (n := (32768 * b - 11059 * r - 21709 * g + 32768) / 65536 + 128) (by omega) (by omega)]
  refine c66 ⟨_, rfl, by decide, ?_⟩
  rw [wrap_id (n := 32768 * r) (by omega) (by omega), wrap_id (n := 27439 * g) (by omega) (by omega), wrap_id (n := 32768 * r - 27439 * g) (by omega) (by omega), wrap_id (n := 5329 * b) (by omega) (by omega), wrap_id (n := 32768 * r - 27439 * g - 5329 * b) (by omega) (by omega), wrap_id (n := 32768 * r - 27439 * g - 5329 * b + 32768) (by omega) (by omega), shr16, wrap_id (n := (32768 * r - 27439 * g - 5329 * b + 32768) / 65536 + 128) (by omega) (by omega)]
  refine c66 ⟨_, rfl, rfl, ?_⟩
  refine hs2.putAllA 0 (l := brightL r g b) rfl rfl fun H3 hs3 => ?_
  exact ⟨_, rfl, rowIn_whole (hs3.block 0 rfl), hR H3 hs3.ext⟩
end Go.Proofs
namespace Go.Proofs
open Go.Sh
variable {H0 H : Heap} {σ : List Rs} {R : Value → Heap → Prop}
def atM (W Ht : Nat) (L : List Int) (x y : Nat) : Int := L.getD (min y (Ht - 1) * W + min x (W - 1)) 0
def planeL (n : Nat) (rgb : List Int) (k : Nat) : List Int := (List.range n).map fun i => brightM (rgb.getD (3 * i) 0) (rgb.getD (3 * i + 1) 0) (rgb.getD (3 * i + 2) 0) k
def halfV2 (W Ht : Nat) (L : List Int) (x y : Nat) : Int := (atM W Ht L (2 * x) (2 * y) + atM W Ht L (2 * x + 1) (2 * y) + atM W Ht L (2 * x) (2 * y + 1) + atM W Ht L (2 * x + 1) (2 * y + 1) + 2) / 4
def halfL (W Ht : Nat) (L : List Int) : List Int := (List.range ((W + 1) / 2 * ((Ht + 1) / 2))).map fun i => halfV2 W Ht L (i % ((W + 1) / 2)) (i / ((W + 1) / 2))
def Byt (L : List Int) : Prop := ∀ i, 0 ≤ L.getD i 0 ∧ L.getD i 0 ≤ 255
theorem ix_lt {W Ht X Y : Nat} (hW : 1 ≤ W) (hH : 1 ≤ Ht) (hX : X ≤ W - 1) (hY : Y ≤ Ht - 1) : Y * W + X < W * Ht := by
 have h1 := Nat.mul_le_mul_right W hY
 have h2 : (Ht - 1) * W + W = W * Ht := by rw [Nat.mul_comm W Ht, ← Nat.succ_mul]; congr 1; omega
 omega
theorem le_of_area {W Ht n : Nat} (hW : 1 ≤ W) (hH : 1 ≤ Ht) (h : W * Ht ≤ n) : W ≤ n ∧ Ht ≤ n := by
 have h1 := Nat.mul_le_mul_left W hH
 have h2 := Nat.mul_le_mul_right Ht hW
 omega
theorem atM_rng {W Ht : Nat} {L : List Int} (h : Byt L) (x y : Nat) : 0 ≤ atM W Ht L x y ∧ atM W Ht L x y ≤ 255 := h _
theorem planeL_len (n : Nat) (rgb : List Int) (k : Nat) : (planeL n rgb k).length = n := tab_len _ _
theorem planeL_byt (n : Nat) (rgb : List Int) (k : Nat) : Byt (planeL n rgb k) := fun i => by
 by_cases h : i < n
 ·rw [show (planeL n rgb k).getD i 0 = _ from tab_getD h]; exact brightM_rng _ _ _ _
 ·rw [List.getD_eq_getElem?_getD, List.getElem?_eq_none (by rw [planeL_len]; omega)]; decide
theorem halfV2_rng {W Ht : Nat} {L : List Int} (h : Byt L) (x y : Nat) : 0 ≤ halfV2 W Ht L x y ∧ halfV2 W Ht L x y ≤ 255 := by
 unfold halfV2
 have h1 := atM_rng (W := W) (Ht := Ht) h (2 * x) (2 * y)
 have h2 := atM_rng (W := W) (Ht := Ht) h (2 * x + 1) (2 * y)
 have h3 := atM_rng (W := W) (Ht := Ht) h (2 * x) (2 * y + 1)
 have h4 := atM_rng (W := W) (Ht := Ht) h (2 * x + 1) (2 * y + 1)
 omega
theorem halfL_len (W Ht : Nat) (L : List Int) : (halfL W Ht L).length = (W + 1) / 2 * ((Ht + 1) / 2) := tab_len _ _
theorem at_half {W Ht : Nat} (hW : 1 ≤ W) (hH : 1 ≤ Ht) (L : List Int) (x y : Nat) : atM ((W + 1) / 2) ((Ht + 1) / 2) (halfL W Ht L) x y = halfV2 W Ht L (min x ((W - 1) / 2)) (min y ((Ht - 1) / 2)) := by
 have e1 : (W + 1) / 2 - 1 = (W - 1) / 2 := by omega
 have e2 : (Ht + 1) / 2 - 1 = (Ht - 1) / 2 := by omega
 unfold atM
 rw [e1, e2]
 generalize hX : min x ((W - 1) / 2) = X
 generalize hY : min y ((Ht - 1) / 2) = Y
 have hlt := ix_lt (W := (W + 1) / 2) (Ht := (Ht + 1) / 2) (X := X) (Y := Y) (by omega) (by omega) (by omega) (by omega)
 rw [show (halfL W Ht L).getD (Y * ((W + 1) / 2) + X) 0 = _ from tab_getD hlt]
 have m1 : (Y * ((W + 1) / 2) + X) % ((W + 1) / 2) = X := by rw [Nat.mul_comm, Nat.mul_add_mod]; exact Nat.mod_eq_of_lt (by omega)
 have m2 : (Y * ((W + 1) / 2) + X) / ((W + 1) / 2) = Y := by rw [Nat.mul_comm, Nat.mul_add_div (by omega), Nat.div_eq_of_lt (by omega)]; rfl
 rw [m1, m2]
theorem c25 {W Ht l c : Nat} {p : Option Addr} {L : List Int} (h : IS H p l (ints L)) (hL : L.length = W * Ht) (hW : 1 ≤ W) (hH : 1 ≤ Ht) (hn : W * Ht ≤ 1000) {x y : Nat} (hx : x ≤ 100000) (hy : y ≤ 100000)
    (hR : ∀ H', Ext H H' → R (.int .i64 (atM W Ht L x y)) H') : CallsH Try.prog 25 #[.agg #[.int .i64 (W : Nat), .int .i64 (Ht : Nat), .slice p l c], .int .i64 (x : Nat), .int .i64 (y : Nat)] H R := by
  obtain ⟨b1, b2⟩ := le_of_area hW hH hn
  have hll : L.length = l := by have := h.len; rwa [ints_len] at this
  refine Try.s25 ?_
  unfold Try.S25
  refine (St.nil H).alc fun b4 H1 hs1 => ⟨_, _, _, hs1.get 0 (j := 2) rfl rfl, _, hs1.get 0 (j := 1) rfl rfl, _, hs1.get 0 (j := 0) rfl rfl, _, hs1.get 0 (j := 0) rfl rfl, ?_⟩
  have e1 : min (y : Int) (IntKind.wrap .i64 ((Ht : Int) - 1)) = ((min y (Ht - 1) : Nat) : Int) := by rw [wrap_id (by omega) (by omega)]; omega
  have e2 : min (x : Int) (IntKind.wrap .i64 ((W : Int) - 1)) = ((min x (W - 1) : Nat) : Int) := by rw [wrap_id (by omega) (by omega)]; omega
  have hlt := ix_lt (X := min x (W - 1)) (Y := min y (Ht - 1)) hW hH (by omega) (by omega)
  rw [e1, e2, ← Int.natCast_mul, wN (by omega), ← Int.natCast_add, wN (by omega)]
  exact (h.ext hs1.ext).rd (k := .i64) (by omega) (by omega) (by rw [Int.toNat_natCast]; exact getD_some L 0 (by omega)) (hR H1 hs1.ext)
theorem c44 {W Ht l c : Nat} {p : Option Addr} {L : List Int} (h : IS H p l (ints L)) (hL : L.length = W * Ht) (hB : Byt L) (hW : 1 ≤ W) (hH : 1 ≤ Ht) (hn : W * Ht ≤ 1000)
    (hR : ∀ H' q n m, St H H' [.sl q n m 3 1 (ints (halfL W Ht L))] → R (.agg #[.int .i64 ((W + 1) / 2 : Nat), .int .i64 ((Ht + 1) / 2 : Nat), .slice q n m]) H') :
    CallsH Try.prog 44 #[.agg #[.int .i64 (W : Nat), .int .i64 (Ht : Nat), .slice p l c]] H R := by
  obtain ⟨b1, b2⟩ := le_of_area hW hH hn
  refine Try.s44 ?_
  unfold Try.S44
  refine (St.nil H).alc fun pb H1 hs1 => hs1.alc fun rb H2 hs2 => ⟨_, hs2.get 1 (j := 0) rfl rfl, by decide, _, hs2.get 1 (j := 1) rfl rfl, by decide, hs2.alc fun ob H3 hs3 => ⟨rfl, ?_⟩⟩
  have ew : IntKind.wrap .i64 (Int.tdiv (IntKind.wrap .i64 ((W : Int) + 1)) 2) = (((W + 1) / 2 : Nat) : Int) := by
    rw [wrap_id (n := (W : Int) + 1) (by omega) (by omega), show (W : Int) + 1 = ((W + 1 : Nat) : Int) from rfl, show (2 : Int) = ((2 : Nat) : Int) from rfl, tdivN, wN (by omega)]
  have eh : IntKind.wrap .i64 (Int.tdiv (IntKind.wrap .i64 ((Ht : Int) + 1)) 2) = (((Ht + 1) / 2 : Nat) : Int) := by
    rw [wrap_id (n := (Ht : Int) + 1) (by omega) (by omega), show (Ht : Int) + 1 = ((Ht + 1 : Nat) : Int) from rfl, show (2 : Int) = ((2 : Nat) : Int) from rfl, tdivN, wN (by omega)]
  rw [ew, eh]
  refine hs3.putAll 0 rfl rfl (by simp [Value.oneCell']) fun H4 hs4 => ⟨_, hs4.get 0 (j := 0) rfl rfl, _, hs4.get 0 (j := 1) rfl rfl, ?_⟩
  have hll := halfL_len W Ht L
  have hw1 : 1 ≤ (W + 1) / 2 := by omega
  have hh1 : 1 ≤ (Ht + 1) / 2 := by omega
  have hw2 : (W + 1) / 2 ≤ 1000 := by omega
  have hh2 : (Ht + 1) / 2 ≤ 1000 := by omega
  have hN : (W + 1) / 2 * ((Ht + 1) / 2) ≤ 1000 * 1000 := Nat.mul_le_mul (by omega) (by omega)
  have hdiv : ∀ i, i < (W + 1) / 2 * ((Ht + 1) / 2) → i / ((W + 1) / 2) < (Ht + 1) / 2 := fun i hi => Nat.div_lt_of_lt_mul hi
  have hmod : ∀ i, i % ((W + 1) / 2) < (W + 1) / 2 := fun i => Nat.mod_lt _ (by omega)
  have hget : ∀ i, i < (W + 1) / 2 * ((Ht + 1) / 2) → (halfL W Ht L).getD i 0 = halfV2 W Ht L (i % ((W + 1) / 2)) (i / ((W + 1) / 2)) := fun i hi => tab_getD hi
  generalize (W + 1) / 2 = w at *
  generalize (Ht + 1) / 2 = g at *
  intro X hX
  have go : ∀ i, i ≤ w * g → ∀ H5 q m, St H H5 [.sl q i m 3 1 (ints ((halfL W Ht L).take i)), .cell ob #[.int .i64 (w : Nat), .int .i64 (g : Nat), .slice q i m] 59, .cell rb #[.int .i64 0, .int .i64 0, .slice none 0 0] 59, .cell pb #[.int .i64 (W : Nat), .int .i64 (Ht : Nat), .slice p l c] 59] → X [.int .i64 (i : Nat)] H5 := upto fun i hi ih H5 q m hs5 => by
    refine hX _ H5 ?_
    rw [← Int.natCast_mul, wN (by omega)]
    refine br_dec (fun hlt => ?_) (fun hge => ?_)
    · have hlt : i < w * g := by omega
      have hd := hdiv i hlt
      have hm := hmod i
      refine ⟨_, hs5.get 1 (j := 0) rfl rfl, by omega, _, hs5.get 1 (j := 0) rfl rfl, by omega, _, _, _, hs5.get 1 (j := 2) rfl rfl, _, rfl, rowIn_whole (hs5.block 3 rfl), _, rfl, rowIn_whole (hs5.block 3 rfl), _, rfl, rowIn_whole (hs5.block 3 rfl), _, rfl, rowIn_whole (hs5.block 3 rfl), ?_⟩
      have hg := hget i hlt
      rw [tmodN, tdivN, wN (k := i / w) (by omega)]
      generalize i % w = x at *
      generalize i / w = y at *
      have ex : IntKind.wrap .i64 ((2 : Int) * (x : Nat)) = ((2 * x : Nat) : Int) := by rw [wrap_id (by omega) (by omega)]; omega
      have ey : IntKind.wrap .i64 ((2 : Int) * (y : Nat)) = ((2 * y : Nat) : Int) := by rw [wrap_id (by omega) (by omega)]; omega
      rw [ex, ey, w1 (i := 2 * x) (by omega), w1 (i := 2 * y) (by omega), w1 (i := i) (by omega)]
      refine c25 (h.ext hs5.ext) hL hW hH hn (by omega) (by omega) fun H6 e6 => ⟨_, rfl, .inl e6, ?_⟩
      refine c25 (h.ext (hs5.step e6).ext) hL hW hH hn (by omega) (by omega) fun H7 e7 => ⟨_, rfl, .inl e7, ?_⟩
      refine c25 (h.ext ((hs5.step e6).step e7).ext) hL hW hH hn (by omega) (by omega) fun H8 e8 => ⟨_, rfl, .inl e8, ?_⟩
      refine c25 (h.ext (((hs5.step e6).step e7).step e8).ext) hL hW hH hn (by omega) (by omega) fun H9 e9 => ⟨_, rfl, .inl e9, by decide, ?_⟩
      have hs9 := (((hs5.step e6).step e7).step e8).step e9
      have r1 := atM_rng (W := W) (Ht := Ht) hB (2 * x) (2 * y)
      have r2 := atM_rng (W := W) (Ht := Ht) hB (2 * x + 1) (2 * y)
      have r3 := atM_rng (W := W) (Ht := Ht) hB (2 * x) (2 * y + 1)
      have r4 := atM_rng (W := W) (Ht := Ht) hB (2 * x + 1) (2 * y + 1)
      have ev : IntKind.wrap .i64 (Int.tdiv (IntKind.wrap .i64 (IntKind.wrap .i64 (IntKind.wrap .i64 (IntKind.wrap .i64 (atM W Ht L (2 * x) (2 * y) + atM W Ht L (2 * x + 1) (2 * y)) + atM W Ht L (2 * x) (2 * y + 1)) + atM W Ht L (2 * x + 1) (2 * y + 1)) + 2)) 4) = halfV2 W Ht L x y := by
        unfold halfV2
        generalize atM W Ht L (2 * x) (2 * y) = a at *
        generalize atM W Ht L (2 * x + 1) (2 * y) = b at *
        generalize atM W Ht L (2 * x) (2 * y + 1) = cc at *
        generalize atM W Ht L (2 * x + 1) (2 * y + 1) = d at *
        rw [wrap_id (n := a + b) (by omega) (by omega), wrap_id (n := a + b + cc) (by omega) (by omega), wrap_id (n := a + b + cc + d) (by omega) (by omega), wrap_id (n := a + b + cc + d + 2) (by omega) (by omega), Int.tdiv_eq_ediv_of_nonneg (by omega), wrap_id (by omega) (by omega)]
      rw [ev]
      refine hs9.alcE fun b35 H10 e10 hs10 => ⟨.inl e10, ?_⟩
      refine hs10.appC 1 0 (el := 3) (k := 1) rfl rfl rfl (oneV rfl) (by decide) rfl (by omega) (by omega) fun q' m' H11 hs11 => ?_
      refine hs11.put 2 (j := 2) rfl (by simp) rfl fun H12 hs12 => ih hlt H12 q' m' ?_
      have e : (halfL W Ht L).take (i + 1) = (halfL W Ht L).take i ++ [halfV2 W Ht L x y] := by rw [List.take_add_one, getD_some _ 0 (by omega), hg]; rfl
      rw [e, ints_append]
      exact hs12.tail
    · have : i = w * g := by omega
      subst this
      rw [List.take_of_length_le (by omega)] at hs5
      refine ⟨_, rfl, rowIn_whole (hs5.block 1 rfl), rfl, ?_⟩
      refine hs5.putAll 2 rfl rfl (by simp [Value.oneCell']) fun H6 hs6 => ?_
      exact ⟨_, rfl, rowIn_whole (hs6.block 2 rfl), hR H6 q (w * g) m (hs6.take 1)⟩
  exact go 0 (by omega) H4 none 0 (hs4.nilSl 3 1)
def hw (half : Bool) (n : Nat) : Nat := if half then (n + 1) / 2 else n
def partL (W Ht : Nat) (rgb : List Int) (half : Bool) (k : Nat) : List Int := if half then halfL W Ht (planeL (W * Ht) rgb k) else planeL (W * Ht) rgb k
set_option maxHeartbeats 2000000 in
theorem c23 {W Ht l c : Nat} {p : Option Addr} {rgb : List Int} {half : Bool} (h : IS H p l (kints .u8 rgb)) (hr : ∀ x ∈ rgb, 0 ≤ x ∧ x < 256) (hl : l = 3 * (W * Ht)) (hW : 1 ≤ W) (hH : 1 ≤ Ht) (hn : W * Ht ≤ 1000)
    (hR : ∀ H' p0 c0 p1 n1 c1 p2 n2 c2, Ext H H' → IS H' p0 (W * Ht) (ints (planeL (W * Ht) rgb 0)) → IS H' p1 n1 (ints (partL W Ht rgb half 1)) → IS H' p2 n2 (ints (partL W Ht rgb half 2)) →
      R (.agg #[.int .i64 (W : Nat), .int .i64 (Ht : Nat), .slice p0 (W * Ht) c0, .int .i64 (hw half W : Nat), .int .i64 (hw half Ht : Nat), .slice p1 n1 c1, .int .i64 (hw half W : Nat), .int .i64 (hw half Ht : Nat), .slice p2 n2 c2]) H') :
    CallsH Try.prog 23 #[.int .i64 (W : Nat), .int .i64 (Ht : Nat), .slice p l c, .bool half] H R := by
  obtain ⟨b1, b2⟩ := le_of_area hW hH hn
  have hrl := h.length
  refine Try.s23 ?_
  unfold Try.S23
  refine (St.nil H).alc fun b5 H1 hs1 => hs1.alc fun b7 H2 hs2 => ?_
  intro X hX
  rw [← Int.natCast_mul, wN (k := W * Ht) (by omega), Int.toNat_natCast] at hX
  have hlen := fun k => planeL_len (W * Ht) rgb k
  have hget : ∀ k i, i < W * Ht → (planeL (W * Ht) rgb k).getD i 0 = brightM (rgb.getD (3 * i) 0) (rgb.getD (3 * i + 1) 0) (rgb.getD (3 * i + 2) 0) k := fun k i hi => tab_getD hi
  have hpb := fun k => planeL_byt (W * Ht) rgb k
  generalize hN : W * Ht = n at *
  refine hX _ H2 (br_y (by decide) ⟨by omega, by omega, by omega, by omega, hs2.alc fun q0 H3 hs3 => ⟨by decide, by decide, rfl, hs3.putRow 1 rfl (Nat.le_of_ble_eq_true rfl) (by simp [Value.oneCell']) fun H4 hs4 => ?_⟩⟩)
  rw [show IntKind.wrap .i64 ((0 : Int) + 1) = 1 from by decide]
  refine hX _ H4 (br_y (by decide) ⟨by omega, by omega, by omega, by omega, hs4.alc fun q1 H5 hs5 => ⟨by decide, by decide, rfl, hs5.putRow 2 rfl (Nat.le_of_ble_eq_true rfl) (by simp [Value.oneCell']) fun H6 hs6 => ?_⟩⟩)
  rw [show IntKind.wrap .i64 ((1 : Int) + 1) = 2 from by decide]
  refine hX _ H6 (br_y (by decide) ⟨by omega, by omega, by omega, by omega, hs6.alc fun q2 H7 hs7 => ⟨by decide, by decide, rfl, hs7.putRow 3 rfl (Nat.le_of_ble_eq_true rfl) (by simp [Value.oneCell']) fun H8 hs8 => ?_⟩⟩)
  rw [show IntKind.wrap .i64 ((2 : Int) + 1) = 3 from by decide]
  refine hX _ H8 (br_n (by decide) ?_)
  have hs8 : St H H8 [.cell q2 (ints (List.replicate n 0)).toArray 3, .cell q1 (ints (List.replicate n 0)).toArray 3, .cell q0 (ints (List.replicate n 0)).toArray 3, .cell b7 #[.int .i64 (W : Nat), .int .i64 (Ht : Nat), .slice (some ⟨q0, 0, none⟩) n n, .int .i64 (W : Nat), .int .i64 (Ht : Nat), .slice (some ⟨q1, 0, none⟩) n n, .int .i64 (W : Nat), .int .i64 (Ht : Nat), .slice (some ⟨q2, 0, none⟩) n n] 60, .cell b5 #[.int .i64 0, .int .i64 0, .slice none 0 0, .int .i64 0, .int .i64 0, .slice none 0 0, .int .i64 0, .int .i64 0, .slice none 0 0] 60] := by
    rw [← repsA]; exact hs8
  clear hs1 hs2 hs3 hs4 hs5 hs6 hs7
  intro Y hY
  have go : ∀ i, i ≤ n → ∀ H9, St H H9 [.cell q2 (ints (fillA (planeL n rgb 2) i)).toArray 3, .cell q1 (ints (fillA (planeL n rgb 1) i)).toArray 3, .cell q0 (ints (fillA (planeL n rgb 0) i)).toArray 3, .cell b7 #[.int .i64 (W : Nat), .int .i64 (Ht : Nat), .slice (some ⟨q0, 0, none⟩) n n, .int .i64 (W : Nat), .int .i64 (Ht : Nat), .slice (some ⟨q1, 0, none⟩) n n, .int .i64 (W : Nat), .int .i64 (Ht : Nat), .slice (some ⟨q2, 0, none⟩) n n] 60, .cell b5 #[.int .i64 0, .int .i64 0, .slice none 0 0, .int .i64 0, .int .i64 0, .slice none 0 0, .int .i64 0, .int .i64 0, .slice none 0 0] 60] → Y [.int .i64 (i : Nat)] H9 := upto fun i hi ih H9 hs9 => by
    refine hY _ H9 (br_dec (fun hlt => ?_) (fun hge => ?_))
    · have hlt : i < n := by omega
      have f0 := fillA_len (L := planeL n rgb 0) (s := i) (by rw [hlen]; omega)
      have f1 := fillA_len (L := planeL n rgb 1) (s := i) (by rw [hlen]; omega)
      have f2 := fillA_len (L := planeL n rgb 2) (s := i) (by rw [hlen]; omega)
      rw [hlen] at f0 f1 f2
      have g0 := getD_some rgb 0 (i := 3 * i) (by omega)
      have g1 := getD_some rgb 0 (i := 3 * i + 1) (by omega)
      have g2 := getD_some rgb 0 (i := 3 * i + 2) (by omega)
      have r0 := hr _ (List.mem_of_getElem? g0)
      have r1 := hr _ (List.mem_of_getElem? g1)
      have r2 := hr _ (List.mem_of_getElem? g2)
      have e0 : IntKind.wrap .i64 ((3 : Int) * (i : Nat)) = ((3 * i : Nat) : Int) := by rw [wrap_id (by omega) (by omega)]; omega
      have e1 : IntKind.wrap .i64 (((3 * i : Nat) : Int) + 1) = ((3 * i + 1 : Nat) : Int) := w1 (by omega)
      have e2 : IntKind.wrap .i64 (((3 * i : Nat) : Int) + 2) = ((3 * i + 2 : Nat) : Int) := by rw [wrap_id (by omega) (by omega)]; omega
      have k0 := hget 0 i hlt
      have k1 := hget 1 i hlt
      have k2 := hget 2 i hlt
      rw [e0, e1, e2, w1 (i := i) (by omega)]
      generalize rgb.getD (3 * i) 0 = vr at *
      generalize rgb.getD (3 * i + 1) 0 = vg at *
      generalize rgb.getD (3 * i + 2) 0 = vb at *
      have his := h.ext hs9.ext
      intro J hJ
      have nx : ∀ cb H10, St H H10 (.cell cb (ints (brightL vr vg vb)).toArray 69 :: [.cell q2 (ints (fillA (planeL n rgb 2) i)).toArray 3, .cell q1 (ints (fillA (planeL n rgb 1) i)).toArray 3, .cell q0 (ints (fillA (planeL n rgb 0) i)).toArray 3, .cell b7 #[.int .i64 (W : Nat), .int .i64 (Ht : Nat), .slice (some ⟨q0, 0, none⟩) n n, .int .i64 (W : Nat), .int .i64 (Ht : Nat), .slice (some ⟨q1, 0, none⟩) n n, .int .i64 (W : Nat), .int .i64 (Ht : Nat), .slice (some ⟨q2, 0, none⟩) n n] 60, .cell b5 #[.int .i64 0, .int .i64 0, .slice none 0 0, .int .i64 0, .int .i64 0, .slice none 0 0, .int .i64 0, .int .i64 0, .slice none 0 0] 60]) → J [.pointer (some ⟨cb, 0, none⟩)] H10 := fun cb H10 hs10 => by
        refine hJ _ H10 ?_
        intro Z hZ
        refine hZ _ H10 (br_y (by decide) ⟨by decide, by decide, _, _, _, hs10.get 4 (j := 2) rfl rfl, by decide, by decide, brightM vr vg vb 0, hs10.rdA 0 (j := 0) rfl rfl, _, rfl, by omega, by omega, ?_⟩)
        rw [add_none, Nat.zero_add, Int.toNat_natCast, Nat.mul_one, show IntKind.wrap .i64 ((0 : Int) + 1) = 1 from by decide]
        refine hs10.putA 3 rfl (by omega) fun H11 hs11 => ?_
        refine hZ _ H11 (br_y (by decide) ⟨by decide, by decide, _, _, _, hs11.get 4 (j := 5) rfl rfl, by decide, by decide, brightM vr vg vb 1, hs11.rdA 0 (j := 1) rfl rfl, _, rfl, by omega, by omega, ?_⟩)
        rw [add_none, Nat.zero_add, Int.toNat_natCast, Nat.mul_one, show IntKind.wrap .i64 ((1 : Int) + 1) = 2 from by decide]
        refine hs11.putA 2 rfl (by omega) fun H12 hs12 => ?_
        refine hZ _ H12 (br_y (by decide) ⟨by decide, by decide, _, _, _, hs12.get 4 (j := 8) rfl rfl, by decide, by decide, brightM vr vg vb 2, hs12.rdA 0 (j := 2) rfl rfl, _, rfl, by omega, by omega, ?_⟩)
        rw [add_none, Nat.zero_add, Int.toNat_natCast, Nat.mul_one, show IntKind.wrap .i64 ((2 : Int) + 1) = 3 from by decide]
        refine hs12.putA 1 rfl (by omega) fun H13 hs13 => ?_
        refine hZ _ H13 (br_n (by decide) (ih hlt H13 ?_))
        rw [← fillA_set (L := planeL n rgb 0) (s := i) (by rw [hlen]; omega), ← fillA_set (L := planeL n rgb 1) (s := i) (by rw [hlen]; omega), ← fillA_set (L := planeL n rgb 2) (s := i) (by rw [hlen]; omega), k0, k1, k2]
        exact hs13.tail
      obtain ⟨a0, p0, q0a, q0b, x0, c0, rfl⟩ := his.rd (i := ((3 * i : Nat) : Int)) (by omega) (by omega) (by rw [Int.toNat_natCast]; exact g0) (K := fun y => y = vr) rfl
      obtain ⟨a1, p1, q1a, q1b, x1, c1, rfl⟩ := his.rd (i := ((3 * i + 1 : Nat) : Int)) (by omega) (by omega) (by rw [Int.toNat_natCast]; exact g1) (K := fun y => y = vg) rfl
      obtain ⟨a2, p2, q2a, q2b, x2, c2, rfl⟩ := his.rd (i := ((3 * i + 2 : Nat) : Int)) (by omega) (by omega) (by rw [Int.toNat_natCast]; exact g2) (K := fun y => y = vb) rfl
      refine ⟨a0, p0, q0a, q0b, x0, c0, a1, p1, q1a, q1b, x1, c1, a2, p2, q2a, q2b, x2, c2, ?_⟩
      rw [wrap_id (n := x0) (by omega) (by omega), wrap_id (n := x1) (by omega) (by omega), wrap_id (n := x2) (by omega) (by omega)]
      refine ⟨c43 r0 r1 r2 fun H10 e10 => ⟨_, rfl, ?_⟩, hs9.alcE fun cb H10 e10 hs10 => ⟨.inl e10, c43 r0 r1 r2 fun H11 e11 => ⟨_, rfl, rfl, ?_⟩⟩⟩
      · refine (hs9.step e10).alc fun cb H11 hs11 => ⟨rfl, hs11.putAllA 0 (l := brightL x0 x1 x2) rfl rfl fun H12 hs12 => nx cb H12 hs12⟩
      · exact (hs10.step e11).putAllA 0 (l := brightL x0 x1 x2) rfl rfl fun H12 hs12 => nx cb H12 hs12
    · have : i = n := by omega
      subst this
      have a0 := fillA_all (planeL i rgb 0)
      have a1 := fillA_all (planeL i rgb 1)
      have a2 := fillA_all (planeL i rgb 2)
      rw [hlen] at a0 a1 a2
      rw [a0, a1, a2] at hs9
      cases half with
      | true =>
        refine br_t rfl ⟨by decide, by decide, #[.int .i64 (W : Nat), .int .i64 (Ht : Nat), .slice (some ⟨q1, 0, none⟩) i i], rfl, ?_, by decide, by decide, #[.int .i64 (W : Nat), .int .i64 (Ht : Nat), .slice (some ⟨q2, 0, none⟩) i i], rfl, ?_, ?_⟩
        · exact rowIn_block (hs9.block 3 rfl) fun j v hv => by
            have hj := (Array.getElem?_eq_some_iff.1 hv).1
            obtain rfl | rfl | rfl : j = 0 ∨ j = 1 ∨ j = 2 := by simp at hj; omega
            all_goals exact hv
        · exact rowIn_block (hs9.block 3 rfl) fun j v hv => by
            have hj := (Array.getElem?_eq_some_iff.1 hv).1
            obtain rfl | rfl | rfl : j = 0 ∨ j = 1 ∨ j = 2 := by simp at hj; omega
            all_goals exact hv
        refine c44 (hs9.isA 1 rfl (hlen 1)) (by rw [hlen, hN]) (hpb 1) hW hH (by omega) fun H10 r1 m1 k1 hs10 => ⟨_, rfl, .inl hs10.ext, by decide, by decide, ?_⟩
        have hs10 := hs9.call hs10
        refine c44 (hs10.isA 1 rfl (hlen 2)) (by rw [hlen, hN]) (hpb 2) hW hH (by omega) fun H11 r2 m2 k2 hs11 => ⟨_, rfl, rfl, ?_⟩
        have hs11 := hs10.call hs11
        refine hs11.putRow 5 (j := 3) rfl (Nat.le_of_ble_eq_true rfl) (by simp [Value.oneCell']) fun H12 hs12 => ⟨by decide, by decide, rfl, ?_⟩
        refine hs12.putRow 5 (j := 6) rfl (Nat.le_of_ble_eq_true rfl) (by simp [Value.oneCell']) fun H13 hs13 => ⟨_, rfl, rowIn_whole (hs13.block 5 rfl), rfl, ?_⟩
        refine hs13.putAll 6 rfl rfl (by simp [setL, Value.oneCell']) fun H14 hs14 => ⟨_, rfl, rowIn_whole (hs14.block 6 rfl), ?_⟩
        have z1 := hs14.is 1 rfl
        have z2 := hs14.is 0 rfl
        exact hR H14 _ i r1 m1 k1 r2 m2 k2 hs14.ext (hs14.isA 4 rfl (hlen 0)) (by unfold partL; rw [if_pos rfl, hN]; exact z1) (by unfold partL; rw [if_pos rfl, hN]; exact z2)
      | false =>
        refine br_f rfl ⟨_, rfl, rowIn_whole (hs9.block 3 rfl), rfl, ?_⟩
        refine hs9.putAll 4 rfl rfl (by simp [Value.oneCell']) fun H10 hs10 => ⟨_, rfl, rowIn_whole (hs10.block 4 rfl), ?_⟩
        exact hR H10 _ i _ i i _ i i hs10.ext (hs10.isA 2 rfl (hlen 0)) (by unfold partL; rw [if_neg (by decide), hN]; exact hs10.isA 1 rfl (hlen 1)) (by unfold partL; rw [if_neg (by decide), hN]; exact hs10.isA 0 rfl (hlen 2))
  exact go 0 (by omega) H8 (by rw [fillA_zero, fillA_zero, fillA_zero, hlen, hlen, hlen]; exact hs8)
end Go.Proofs
namespace Go.Proofs
open Go.Sh
variable {H0 H : Heap} {σ : List Rs} {R : Value → Heap → Prop}
def sampM (W Ht : Nat) (rgb : List Int) (half : Bool) (k x y : Nat) : Int :=
 if half = true ∧ k ≠ 0 then halfV2 W Ht (planeL (W * Ht) rgb k) (min x ((W - 1) / 2)) (min y ((Ht - 1) / 2)) else atM W Ht (planeL (W * Ht) rgb k) x y
theorem sampM_rng (W Ht : Nat) (rgb : List Int) (half : Bool) (k x y : Nat) : 0 ≤ sampM W Ht rgb half k x y ∧ sampM W Ht rgb half k x y ≤ 255 := by
 unfold sampM
 split
 ·exact halfV2_rng (planeL_byt _ _ _) _ _
 ·exact atM_rng (planeL_byt _ _ _) _ _
theorem samp_part {W Ht : Nat} (hW : 1 ≤ W) (hH : 1 ≤ Ht) (rgb : List Int) (half : Bool) {k : Nat} (hk : k ≠ 0) (x y : Nat) : atM (hw half W) (hw half Ht) (partL W Ht rgb half k) x y = sampM W Ht rgb half k x y := by
 unfold sampM partL hw
 cases half with
 | true => simp only [if_true]; rw [if_pos ⟨trivial, hk⟩]; exact at_half hW hH _ _ _
 | false => simp
def sideM (half : Bool) : Nat := if half then 16 else 8
def unitM (half : Bool) (i j : Nat) : List (Nat × Nat × Nat) :=
 (if half then [(0, 16 * i, 16 * j), (0, 16 * i + 8, 16 * j), (0, 16 * i, 16 * j + 8), (0, 16 * i + 8, 16 * j + 8)] else [(0, 8 * i, 8 * j)]) ++ [(1, 8 * i, 8 * j), (2, 8 * i, 8 * j)]
def rowU (half : Bool) (j n : Nat) : List (Nat × Nat × Nat) := (List.range n).flatMap fun i => unitM half i j
def unitsN (half : Bool) (n : Nat) : Nat := (n + sideM half - 1) / sideM half
def orderM (W Ht : Nat) (half : Bool) : List (Nat × Nat × Nat) := (List.range (unitsN half Ht)).flatMap fun j => rowU half j (unitsN half W)
def flat3 (l : List (Nat × Nat × Nat)) : List Int := l.flatMap fun t => [(t.1 : Int), (t.2.1 : Int), (t.2.2 : Int)]
theorem flat3_append (a b : List (Nat × Nat × Nat)) : flat3 (a ++ b) = flat3 a ++ flat3 b := by simp [flat3]
theorem flatMap_succ {α β : Type} (f : Nat → List β) (n : Nat) : (List.range (n + 1)).flatMap f = (List.range n).flatMap f ++ f n := by simp [List.range_succ]
theorem flat3_get : ∀ {l : List (Nat × Nat × Nat)} {i : Nat} {t : Nat × Nat × Nat}, l[i]? = some t → (flat3 l)[i * 3]? = some (t.1 : Int) ∧ (flat3 l)[i * 3 + 1]? = some (t.2.1 : Int) ∧ (flat3 l)[i * 3 + 2]? = some (t.2.2 : Int)
 | u :: l, 0, t, h => by
  simp at h; subst h
  exact ⟨rfl, rfl, rfl⟩
 | u :: l, i + 1, t, h => by
  have h := flat3_get (l := l) (i := i) (by simpa using h)
  rw [show (i + 1) * 3 = i * 3 + 1 + 1 + 1 from by omega]
  exact h
theorem unitM_len (half : Bool) (i j : Nat) : (unitM half i j).length = (if half then 6 else 3) := by cases half <;> rfl
theorem rowU_len (half : Bool) (j n : Nat) : (rowU half j n).length ≤ 6 * n := by
 induction n with
 | zero => simp [rowU]
 | succ n ih =>
  have := unitM_len half n j
  unfold rowU at *
  rw [flatMap_succ (β := Nat × Nat × Nat) (α := Nat), List.length_append, this]
  split <;> omega
theorem rows_len (half : Bool) (n : Nat) : ∀ m, ((List.range m).flatMap fun j => rowU half j n).length ≤ m * (6 * n)
 | 0 => by simp
 | m + 1 => by
  rw [flatMap_succ (β := Nat × Nat × Nat) (α := Nat), List.length_append, Nat.succ_mul]
  have := rows_len half n m
  have := rowU_len half m n
  omega
theorem order_rng (W Ht : Nat) (half : Bool) (hW : W ≤ 1000) (hH : Ht ≤ 1000) : ∀ t ∈ orderM W Ht half, t.1 < 3 ∧ t.2.1 ≤ 2000 ∧ t.2.2 ≤ 2000 := fun t ht => by
 obtain ⟨j, hj, ht⟩ := List.mem_flatMap.1 ht
 obtain ⟨i, hi, ht⟩ := List.mem_flatMap.1 ht
 have hj := List.mem_range.1 hj
 have hi := List.mem_range.1 hi
 unfold unitsN sideM at hi hj
 cases half with
 | true =>
  simp only [if_true] at hi hj
  simp [unitM] at ht
  rcases ht with rfl | rfl | rfl | rfl | rfl | rfl <;> simp <;> omega
 | false =>
  simp at hi hj
  simp [unitM] at ht
  rcases ht with rfl | rfl | rfl <;> simp <;> omega
theorem units_lt {half : Bool} {n j : Nat} : sideM half * j < n ↔ j < unitsN half n := by
 unfold unitsN sideM
 cases half <;> simp <;> omega
set_option maxHeartbeats 1000000 in
theorem c24 {W Ht : Nat} {half : Bool} (hW : W ≤ 40000) (hH : Ht ≤ 40000) (hR : ∀ H' q m, St H H' [.sl q (orderM W Ht half).length m 65 3 (ints (flat3 (orderM W Ht half)))] → R (.slice q (orderM W Ht half).length m) H') :
    CallsH Try.prog 24 #[.int .i64 (W : Nat), .int .i64 (Ht : Nat), .bool half] H R := by
  refine Try.s24 ?_
  unfold Try.S24
  intro J hJ
  have hny : unitsN half Ht ≤ 5001 := by unfold unitsN sideM; cases half <;> simp <;> omega
  have hnx : unitsN half W ≤ 5001 := by unfold unitsN sideM; cases half <;> simp <;> omega
  have hs8 : 8 ≤ sideM half ∧ sideM half ≤ 16 := by unfold sideM; cases half <;> simp
  have main : J [.int .i64 (sideM half : Nat)] H := by
    refine hJ _ H ?_
    intro X hX
    have outer : ∀ j, j ≤ unitsN half Ht → ∀ H1 q m l, l = (List.range j).flatMap (fun j => rowU half j (unitsN half W)) → St H H1 [.sl q l.length m 65 3 (ints (flat3 l))] → X [.slice q l.length m, .int .i64 (sideM half * j : Nat)] H1 := upto fun j hj ihj H1 q m l hl hs1 => by
      refine hX _ _ _ _ H1 (br_dec (fun hlt => ?_) (fun hge => ?_))
      · have hltj : j < unitsN half Ht := units_lt.1 (by omega)
        have hsj := units_lt.2 hltj
        have hrl := rows_len half (unitsN half W) j
        rw [← hl] at hrl
        have hb2 : j * (6 * unitsN half W) ≤ 5001 * (6 * 5001) := Nat.mul_le_mul (by omega) (by omega)
        intro Y hY
        have inner : ∀ i, i ≤ unitsN half W → ∀ H2 q m l2, l2 = l ++ rowU half j i → St H H2 [.sl q l2.length m 65 3 (ints (flat3 l2))] → Y [.slice q l2.length m, .int .i64 (sideM half * i : Nat)] H2 := upto fun i hi ihi H2 q m l2 hl2 hs2 => by
          refine hY _ _ _ _ H2 (br_dec (fun hlt => ⟨rfl, by decide, ?_⟩) (fun hge => ?_))
          · have hlti : i < unitsN half W := units_lt.1 (by omega)
            have hsi := units_lt.2 hlti
            have hru := rowU_len half j i
            have hl2n : l2.length ≤ 5001 * (6 * 5001) + 6 * 5001 := by rw [hl2, List.length_append]; omega
            refine hs2.alc fun b15 H3 hs3 => ?_
            refine hs3.appC 1 0 (el := 65) (k := 3) (cs := #[.int .i64 0, .int .i64 (sideM half * i : Nat), .int .i64 (sideM half * j : Nat)]) rfl rfl rfl (by simp [Value.oneCell']) (by decide) rfl (by omega) (by omega) fun q3 m3 H4 hs4 => ?_
            have hs4 := hs4.tail
            intro K hK
            have e8i : IntKind.wrap .i64 (((sideM half * i : Nat) : Int) * 8) = ((sideM half * (8 * i) : Nat) : Int) := by
              rw [wrap_id (by omega) (by omega), Int.natCast_mul, Int.natCast_mul, Int.natCast_mul, Int.mul_assoc, Int.mul_comm (i : Int) 8]; rfl
            have e8j : IntKind.wrap .i64 (((sideM half * j : Nat) : Int) * 8) = ((sideM half * (8 * j) : Nat) : Int) := by
              rw [wrap_id (by omega) (by omega), Int.natCast_mul, Int.natCast_mul, Int.natCast_mul, Int.mul_assoc, Int.mul_comm (j : Int) 8]; rfl
            have d8i : sideM half * (8 * i) / sideM half = 8 * i := Nat.mul_div_cancel_left _ (by omega)
            have d8j : sideM half * (8 * j) / sideM half = 8 * j := Nat.mul_div_cancel_left _ (by omega)
            have i125 : i ≤ 5001 := by omega
            have j125 : j ≤ 5001 := by omega
            have last : ∀ q4 m4 H5 l3, l3 ++ [(1, 8 * i, 8 * j), (2, 8 * i, 8 * j)] = l2 ++ unitM half i j → l3.length ≤ 5001 * (6 * 5001) + 6 * 5001 + 6 → St H H5 [.sl q4 l3.length m4 65 3 (ints (flat3 l3))] → K [.slice q4 l3.length m4] H5 := fun q4 m4 H5 l3 hl3 hn3 hs5 => by
              refine hK _ _ _ H5 ?_
              rw [e8i, e8j, tdivN, tdivN, d8i, d8j, wN (k := 8 * i) (by omega), wN (k := 8 * j) (by omega), ← Int.natCast_add, wN (k := sideM half * i + sideM half) (by omega)]
              refine ⟨by omega, by omega, by omega, by omega, rfl, by decide, rfl, by decide, hs5.alc fun b22 H6 hs6 => ?_⟩
              refine hs6.appC 1 0 (el := 65) (k := 3) (n := 2) (cs := #[.int .i64 1, .int .i64 (8 * i : Nat), .int .i64 (8 * j : Nat), .int .i64 2, .int .i64 (8 * i : Nat), .int .i64 (8 * j : Nat)]) rfl rfl rfl (by simp [Value.oneCell']) (by decide) rfl (by omega) (by omega) fun q5 m5 H7 hs7 => ?_
              have hs7 := hs7.tail
              have e1 : sideM half * i + sideM half = sideM half * (i + 1) := by rw [Nat.mul_succ]
              rw [e1]
              have e2 : l3 ++ [(1, 8 * i, 8 * j), (2, 8 * i, 8 * j)] = l ++ rowU half j (i + 1) := by
                rw [hl3, hl2, List.append_assoc]; congr 1
                unfold rowU; rw [flatMap_succ (β := Nat × Nat × Nat) (α := Nat)]
              have := ihi hlti H7 q5 m5 _ e2 (by
                rw [List.length_append, flat3_append, ints_append]
                exact hs7)
              rw [List.length_append] at this
              exact this
            refine br_i (fun ht => ?_) (fun hf => ?_)
            · subst ht
              rw [show sideM true = 16 from rfl] at *
              have e1 : IntKind.wrap .i64 (((16 * i : Nat) : Int) + 8) = ((16 * i + 8 : Nat) : Int) := by rw [wrap_id (by omega) (by omega)]; omega
              have e2 : IntKind.wrap .i64 (((16 * j : Nat) : Int) + 8) = ((16 * j + 8 : Nat) : Int) := by rw [wrap_id (by omega) (by omega)]; omega
              rw [e1, e2]
              refine ⟨rfl, by decide, rfl, by decide, rfl, by decide, hs4.alc fun b26 H6 hs6 => ?_⟩
              refine hs6.appC 1 0 (el := 65) (k := 3) (n := 3) (cs := #[.int .i64 0, .int .i64 (16 * i + 8 : Nat), .int .i64 (16 * j : Nat), .int .i64 0, .int .i64 (16 * i : Nat), .int .i64 (16 * j + 8 : Nat), .int .i64 0, .int .i64 (16 * i + 8 : Nat), .int .i64 (16 * j + 8 : Nat)]) rfl rfl rfl (by simp [Value.oneCell']) (by decide) rfl (by omega) (by omega) fun q5 m5 H7 hs7 => ?_
              have hs7 := hs7.tail
              have := last q5 m5 H7 (l2 ++ [(0, 16 * i, 16 * j), (0, 16 * i + 8, 16 * j), (0, 16 * i, 16 * j + 8), (0, 16 * i + 8, 16 * j + 8)]) (by simp [unitM]) (by simp; omega) (by
                rw [List.length_append, flat3_append, ints_append]
                rw [List.append_assoc] at hs7
                exact hs7)
              rw [List.length_append] at this
              exact this
            · subst hf
              have := last q3 m3 H4 (l2 ++ [(0, 8 * i, 8 * j)]) (by simp [unitM]) (by simp; omega) (by
                rw [List.length_append, flat3_append, ints_append]
                exact hs4)
              rw [List.length_append] at this
              exact this
          · have hni : ¬ i < unitsN half W := fun h => hge (by have := units_lt.2 h; omega)
            have : i = unitsN half W := by omega
            rw [← Int.natCast_add, wN (k := sideM half * j + sideM half) (by omega)]
            have e1 : sideM half * j + sideM half = sideM half * (j + 1) := by rw [Nat.mul_succ]
            rw [e1]
            subst this
            exact ihj hltj H2 q m l2 (by rw [hl2, hl, flatMap_succ (β := Nat × Nat × Nat) (α := Nat)]) hs2
        exact inner 0 (by omega) H1 q m l (by simp [rowU]) hs1
      · have hni : ¬ j < unitsN half Ht := fun h => hge (by have := units_lt.2 h; omega)
        have : j = unitsN half Ht := by omega
        subst this
        have e : l = orderM W Ht half := hl
        rw [e] at hs1 ⊢
        exact hR H1 q m hs1
    exact outer 0 (by omega) H none 0 [] rfl ((St.nil H).nilSl _ 3)
  refine br_i (fun ht => ?_) (fun hf => ?_)
  · subst ht; exact main
  · subst hf; exact main
end Go.Proofs
namespace Go.Proofs
open Go.Sh
variable {H0 H : Heap} {σ : List Rs} {R : Value → Heap → Prop}
def SizedM (w h : Int) : Prop := 1 ≤ w ∧ 1 ≤ h ∧ w ≤ 32768 ∧ h ≤ 32768 ∧ w * h ≤ 4194304
instance (w h : Int) : Decidable (SizedM w h) := inferInstanceAs (Decidable (_ ∧ _))
theorem mul_bd2 {w h : Int} (h1 : 1 ≤ w ∧ w ≤ 32768) (h2 : 1 ≤ h ∧ h ≤ 32768) : 1 ≤ w * h ∧ w * h ≤ 1073741824 := by
 have := mul_bd (x := w) (y := h) (A := 32768) (B := 32768) (by omega) (by omega)
 have h3 : 0 < w * h := Int.mul_pos (by omega) (by omega)
 omega
theorem c22 {w h : Int} (hR : R (.bool (decide (SizedM w h))) H) : CallsH Try.prog 22 #[.int .i64 w, .int .i64 h] H R := by
 have no : ¬ SizedM w h → R (.bool false) H := fun hn => by rw [decide_eq_false hn] at hR; exact hR
 refine Try.s22 (br_dec (fun h1 => br_dec (fun h2 => br_dec (fun h3 => br_dec (fun h4 => ?_) (fun h4 => no fun hs => by unfold SizedM at hs; omega)) (fun h3 => no fun hs => by unfold SizedM at hs; omega)) (fun h2 => no fun hs => by unfold SizedM at hs; omega)) (fun h1 => no fun hs => by unfold SizedM at hs; omega))
 have := mul_bd2 (w := w) (h := h) (by omega) (by omega)
 rw [wrap_id (by omega) (by omega)]
 have e : decide (w * h ≤ 4194304) = decide (SizedM w h) := by unfold SizedM; congr 1; apply propext; constructor <;> intro hh <;> omega
 rw [e]; exact hR
theorem c11 {w h : Int} (hR : R (.bool (decide (SizedM w h))) H) : CallsH Try.prog 11 #[.int .i64 w, .int .i64 h] H R := by
 have no : ¬ SizedM w h → R (.bool false) H := fun hn => by rw [decide_eq_false hn] at hR; exact hR
 refine Try.s11 (br_dec (fun h1 => br_dec (fun h2 => br_dec (fun h3 => br_dec (fun h4 => ?_) (fun h4 => no fun hs => by unfold SizedM at hs; omega)) (fun h3 => no fun hs => by unfold SizedM at hs; omega)) (fun h2 => no fun hs => by unfold SizedM at hs; omega)) (fun h1 => no fun hs => by unfold SizedM at hs; omega))
 have := mul_bd2 (w := w) (h := h) (by omega) (by omega)
 rw [wrap_id (by omega) (by omega)]
 have e : decide (w * h ≤ 4194304) = decide (SizedM w h) := by unfold SizedM; congr 1; apply propext; constructor <;> intro hh <;> omega
 rw [e]; exact hR
def stL (q : Int) (d : Bool) : List Int := if 1 ≤ q ∧ q ≤ 100 then stepsM q d else List.replicate 64 0
theorem stL_len (q : Int) (d : Bool) : (stL q d).length = 64 := by unfold stL; split <;> simp [stepsM_len]
theorem stepsC {q : Int} {d : Bool} (hR : ∀ H', Ext H H' → R (.tuple #[.agg (ints (stL q d)).toArray, .bool (decide (1 ≤ q ∧ q ≤ 100))]) H') : CallsH Try.prog 14 #[.int .i64 q, .bool d] H R := by
 refine c14 (fun hn H' e => ?_) (fun hq H' e => ?_)
 ·have := hR H' e; unfold stL at this; rw [if_neg hn, decide_eq_false hn] at this; exact this
 ·have := hR H' e; unfold stL at this; rw [if_pos hq, decide_eq_true hq] at this; exact this
def smpL (W Ht : Nat) (rgb : List Int) (half : Bool) (t : Nat × Nat × Nat) : List Int := (List.range 64).map fun i => sampM W Ht rgb half t.1 (t.2.1 + i % 8) (t.2.2 + i / 8) - 128
def blockV (W Ht : Nat) (rgb : List Int) (q : Int) (half : Bool) (t : Nat × Nat × Nat) : List Int := (List.range 64).map fun i => inStepsM ((fwdM (smpL W Ht rgb half t)).getD i 0) (stepV q (decide (0 < t.1)) i)
def blocksL (W Ht : Nat) (rgb : List Int) (q : Int) (half : Bool) : List (List Int) := (orderM W Ht half).map (blockV W Ht rgb q half)
theorem smpL_len (W Ht : Nat) (rgb : List Int) (half : Bool) (t : Nat × Nat × Nat) : (smpL W Ht rgb half t).length = 64 := tab_len _ _
theorem smpL_small (W Ht : Nat) (rgb : List Int) (half : Bool) (t : Nat × Nat × Nat) : Small (smpL W Ht rgb half t) := by
 refine ⟨smpL_len _ _ _ _ _, fun i => ?_⟩
 by_cases h : i < 64
 ·rw [show (smpL W Ht rgb half t).getD i 0 = _ from tab_getD h]
  have := sampM_rng W Ht rgb half t.1 (t.2.1 + i % 8) (t.2.2 + i / 8)
  omega
 ·rw [List.getD_eq_getElem?_getD, List.getElem?_eq_none (by rw [smpL_len]; omega)]; decide
theorem fwd_rng {s : List Int} (h : Small s) {i : Nat} (hi : i < 64) : -5000 ≤ (fwdM s).getD i 0 ∧ (fwdM s).getD i 0 ≤ 5000 := by
 rw [show (fwdM s).getD i 0 = _ from tab_getD hi]; exact near_bd h _ _
theorem blockV_len (W Ht : Nat) (rgb : List Int) (q : Int) (half : Bool) (t : Nat × Nat × Nat) : (blockV W Ht rgb q half t).length = 64 := tab_len _ _
theorem blocksL_len (W Ht : Nat) (rgb : List Int) (q : Int) (half : Bool) : (blocksL W Ht rgb q half).length = (orderM W Ht half).length := by simp [blocksL]
theorem blocksL_64 (W Ht : Nat) (rgb : List Int) (q : Int) (half : Bool) : ∀ b ∈ blocksL W Ht rgb q half, b.length = 64 := fun b hb => by
 obtain ⟨t, _, rfl⟩ := List.mem_map.1 hb; exact blockV_len _ _ _ _ _ _
theorem flat64_len : ∀ {l : List (List Int)}, (∀ b ∈ l, b.length = 64) → l.flatten.length = 64 * l.length
 | [], _ => rfl
 | b :: l, h => by rw [List.flatten_cons, List.length_append, h b (List.mem_cons_self ..), flat64_len fun c hc => h c (List.mem_cons_of_mem _ hc), List.length_cons]; omega
theorem flat64_get : ∀ {l : List (List Int)}, (∀ b ∈ l, b.length = 64) → ∀ {i j : Nat} {b : List Int}, l[i]? = some b → j < 64 → l.flatten[i * 64 + j]? = b[j]?
 | c :: l, h, 0, j, b, hb, hj => by
  simp at hb; subst hb
  have := h c (List.mem_cons_self ..)
  rw [List.flatten_cons, Nat.zero_mul, Nat.zero_add, List.getElem?_append_left (by omega)]
 | c :: l, h, i + 1, j, b, hb, hj => by
  have h1 := h c (List.mem_cons_self ..)
  rw [List.flatten_cons, List.getElem?_append_right (by rw [h1]; omega), h1, show (i + 1) * 64 + j - 64 = i * 64 + j from by omega]
  exact flat64_get (fun c hc => h c (List.mem_cons_of_mem _ hc)) (by simpa using hb) hj
theorem setL_all {c l : List Value} (h : l.length = c.length) : setL c 0 l = l := by unfold setL; simp [h]
theorem St.row64 (hs : St H0 H σ) (i : Nat) {p : Option Addr} {n c : Nat} {el : TypeId} {l : List (List Int)} (hi : σ[i]? = some (.sl p n c el 64 (ints l.flatten))) (h64 : ∀ b ∈ l, b.length = 64) {t : Nat} {b : List Int} (hb : l[t]? = some b) (ht : t < n) :
    ∃ blk, p = some ⟨blk, 0, none⟩ ∧ rowIn H ⟨blk, t * 64, none⟩ (ints b).toArray :=
  (hs.rs i hi).row ht (by decide) fun j v hv => by
    rw [List.getElem?_toArray] at hv
    have hj := (List.getElem?_eq_some_iff.1 hv).1
    rw [ints_len, h64 b (List.mem_of_getElem? hb)] at hj
    simp only [ints, List.getElem?_map] at hv ⊢
    rw [flat64_get h64 hb hj]; exact hv
end Go.Proofs
namespace Go.Proofs
open Go.Sh
theorem gD_left {α : Type} (a b : List α) (d : α) (i : Nat) (h : i < a.length) : (a ++ b).getD i d = a.getD i d := by simp [List.getD_eq_getElem?_getD, List.getElem?_append_left h]
theorem gD_right {α : Type} (a b : List α) (d : α) (i : Nat) (h : a.length ≤ i) : (a ++ b).getD i d = b.getD (i - a.length) d := by simp [List.getD_eq_getElem?_getD, List.getElem?_append_right h]
theorem gD_none {α : Type} (a : List α) (d : α) {i : Nat} (h : a.length ≤ i) : a.getD i d = d := by simp [List.getD_eq_getElem?_getD, List.getElem?_eq_none h]
theorem gD_get {α : Type} {a : List α} {d : α} {i : Nat} {x : α} (h : a[i]? = some x) : a.getD i d = x := by simp [List.getD_eq_getElem?_getD, h]
theorem get_gD {α : Type} (a : List α) (d : α) {i : Nat} (h : i < a.length) : a[i]? = some (a.getD i d) := by rw [List.getD_eq_getElem?_getD, List.getElem?_eq_getElem h]; rfl
def bpos (hi : Bool) (i : Nat) : Nat := if hi then 7 - i % 8 else i % 8
def bitB (hi : Bool) (B : List Int) (i : Nat) : Int := B.getD (i / 8) 0 / 2 ^ bpos hi i % 2
def numB (hi : Bool) (B : List Int) (at_ : Nat) : Nat → Int
 | 0 => 0
 | n + 1 => if hi then 2 * numB hi B at_ n + bitB hi B (at_ + n) else numB hi B at_ n + bitB hi B (at_ + n) * 2 ^ n
theorem bpos_lt (hi : Bool) (i : Nat) : bpos hi i < 8 := by unfold bpos; split <;> omega
theorem bpos_ne {hi : Bool} {i j : Nat} (h : i / 8 = j / 8) (hne : i ≠ j) : bpos hi i ≠ bpos hi j := by unfold bpos; split <;> omega
theorem bitB_rng (hi : Bool) (B : List Int) (i : Nat) : bitB hi B i = 0 ∨ bitB hi B i = 1 := by unfold bitB; omega
theorem pow_cast (n : Nat) : ((2 ^ n : Nat) : Int) = (2 : Int) ^ n := by simp
theorem two_pow_pos (n : Nat) : (0 : Int) < 2 ^ n := Int.pow_pos (by omega)
theorem pow_le {m n : Nat} (h : m ≤ n) : (2 : Int) ^ m ≤ 2 ^ n := by
 rw [← pow_cast, ← pow_cast]; exact Int.ofNat_le.2 (Nat.pow_le_pow_right (by omega) h)
theorem numB_rng (hi : Bool) (B : List Int) (at_ : Nat) : ∀ n, 0 ≤ numB hi B at_ n ∧ numB hi B at_ n < 2 ^ n
 | 0 => by simp [numB]
 | n + 1 => by
  have h := numB_rng hi B at_ n
  have hp := two_pow_pos n
  rw [numB, Int.pow_succ]
  rcases bitB_rng hi B (at_ + n) with hb | hb <;> rw [hb] <;> split <;> omega
theorem ofInt_nat {n : Nat} {x : Int} (h0 : 0 ≤ x) (h1 : x < 2 ^ n) : (BitVec.ofInt n x).toNat = x.toNat := by
 rw [BitVec.toNat_ofInt]
 congr 1
 rw [pow_cast]; exact Int.emod_eq_of_lt h0 h1
theorem or_sum {a b : Int} {k : Nat} (a0 : 0 ≤ a) (ak : a < 2 ^ k) (b0 : 0 ≤ b) (hs : a + b * 2 ^ k < 9223372036854775808) : orI .i64 a (b * 2 ^ k) = a + b * 2 ^ k := by
 have hp := two_pow_pos k
 have hb : 0 ≤ b * 2 ^ k := Int.mul_nonneg b0 (Int.le_of_lt hp)
 have e64 : (2 : Int) ^ 64 = 18446744073709551616 := by decide
 unfold orI
 rw [show IntKind.bits .i64 = 64 from rfl, BitVec.toNat_or, ofInt_nat a0 (by omega), ofInt_nat hb (by omega)]
 have h1 : (b * 2 ^ k).toNat = 2 ^ k * b.toNat := by
  obtain ⟨n, rfl⟩ := Int.eq_ofNat_of_zero_le b0
  rw [← pow_cast, ← Int.natCast_mul, Int.toNat_natCast, Int.toNat_natCast, Nat.mul_comm]
 have h2 : a.toNat < 2 ^ k := by
  have := pow_cast k; omega
 rw [h1, Nat.or_comm, ← Nat.two_pow_add_eq_or_of_lt h2, ← h1]
 rw [wrap_id (by omega) (by omega)]
 omega
theorem or_sum' {a b : Int} {k : Nat} (a0 : 0 ≤ a) (ak : a < 2 ^ k) (b0 : 0 ≤ b) (hs : a + b * 2 ^ k < 9223372036854775808) : orI .i64 (b * 2 ^ k) a = a + b * 2 ^ k := by
 rw [← or_sum a0 ak b0 hs]
 unfold orI
 rw [BitVec.or_comm]
theorem shl_of {x : Int} {k : Nat} (h0 : 0 ≤ x) (hk : k ≤ 62) (hs : x * 2 ^ k < 9223372036854775808) : shlI .i64 x k = x * 2 ^ k := by
 unfold shlI
 rw [show min (k : Int).toNat (IntKind.bits .i64) = k from by rw [Int.toNat_natCast]; exact Nat.min_eq_left (by show k ≤ 64; omega)]
 have := Int.mul_nonneg h0 (Int.le_of_lt (two_pow_pos k))
 exact wrap_id (by omega) (by omega)
theorem shr_of (x : Int) {k : Nat} (hk : k ≤ 62) : shrI .i64 x k = x / 2 ^ k := by
 unfold shrI
 rw [show min (k : Int).toNat (IntKind.bits .i64) = k from by rw [Int.toNat_natCast]; exact Nat.min_eq_left (by show k ≤ 64; omega)]
 exact Int.fdiv_eq_ediv_of_nonneg _ (Int.le_of_lt (two_pow_pos k))
theorem shr8_of (x : Int) {k : Nat} (hk : k ≤ 8) : shrI .u8 x k = x / 2 ^ k := by
 unfold shrI
 rw [show min (k : Int).toNat (IntKind.bits .u8) = k from by rw [Int.toNat_natCast]; exact Nat.min_eq_left hk]
 exact Int.fdiv_eq_ediv_of_nonneg _ (Int.le_of_lt (two_pow_pos k))
theorem andI_1 (a : Int) : andI .i64 a (1 : Int) = a % 2 := by
 unfold andI
 rw [show IntKind.bits .i64 = 64 from rfl, BitVec.toNat_and, BitVec.toNat_ofInt, BitVec.toNat_ofInt]
 rw [show ((1 : Int) % ((2 ^ 64 : Nat) : Int)).toNat = 1 from by decide, Nat.and_one_is_mod]
 have h2 : (((a % ((2 ^ 64 : Nat) : Int)).toNat % 2 : Nat) : Int) = a % 2 := by
  rw [show ((2 ^ 64 : Nat) : Int) = 18446744073709551616 from by decide]; omega
 rw [h2]
 exact wrap_id (by omega) (by omega)
theorem one1 {v : Value} (h : v.oneCell' = true) : ∀ u ∈ [v], u.oneCell' = true := fun u hu => by rw [List.mem_singleton.1 hu]; exact h
theorem or_byte : ∀ (x : Fin 256) (j : Fin 8) (b : Fin 2), x.val / 2 ^ j.val % 2 = 0 → orI .u8 (x.val : Int) (shlI .u8 (b.val : Int) (j.val : Int)) = ((x.val + b.val * 2 ^ j.val : Nat) : Int) ∧ x.val + b.val * 2 ^ j.val < 256 := by decide +kernel
theorem bit_set : ∀ (x : Fin 256) (j : Fin 8) (b : Fin 2) (i : Fin 8), x.val / 2 ^ j.val % 2 = 0 → (x.val + b.val * 2 ^ j.val) / 2 ^ i.val % 2 = if i = j then b.val else x.val / 2 ^ i.val % 2 := by decide +kernel
structure WOk (hi : Bool) (ws B : List Int) : Prop where
 len : B.length = (ws.length + 7) / 8
 rng : ∀ x ∈ B, 0 ≤ x ∧ x < 256
 bit : ∀ i : Nat, bitB hi B i = ws.getD i 0
theorem WOk.nil (hi : Bool) : WOk hi [] [] := ⟨rfl, by simp, fun i => by simp [bitB]⟩
theorem getD_rng {B : List Int} (h : ∀ x ∈ B, 0 ≤ x ∧ x < 256) (i : Nat) : 0 ≤ B.getD i 0 ∧ B.getD i 0 < 256 := by
 rw [List.getD_eq_getElem?_getD]
 cases hb : B[i]? with
 | none => simp
 | some x => exact h x (List.mem_of_getElem? hb)
theorem WOk.put {hi : Bool} {ws B : List Int} {b : Int} (h : WOk hi ws B) (hb : b = 0 ∨ b = 1) {C : List Int} (hC : C = if ws.length % 8 = 0 then B ++ [0] else B) :
    ∃ x, C[ws.length / 8]? = some x ∧ 0 ≤ x ∧ x < 256 ∧ WOk hi (ws ++ [b]) (C.set (ws.length / 8) (orI .u8 x (shlI .u8 b (bpos hi ws.length)))) := by
  have hl := h.len
  have hlen : C.length = ws.length / 8 + 1 := by
    rw [hC]; split
    · simp; omega
    · omega
  have hr : ∀ x ∈ C, 0 ≤ x ∧ x < 256 := by
    rw [hC]; split
    · intro x hx
      rcases List.mem_append.1 hx with hx | hx
      · exact h.rng x hx
      · simp at hx; subst hx; omega
    · exact h.rng
  have hbit : ∀ i : Nat, bitB hi C i = ws.getD i 0 := fun i => by
    rw [← h.bit i, hC]
    split
    · unfold bitB
      by_cases hi' : i / 8 < B.length
      · rw [gD_left _ _ _ _ hi']
      · rw [gD_none B _ (by omega)]
        by_cases he : i / 8 = B.length
        · rw [gD_right _ _ _ _ (by omega), he, Nat.sub_self]; rfl
        · rw [gD_none _ _ (by simp; omega)]
    · rfl
  have hx : C[ws.length / 8]? = some (C.getD (ws.length / 8) 0) := by
    rw [List.getD_eq_getElem?_getD, List.getElem?_eq_getElem (by omega)]; rfl
  generalize hxe : C.getD (ws.length / 8) 0 = x at hx
  have hxr := hr x (List.mem_of_getElem? hx)
  refine ⟨x, hx, hxr.1, hxr.2, ?_⟩
  obtain ⟨n, rfl⟩ := Int.eq_ofNat_of_zero_le hxr.1
  have hn : n < 256 := by omega
  obtain ⟨c, hc, rfl⟩ : ∃ c : Nat, c < 2 ∧ b = (c : Int) := by
    rcases hb with rfl | rfl
    · exact ⟨0, by omega, rfl⟩
    · exact ⟨1, by omega, rfl⟩
  have hz : n / 2 ^ bpos hi ws.length % 2 = 0 := by
    have h1 := hbit ws.length
    unfold bitB at h1
    rw [hxe, gD_none _ _ (Nat.le_refl _), ← pow_cast] at h1
    omega
  obtain ⟨ho, ho2⟩ := or_byte ⟨n, hn⟩ ⟨bpos hi ws.length, bpos_lt hi _⟩ ⟨c, hc⟩ hz
  simp only at ho ho2
  rw [ho]
  refine ⟨by rw [List.length_set, hlen, List.length_append, List.length_singleton]; omega, fun y hy => ?_, fun i => ?_⟩
  · rcases List.mem_or_eq_of_mem_set hy with hy | rfl
    · exact hr y hy
    · exact ⟨Int.natCast_nonneg _, Int.ofNat_lt.2 ho2⟩
  · by_cases he : i / 8 = ws.length / 8
    · have hs := bit_set ⟨n, hn⟩ ⟨bpos hi ws.length, bpos_lt hi _⟩ ⟨c, hc⟩ ⟨bpos hi i, bpos_lt hi _⟩ hz
      simp only [Fin.mk.injEq] at hs
      have hg : (C.set (ws.length / 8) ((n + c * 2 ^ bpos hi ws.length : Nat) : Int)).getD (i / 8) 0 = ((n + c * 2 ^ bpos hi ws.length : Nat) : Int) := by
        rw [he, List.getD_eq_getElem?_getD, List.getElem?_set_self (by omega)]; rfl
      unfold bitB
      rw [hg, ← pow_cast]
      by_cases hil : i = ws.length
      · subst hil
        rw [if_pos rfl] at hs
        rw [gD_right _ _ _ _ (Nat.le_refl _), Nat.sub_self]
        show _ = (c : Int)
        omega
      · rw [if_neg (bpos_ne he hil)] at hs
        have h1 := hbit i
        unfold bitB at h1
        rw [he, hxe, ← pow_cast] at h1
        have h2 : (ws ++ [(c : Int)]).getD i 0 = ws.getD i 0 := by
          by_cases hlt : i < ws.length
          · rw [gD_left _ _ _ _ hlt]
          · rw [gD_none _ _ (by simp; omega), gD_none _ _ (by omega)]
        rw [h2, ← h1]
        omega
    · have hg : (C.set (ws.length / 8) ((n + c * 2 ^ bpos hi ws.length : Nat) : Int)).getD (i / 8) 0 = C.getD (i / 8) 0 := by
        rw [List.getD_eq_getElem?_getD, List.getElem?_set_ne (Ne.symm he), ← List.getD_eq_getElem?_getD]
      have h2 : (ws ++ [(c : Int)]).getD i 0 = ws.getD i 0 := by
        by_cases hlt : i < ws.length
        · rw [gD_left _ _ _ _ hlt]
        · rw [gD_none _ _ (by simp; omega), gD_none _ _ (by omega)]
      rw [h2, ← hbit i]
      unfold bitB
      rw [hg]
def bitsOf (hi : Bool) (v : Int) (n : Nat) : List Int := (List.range n).map fun k => v / 2 ^ (if hi then n - 1 - k else k) % 2
theorem bitsOf_len (hi : Bool) (v : Int) (n : Nat) : (bitsOf hi v n).length = n := by simp [bitsOf]
end Go.Proofs
namespace Go.Proofs
open Go.Sh
theorem shl64 {x k : Int} (h0 : 0 ≤ x) (h1 : x ≤ 1099511627776) (k0 : 0 ≤ k) (k1 : k ≤ 16) : shlI .i64 x k = x * 2 ^ k.toNat := by
 unfold shlI
 have hb : min k.toNat (IntKind.bits .i64) = k.toNat := by
  have : IntKind.bits .i64 = 64 := rfl
  rw [this]; omega
 rw [hb]
 have hp : (2 : Int) ^ k.toNat ≤ 65536 := by
  have h2 : 2 ^ k.toNat ≤ 2 ^ 16 := Nat.pow_le_pow_right (by omega) (by omega)
  have h3 : ((2 ^ k.toNat : Nat) : Int) = (2 : Int) ^ k.toNat := by simp
  have h4 : (2 : Nat) ^ 16 = 65536 := rfl
  omega
 have hq : (0 : Int) ≤ 2 ^ k.toNat := Int.pow_nonneg (by omega)
 have hm : x * 2 ^ k.toNat ≤ 1099511627776 * 65536 := Int.mul_le_mul h1 hp hq (by omega)
 have hm0 : 0 ≤ x * 2 ^ k.toNat := Int.mul_nonneg h0 hq
 exact wrap_id (by omega) (by omega)
theorem shr64 {x k : Int} (k0 : 0 ≤ k) (k1 : k ≤ 16) : shrI .i64 x k = x / 2 ^ k.toNat := by
 unfold shrI
 have hb : min k.toNat (IntKind.bits .i64) = k.toNat := by
  have : IntKind.bits .i64 = 64 := rfl
  rw [this]; omega
 rw [hb]
 exact Int.fdiv_eq_ediv_of_nonneg _ (Int.pow_nonneg (by omega))
def wt (n : Int) : Int := if n > 0 then 2 ^ (16 - n).toNat else 0
def wtM (ls : List Int) : Int := (ls.map wt).sum
structure OkW (ls : List Int) : Prop where
 len : ls.length ≤ 300
 rng : ∀ n ∈ ls, 0 ≤ n ∧ n ≤ 16
theorem wt_rng {n : Int} (h : 0 ≤ n ∧ n ≤ 16) : 0 ≤ wt n ∧ wt n ≤ 32768 := by
 unfold wt
 have : n = 0 ∨ n = 1 ∨ n = 2 ∨ n = 3 ∨ n = 4 ∨ n = 5 ∨ n = 6 ∨ n = 7 ∨ n = 8 ∨ n = 9 ∨ n = 10 ∨ n = 11 ∨ n = 12 ∨ n = 13 ∨ n = 14 ∨ n = 15 ∨ n = 16 := by omega
 rcases this with h | h | h | h | h | h | h | h | h | h | h | h | h | h | h | h | h <;> subst h <;> decide
theorem wt_shl {n : Int} (h : 0 < n ∧ n ≤ 16) : shlI .i64 (1 : Int) (16 - n) = wt n := by
 rw [shl64 (by omega) (by omega) (by omega) (by omega)]
 unfold wt
 rw [if_pos h.1]
 omega
theorem sum_append (a b : List Int) : (a ++ b).sum = a.sum + b.sum := by
 induction a with
 | nil => simp
 | cons x r ih => simp [ih]; omega
theorem wtM_snoc (a : List Int) (n : Int) : wtM (a ++ [n]) = wtM a + wt n := by unfold wtM; rw [List.map_append, sum_append]; simp
theorem wtM_rng {ls : List Int} (h : ∀ n ∈ ls, 0 ≤ n ∧ n ≤ 16) : 0 ≤ wtM ls ∧ wtM ls ≤ 32768 * ls.length := by
 induction ls with
 | nil => simp [wtM]
 | cons n r ih =>
  have h1 := wt_rng (h n List.mem_cons_self)
  have h2 := ih fun x hx => h x (List.mem_cons_of_mem _ hx)
  unfold wtM at *
  simp only [List.map_cons, List.sum_cons, List.length_cons]
  omega
theorem c64 {H : Heap} {p : Option Addr} {l c : Nat} {ls : List Int} (h : IS H p l (ints ls)) {R : Value → Heap → Prop} (hbad : ¬ OkW ls → R (.tuple #[.int .i64 0, .bool false]) H) (hgood : OkW ls → R (.tuple #[.int .i64 (wtM ls), .bool true]) H) :
    CallsH Try.prog 64 #[.slice p l c] H R := by
  have hl : ls.length = l := by have := h.len; rw [ints_len] at this; omega
  refine Try.s64 ?_
  unfold Try.S64
  refine br_dec (fun hb => hbad fun ok => by have := ok.len; omega) (fun hb => ?_)
  intro X hX
  have loop : ∀ (m s : Nat), l - s = m → s ≤ l → (∀ n ∈ ls.take s, 0 ≤ n ∧ n ≤ 16) → X [.int .i64 (wtM (ls.take s)), .int .i64 s] H := by
    intro m
    induction m with
    | zero =>
      intro s hm hs rg
      rw [List.take_of_length_le (by omega)] at rg ⊢
      exact hX _ _ H (br_n (by omega) (hgood ⟨by omega, rg⟩))
    | succ m ih =>
      intro s hm hs rg
      have ws : IntKind.wrap .i64 ((s : Int) + 1) = ((s + 1 : Nat) : Int) := by rw [wrap_id (by omega) (by omega)]; omega
      have hsl : s < ls.length := by omega
      have hv : ls[s]? = some ls[s] := List.getElem?_eq_getElem hsl
      have htake : ls.take (s + 1) = ls.take s ++ [ls[s]] := List.take_succ_eq_append_getElem hsl
      have hmem : ls[s] ∈ ls := List.getElem_mem hsl
      have hnx := ih (s + 1) (by omega) (by omega)
      rw [htake] at hnx
      generalize ls[s] = n at hv htake hmem hnx
      obtain ⟨blk, hp, cv⟩ := h.cell (ints_get hv)
      have hw := wtM_rng rg
      have htl : (ls.take s).length ≤ 300 := by simp; omega
      refine hX _ _ H (br_y (by omega) ⟨_, hp, by omega, by omega, n, by simpa using cv, ?_⟩)
      rw [ws]
      intro J hJ
      refine br_dec (fun hn => hbad fun ok => by have := ok.rng n hmem; omega) (fun n0 => br_dec (fun hn => hbad fun ok => by have := ok.rng n hmem; omega) (fun n16 => hJ H ?_))
      have rg' : ∀ x ∈ ls.take s ++ [n], 0 ≤ x ∧ x ≤ 16 := fun x hx => by
        rcases List.mem_append.1 hx with hx | hx
        · exact rg x hx
        · rw [List.mem_singleton] at hx; subst hx; omega
      have hwn := wt_rng (n := n) (by omega)
      have hnx := hnx rg'
      rw [wtM_snoc] at hnx
      refine br_dec (fun hpos => ?_) (fun hz => ?_)
      · have w1 : IntKind.wrap .i64 ((16 : Int) - n) = 16 - n := wrap_id (by omega) (by omega)
        rw [w1, wt_shl (by omega), wrap_id (n := wtM (ls.take s) + wt n) (by omega) (by omega)]
        exact ⟨by omega, hnx⟩
      · have : wt n = 0 := by unfold wt; rw [if_neg hz]
        rw [this, Int.add_zero] at hnx
        exact hnx
  have := loop l 0 (by omega) (by omega) (fun n hn => by simp at hn)
  simpa [wtM] using this
def rank (ls : List Int) (s n : Nat) : Nat := (ls.take s).countP (fun x => x == (n : Int))
def cnt (ls : List Int) (n : Nat) : Nat := if n = 0 then 0 else rank ls ls.length n
def base (ls : List Int) : Nat → Int
 | 0 => 0
 | n + 1 => 2 * (base ls n + cnt ls n)
def codeM (ls : List Int) (s : Nat) : Int := match ls[s]? with
 | some n => if n > 0 then base ls n.toNat + rank ls s n.toNat else 0
 | none => 0
def codesM (ls : List Int) : List Int := (List.range ls.length).map (codeM ls)
structure OkC (ls : List Int) : Prop where
 w : OkW ls
 le : wtM ls ≤ 65536
theorem rank_le (ls : List Int) (s n : Nat) : rank ls s n ≤ ls.length := Nat.le_trans List.countP_le_length (by simp; omega)
theorem cnt_le (ls : List Int) (n : Nat) : cnt ls n ≤ ls.length := by unfold cnt; split; omega; exact rank_le _ _ _
theorem base_rng (ls : List Int) : ∀ n, 0 ≤ base ls n ∧ base ls n ≤ ls.length * (2 ^ (n + 1) - 2)
 | 0 => by simp [base]
 | n + 1 => by
  have ih := base_rng ls n
  have hc := cnt_le ls n
  have e : (2 : Int) ^ (n + 1 + 1) = 2 ^ (n + 1) * 2 := Int.pow_succ ..
  rw [e]
  show 0 ≤ 2 * (base ls n + cnt ls n) ∧ 2 * (base ls n + cnt ls n) ≤ _
  generalize (2 : Int) ^ (n + 1) = z at *
  have e2 : (ls.length : Int) * (z * 2 - 2) = 2 * (ls.length * (z - 2)) + 2 * ls.length := by
   rw [Int.mul_sub, Int.mul_sub, ← Int.mul_assoc]; omega
  rw [e2]
  omega
theorem base_small {ls : List Int} (hl : ls.length ≤ 300) {n : Nat} (hn : n ≤ 16) : 0 ≤ base ls n ∧ base ls n ≤ 40000000 := by
 have h := base_rng ls n
 have h2 : 2 ^ (n + 1) ≤ 2 ^ 17 := Nat.pow_le_pow_right (by omega) (by omega)
 have h3 : ((2 ^ (n + 1) : Nat) : Int) = (2 : Int) ^ (n + 1) := by simp
 have h4 : (2 : Nat) ^ 17 = 131072 := rfl
 have h5 : (ls.length : Int) * (2 ^ (n + 1) - 2) ≤ 300 * (2 ^ (n + 1) - 2) := Int.mul_le_mul_of_nonneg_right (by omega) (by have := Nat.one_le_two_pow (n := n); have : (2:Nat)^(n+1) = 2^n * 2 := Nat.pow_succ ..; omega)
 omega
theorem rank_snoc {ls : List Int} {s : Nat} {v : Int} (h : ls[s]? = some v) (n : Nat) : rank ls (s + 1) n = rank ls s n + if v = (n : Int) then 1 else 0 := by
 obtain ⟨hl, hv⟩ := List.getElem?_eq_some_iff.1 h
 unfold rank
 rw [List.take_succ_eq_append_getElem hl, List.countP_append, hv]
 by_cases hvn : v = (n : Int) <;> simp [hvn]
def partM (ls : List Int) (n s i : Nat) : Int := match ls[i]? with
 | some v => if v > 0 ∧ (v < n ∨ (v = n ∧ i < s)) then codeM ls i else 0
 | none => 0
def partsM (ls : List Int) (n s : Nat) : List Int := (List.range ls.length).map (partM ls n s)
theorem partsM_set {ls : List Int} {n s : Nat} {v : Int} (h : ls[s]? = some v) (hv : v = (n : Int)) (hn : 0 < n) : (partsM ls n s).set s (codeM ls s) = partsM ls n (s + 1) := by
 apply List.ext_getElem?
 intro i
 have hsl := (List.getElem?_eq_some_iff.1 h).1
 have hpl : (partsM ls n s).length = ls.length := by simp [partsM]
 rw [List.getElem?_set]
 by_cases hi : i < ls.length
 ·have e1 : (partsM ls n (s + 1))[i]? = some (partM ls n (s + 1) i) := by simp [partsM, hi]
  have e0 : (partsM ls n s)[i]? = some (partM ls n s i) := by simp [partsM, hi]
  rw [e1, e0]
  by_cases hsi : s = i
  ·subst hsi
   rw [if_pos rfl, if_pos (by omega)]
   unfold partM
   rw [h]
   simp only
   rw [if_pos ⟨by omega, by omega⟩]
  ·rw [if_neg hsi]
   unfold partM
   have hg : ls[i]? = some ls[i] := List.getElem?_eq_getElem hi
   rw [hg]
   simp only
   by_cases hc : ls[i] > 0 ∧ (ls[i] < n ∨ (ls[i] = n ∧ i < s))
   ·rw [if_pos hc, if_pos ⟨hc.1, by omega⟩]
   ·rw [if_neg hc, if_neg fun hh => hc ⟨hh.1, by omega⟩]
 ·rw [List.getElem?_eq_none_iff.2 (by simp [partsM]; omega), List.getElem?_eq_none_iff.2 (by simp [partsM]; omega), if_neg (by omega)]
theorem partsM_skip {ls : List Int} {n s : Nat} {v : Int} (h : ls[s]? = some v) (hv : v ≠ (n : Int)) : partsM ls n s = partsM ls n (s + 1) := by
 apply List.map_congr_left
 intro i hi
 unfold partM
 have hil : i < ls.length := List.mem_range.1 hi
 have hg : ls[i]? = some ls[i] := List.getElem?_eq_getElem hil
 rw [hg]
 simp only
 by_cases hsi : i = s
 ·subst hsi
  rw [hg] at h; cases h
  by_cases hc : ls[i] > 0 ∧ (ls[i] < n ∨ (ls[i] = n ∧ i < i))
  ·rw [if_pos hc, if_pos ⟨hc.1, by omega⟩]
  ·rw [if_neg hc, if_neg fun hh => hc ⟨hh.1, by omega⟩]
 ·by_cases hc : ls[i] > 0 ∧ (ls[i] < n ∨ (ls[i] = n ∧ i < s))
  ·rw [if_pos hc, if_pos ⟨hc.1, by omega⟩]
  ·rw [if_neg hc, if_neg fun hh => hc ⟨hh.1, by omega⟩]
theorem partsM_next (ls : List Int) (n : Nat) : partsM ls n ls.length = partsM ls (n + 1) 0 := by
 apply List.map_congr_left
 intro i hi
 unfold partM
 have hil : i < ls.length := List.mem_range.1 hi
 have hg : ls[i]? = some ls[i] := List.getElem?_eq_getElem hil
 rw [hg]
 simp only
 by_cases hc : ls[i] > 0 ∧ (ls[i] < n ∨ (ls[i] = n ∧ i < ls.length))
 ·rw [if_pos hc, if_pos ⟨hc.1, by omega⟩]
 ·rw [if_neg hc, if_neg fun hh => hc ⟨hh.1, by omega⟩]
theorem partsM_first (ls : List Int) : partsM ls 1 0 = List.replicate ls.length 0 := by
 apply List.ext_getElem?
 intro i
 by_cases hi : i < ls.length
 ·simp only [partsM, List.getElem?_map, List.getElem?_range hi, Option.map_some, List.getElem?_replicate, if_pos hi]
  unfold partM
  have hg : ls[i]? = some ls[i] := List.getElem?_eq_getElem hi
  rw [hg]
  simp only
  rw [if_neg (by omega)]
 ·rw [List.getElem?_eq_none_iff.2 (by simp [partsM]; omega), List.getElem?_eq_none_iff.2 (by simp; omega)]
theorem partsM_last {ls : List Int} (h : ∀ n ∈ ls, 0 ≤ n ∧ n ≤ 16) : partsM ls 17 0 = codesM ls := by
 apply List.map_congr_left
 intro i hi
 have hil : i < ls.length := List.mem_range.1 hi
 have hg : ls[i]? = some ls[i] := List.getElem?_eq_getElem hil
 have hr := h _ (List.getElem_mem hil)
 unfold partM
 rw [hg]
 simp only
 by_cases hp : ls[i] > 0
 ·rw [if_pos ⟨hp, by omega⟩]
 ·rw [if_neg (fun hh => hp hh.1)]
  unfold codeM
  rw [hg]
  simp only
  rw [if_neg hp]
set_option maxHeartbeats 1000000 in
theorem c40 {H : Heap} {p : Option Addr} {l c : Nat} {ls : List Int} (h : IS H p l (ints ls)) {R : Value → Heap → Prop} (hbad : ¬ OkC ls → R (.tuple #[.slice none 0 0, .bool false]) H)
    (hgood : OkC ls → ∀ H' b, FS H.size H' (some ⟨b, 0, none⟩) l l 3 1 (ints (codesM ls)) → Ext H H' → R (.tuple #[.slice (some ⟨b, 0, none⟩) l l, .bool true]) H') : CallsH Try.prog 40 #[.slice p l c] H R := by
  have hl : ls.length = l := by have := h.len; rw [ints_len] at this; omega
  refine Try.s40 ?_
  unfold Try.S40 alc
  refine c64 h (fun hn => ⟨_, _, rfl, fun J hJ => br_t rfl (hbad fun ok => hn ok.w)⟩) (fun okw => ⟨_, _, rfl, ?_⟩)
  intro J hJ
  refine br_f rfl (br_dec (fun hgt => hbad fun ok => by have := ok.le; omega) (fun hle => hJ H ?_))
  have ok : OkC ls := ⟨okw, by omega⟩
  have l300 := okw.len
  rw [Int.toNat_natCast]
  refine ⟨by omega, by omega, by omega, by omega, ?_⟩
  have hb2 := get_push_self H (.cells (List.toArray (reps l [Value.int .i64 0])) 3)
  have e2 : Ext H (H.push (.cells (List.toArray (reps l [Value.int .i64 0])) 3)) := Ext.push _ _
  have out2 : FS H.size (H.push (.cells (List.toArray (reps l [Value.int .i64 0])) 3)) (some ⟨H.size, 0, none⟩) l l 3 1 (ints (partsM ls 1 0)) := by
    rw [partsM_first, hl]; exact zeros_FS (Nat.le_refl _) hb2
  generalize H.push (.cells (List.toArray (reps l [Value.int .i64 0])) 3) = H2 at e2 out2
  intro X hX
  have one : (0 : Int) ≤ 1 := by omega
  have levels : ∀ (m n : Nat) (H3 : Heap), 17 - n = m → 1 ≤ n → n ≤ 17 → Ext H H3 → FS H.size H3 (some ⟨H.size, 0, none⟩) l l 3 1 (ints (partsM ls n 0)) → X [.int .i64 (base ls (n - 1) + cnt ls (n - 1)), .int .i64 n] H3 := by
    intro m
    induction m with
    | zero =>
      intro n H3 hm hn1 hn e3 f3
      have : n = 17 := by omega
      subst this
      rw [partsM_last okw.rng] at f3
      exact hX _ _ H3 (br_n (by omega) (hgood ok H3 H.size f3 e3))
    | succ m ih =>
      intro n H3 hm hn1 hn e3 f3
      have wn : IntKind.wrap .i64 ((n : Int) + 1) = ((n + 1 : Nat) : Int) := by rw [wrap_id (by omega) (by omega)]; omega
      have hbs := base_small l300 (n := n - 1) (by omega)
      have hcs := cnt_le ls (n - 1)
      have hbn : shlI .i64 (base ls (n - 1) + cnt ls (n - 1)) (1 : Int) = base ls n := by
        rw [shl64 (by omega) (by omega) (by omega) (by omega)]
        have : n = n - 1 + 1 := by omega
        rw [this]
        show _ = 2 * (base ls (n - 1) + cnt ls (n - 1))
        simp; omega
      refine hX _ _ H3 (br_y (by omega) ⟨one, ?_⟩)
      rw [hbn, wn]
      intro Y hY
      have inner : ∀ (m2 s : Nat) (H4 : Heap), l - s = m2 → s ≤ l → Ext H H4 → FS H.size H4 (some ⟨H.size, 0, none⟩) l l 3 1 (ints (partsM ls n s)) → Y [.int .i64 (base ls n + rank ls s n), .int .i64 s] H4 := by
        intro m2
        induction m2 with
        | zero =>
          intro s H4 hm2 hs e4 f4
          have : s = ls.length := by omega
          subst this
          refine hY _ _ H4 (br_n (by omega) ?_)
          rw [partsM_next] at f4
          have := ih (n + 1) H4 (by omega) (by omega) (by omega) e4 f4
          have hc : cnt ls (n + 1 - 1) = rank ls ls.length n := by rw [Nat.add_sub_cancel]; unfold cnt; rw [if_neg (by omega)]
          rw [hc, Nat.add_sub_cancel] at this
          exact this
        | succ m2 ih2 =>
          intro s H4 hm2 hs e4 f4
          have ws : IntKind.wrap .i64 ((s : Int) + 1) = ((s + 1 : Nat) : Int) := by rw [wrap_id (by omega) (by omega)]; omega
          have hsl : s < ls.length := by omega
          have hv : ls[s]? = some ls[s] := List.getElem?_eq_getElem hsl
          generalize ls[s] = v at hv
          obtain ⟨blk, hp, cv⟩ := (h.ext e4).cell (ints_get hv)
          have hb := base_small l300 (n := n) (by omega)
          have hr := rank_le ls s n
          have hrs := rank_snoc hv n
          refine hY _ _ H4 (br_y (by omega) ⟨_, hp, by omega, by omega, v, by simpa using cv, br_eq (fun heq => ⟨_, rfl, by omega, by omega, ?_⟩) (fun hne => ?_)⟩)
          · rw [ws]
            simp only [add_none, Nat.zero_add, Nat.mul_one, Int.toNat_natCast]
            have hcode : base ls n + (rank ls s n : Int) = codeM ls s := by
              unfold codeM
              rw [hv]
              simp only
              rw [if_pos (by omega), heq, Int.toNat_natCast]
            have hw : IntKind.wrap .i64 (base ls n + (rank ls s n : Int) + 1) = base ls n + (rank ls (s + 1) n : Int) := by
              rw [wrap_id (by omega) (by omega), hrs, if_pos heq]; omega
            rw [hw]
            refine f4.set (by rw [ints_len]; simp [partsM]; omega) rfl fun H5 f5 hk5 hs5 => ?_
            rw [ints_set, hcode, partsM_set hv heq (by omega)] at f5
            exact ih2 (s + 1) H5 (by omega) (by omega) (fun b o hb => hk5 b o (e4 b o hb) (by have := lt_of_get hb; omega)) f5
          · rw [ws]
            rw [partsM_skip hv hne] at f4
            have := ih2 (s + 1) H4 (by omega) (by omega) e4 f4
            rw [hrs, if_neg hne, Nat.add_zero] at this
            exact this
      have := inner l 0 H3 (by omega) (by omega) e3 f3
      simpa [rank] using this
  have := levels 16 1 H2 rfl (by omega) (by omega) e2 out2
  simpa [base, cnt] using this
end Go.Proofs
