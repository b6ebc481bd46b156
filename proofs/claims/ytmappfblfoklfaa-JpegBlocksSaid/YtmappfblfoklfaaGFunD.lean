/-
  Printed by a program of mine (gen.py): each function, over heaps; and that what is said of it is said of its call.
-/
import Derived.Test.YtmappfblfoklfaaGTab
set_option linter.unusedVariables false
set_option maxRecDepth 100000
namespace Go.Proofs
open Go.Sh

/-- scumble/huff.NewDecoder -/
def Try.S54 (lengths1p : Option Addr) (lengths1l : Nat) (lengths1c : Nat) (H : Heap) (R : Value → Heap → Prop) : Prop :=
 CallsH Try.prog 62 #[Value.slice lengths1p lengths1l lengths1c] H fun r2 H_3 => ∃ r4p : Option Addr, ∃ r4l : Nat, ∃ r4c : Nat, ∃ r5 : Bool, r2 = Value.tuple #[Value.slice r4p r4l r4c, Value.bool r5] ∧ br (!r5)
 (R (Value.tuple #[Value.pointer none, Value.bool false]) H_3)
 (0 ≤ (1 : Int) ∧ (1 : Int) ≤ (1 : Int) ∧ ((16 : Nat) : Int) * (1 : Int) ≤ 281474976710656 ∧ (1 : Int) ≤ 281474976710656 ∧ alc H_3 (.cells (List.toArray (reps (Int.toNat (1 : Int)) (Array.toList #[Value.int .i64 0, Value.int .i64 0]))) 121) fun b6 H_7 => alc H_7 (.cells #[Value.slice (some ⟨b6, 0, none⟩) (Int.toNat (1 : Int)) (Int.toNat (1 : Int))] 120) fun b8 H_9 => ∀ X_10 : List Value → Heap → Prop, (∀ s11 : Int, ∀ H_12 : Heap, (br (decide ((s11 : Int) < ((lengths1l : Nat) : Int)))
 (∃ a13 : Addr, lengths1p = some a13 ∧ 0 ≤ s11 ∧ s11 < ((lengths1l : Nat) : Int) ∧ ∃ n14 : Int, cell H_12 (Addr.add a13 (Int.toNat s11 * 1)) = some (Value.int .i64 n14) ∧ ∀ X_15 : List Value → Heap → Prop, (∀ at_16 : Int, ∀ k17 : Int, ∀ H_18 : Heap, (br (decide ((k17 : Int) ≥ (0 : Int)))
 (∃ a19 : Addr, r4p = some a19 ∧ 0 ≤ s11 ∧ s11 < ((r4l : Nat) : Int) ∧ ∃ v20 : Int, cell H_18 (Addr.add a19 (Int.toNat s11 * 1)) = some (Value.int .i64 v20) ∧ 0 ≤ k17 ∧ br ((k17 : Int) == (0 : Int))
 (∃ a21 : Addr, (some ⟨b8, 0, none⟩) = some a21 ∧ ∃ nodes22p : Option Addr, ∃ nodes22l : Nat, ∃ nodes22c : Nat, cell H_18 (Addr.add a21 0) = some (Value.slice nodes22p nodes22l nodes22c) ∧ ∃ a23 : Addr, nodes22p = some a23 ∧ 0 ≤ at_16 ∧ at_16 < ((nodes22l : Nat) : Int) ∧ 0 ≤ (andI .i64 (shrI .i64 v20 k17) (1 : Int)) ∧ (andI .i64 (shrI .i64 v20 k17) (1 : Int)) < ((2 : Nat) : Int) ∧ stAt H_18 (Addr.add (Addr.add a23 (Int.toNat at_16 * 2)) (Int.toNat (andI .i64 (shrI .i64 v20 k17) (1 : Int)) * 1)) [Value.int .i64 (IntKind.wrap .i64 ((-1 : Int) - s11))] fun H_24 => X_10 [Value.int .i64 (IntKind.wrap .i64 (s11 + (1 : Int)))] H_24)
 (∀ J_25 : List Value → Heap → Prop, (∀ H_26 : Heap, (∃ a27 : Addr, (some ⟨b8, 0, none⟩) = some a27 ∧ ∃ nodes28p : Option Addr, ∃ nodes28l : Nat, ∃ nodes28c : Nat, cell H_26 (Addr.add a27 0) = some (Value.slice nodes28p nodes28l nodes28c) ∧ ∃ a29 : Addr, nodes28p = some a29 ∧ 0 ≤ at_16 ∧ at_16 < ((nodes28l : Nat) : Int) ∧ 0 ≤ (andI .i64 (shrI .i64 v20 k17) (1 : Int)) ∧ (andI .i64 (shrI .i64 v20 k17) (1 : Int)) < ((2 : Nat) : Int) ∧ ∃ at_30 : Int, cell H_26 (Addr.add (Addr.add a29 (Int.toNat at_16 * 2)) (Int.toNat (andI .i64 (shrI .i64 v20 k17) (1 : Int)) * 1)) = some (Value.int .i64 at_30) ∧ X_15 [Value.int .i64 at_30, Value.int .i64 (IntKind.wrap .i64 (k17 - (1 : Int)))] H_26) → J_25 [] H_26) →
 ∃ a31 : Addr, (some ⟨b8, 0, none⟩) = some a31 ∧ ∃ nodes32p : Option Addr, ∃ nodes32l : Nat, ∃ nodes32c : Nat, cell H_18 (Addr.add a31 0) = some (Value.slice nodes32p nodes32l nodes32c) ∧ ∃ a33 : Addr, nodes32p = some a33 ∧ 0 ≤ at_16 ∧ at_16 < ((nodes32l : Nat) : Int) ∧ 0 ≤ (andI .i64 (shrI .i64 v20 k17) (1 : Int)) ∧ (andI .i64 (shrI .i64 v20 k17) (1 : Int)) < ((2 : Nat) : Int) ∧ ∃ v34 : Int, cell H_18 (Addr.add (Addr.add a33 (Int.toNat at_16 * 2)) (Int.toNat (andI .i64 (shrI .i64 v20 k17) (1 : Int)) * 1)) = some (Value.int .i64 v34) ∧ br ((v34 : Int) == (0 : Int))
 (∃ a35 : Addr, (some ⟨b8, 0, none⟩) = some a35 ∧ ∃ nodes36p : Option Addr, ∃ nodes36l : Nat, ∃ nodes36c : Nat, cell H_18 (Addr.add a35 0) = some (Value.slice nodes36p nodes36l nodes36c) ∧ #[Value.int .i64 0, Value.int .i64 0].size = 2 ∧ 0 + 2 ≤ 2 ∧ alc H_18 (.cells (List.toArray (setL [Value.int .i64 0, Value.int .i64 0] 0 (Array.toList #[Value.int .i64 0, Value.int .i64 0]))) 121) fun b37 H_38 => appQ 2 16 #[Value.int .i64 0, Value.int .i64 0] H_38 nodes36p nodes36l nodes36c (some ⟨b37, 0, none⟩) 1 121 fun app39p app39l app39c H_40 => ∃ a41 : Addr, (some ⟨b8, 0, none⟩) = some a41 ∧ stAt H_40 (Addr.add a41 0) [Value.slice app39p app39l app39c] fun H_42 => ∃ a43 : Addr, (some ⟨b8, 0, none⟩) = some a43 ∧ ∃ nodes44p : Option Addr, ∃ nodes44l : Nat, ∃ nodes44c : Nat, cell H_42 (Addr.add a43 0) = some (Value.slice nodes44p nodes44l nodes44c) ∧ ∃ a45 : Addr, (some ⟨b8, 0, none⟩) = some a45 ∧ ∃ nodes46p : Option Addr, ∃ nodes46l : Nat, ∃ nodes46c : Nat, cell H_42 (Addr.add a45 0) = some (Value.slice nodes46p nodes46l nodes46c) ∧ ∃ a47 : Addr, nodes44p = some a47 ∧ 0 ≤ at_16 ∧ at_16 < ((nodes44l : Nat) : Int) ∧ 0 ≤ (andI .i64 (shrI .i64 v20 k17) (1 : Int)) ∧ (andI .i64 (shrI .i64 v20 k17) (1 : Int)) < ((2 : Nat) : Int) ∧ stAt H_42 (Addr.add (Addr.add a47 (Int.toNat at_16 * 2)) (Int.toNat (andI .i64 (shrI .i64 v20 k17) (1 : Int)) * 1)) [Value.int .i64 (IntKind.wrap .i64 (((nodes46l : Nat) : Int) - (1 : Int)))] fun H_48 => J_25 [] H_48)
 (J_25 [] H_18)))
 (X_10 [Value.int .i64 (IntKind.wrap .i64 (s11 + (1 : Int)))] H_18)) → X_15 [Value.int .i64 at_16, Value.int .i64 k17] H_18) → X_15 [Value.int .i64 (0 : Int), Value.int .i64 (IntKind.wrap .i64 (n14 - (1 : Int)))] H_12)
 (R (Value.tuple #[Value.pointer (some ⟨b8, 0, none⟩), Value.bool true]) H_12)) → X_10 [Value.int .i64 s11] H_12) → X_10 [Value.int .i64 (0 : Int)] H_9)
def Try.p54 : Plan := (Plan.two Plan.leaf (Plan.two Plan.leaf (Plan.two (Plan.two Plan.leaf (Plan.two (Plan.two Plan.leaf Plan.leaf) Plan.leaf)) (Plan.two Plan.leaf (Plan.two (Plan.two Plan.leaf (Plan.one (Plan.loop [(24, 3)] [4, 6, 22, 23] (Plan.two Plan.leaf (Plan.two (Plan.two Plan.leaf Plan.leaf) (Plan.two (Plan.one (Plan.two Plan.leaf (Plan.two Plan.leaf (Plan.two Plan.leaf (Plan.one (Plan.loop [(9, 3), (10, 3)] [4, 6, 7, 22, 23, 24] (Plan.two (Plan.two Plan.leaf (Plan.two Plan.leaf Plan.leaf)) (Plan.two (Plan.one (Plan.two Plan.leaf (Plan.two (Plan.two Plan.leaf (Plan.two (Plan.two Plan.leaf Plan.leaf) Plan.leaf)) (Plan.two (Plan.join [] [4, 6, 7, 9, 10, 11, 22, 23, 24] (Plan.two Plan.leaf (Plan.two (Plan.two Plan.leaf Plan.leaf) Plan.leaf))) Plan.leaf)))) Plan.leaf)))))))) Plan.leaf)))))) (Plan.two Plan.leaf Plan.leaf))))))
theorem Try.s54 {lengths1p : Option Addr} {lengths1l : Nat} {lengths1c : Nat} {H : Heap} {R : Value → Heap → Prop} (h : Try.S54 lengths1p lengths1l lengths1c H R) : CallsH Try.prog 54 #[Value.slice lengths1p lengths1l lengths1c] H R :=
  vcFun_sound Try.tab_ok Try.mixed Try.func54 Try.cal54 (p := Try.p54) (args := [Value.slice lengths1p lengths1l lengths1c]) (Eq.mp (by kernel_rfl : Try.S54 lengths1p lengths1l lengths1c H R = vcFun Try.prog Try.tab Try.f54 Try.p54 [Value.slice lengths1p lengths1l lengths1c] H R) h)

/-- (*scumble/bits.Reader).Get -/
def Try.S55 (r1 : Option Addr) (n2 : Int) (H : Heap) (R : Value → Heap → Prop) : Prop :=
 ∀ J_3 : List Value → Heap → Prop, (∀ H_4 : Heap, (∀ X_5 : List Value → Heap → Prop, (∀ v6 : Int, ∀ k7 : Int, ∀ H_8 : Heap, (br (decide ((k7 : Int) < n2))
 (∃ a9 : Addr, r1 = some a9 ∧ ∃ b10p : Option Addr, ∃ b10l : Nat, ∃ b10c : Nat, cell H_8 (Addr.add a9 0) = some (Value.slice b10p b10l b10c) ∧ ∃ a11 : Addr, r1 = some a11 ∧ ∃ at_12 : Int, cell H_8 (Addr.add a11 1) = some (Value.int .i64 at_12) ∧ (8 : Int) ≠ 0 ∧ ∃ a13 : Addr, b10p = some a13 ∧ 0 ≤ (IntKind.wrap .i64 (Int.tdiv at_12 (8 : Int))) ∧ (IntKind.wrap .i64 (Int.tdiv at_12 (8 : Int))) < ((b10l : Nat) : Int) ∧ ∃ v14 : Int, cell H_8 (Addr.add a13 (Int.toNat (IntKind.wrap .i64 (Int.tdiv at_12 (8 : Int))) * 1)) = some (Value.int .u8 v14) ∧ ∃ a15 : Addr, r1 = some a15 ∧ ∃ at_16 : Int, cell H_8 (Addr.add a15 1) = some (Value.int .i64 at_16) ∧ ∃ a17 : Addr, r1 = some a17 ∧ ∃ high18 : Bool, cell H_8 (Addr.add a17 2) = some (Value.bool high18) ∧ CallsH Try.prog 63 #[Value.int .i64 at_16, Value.bool high18] H_8 fun r19 H_20 => ∃ r21 : Int, r19 = Value.int .i64 r21 ∧ (Ext H_8 H_20 ∨ (∃ v31 : Int, cell H_20 (Addr.add a13 (Int.toNat (IntKind.wrap .i64 (Int.tdiv at_12 (8 : Int))) * 1)) = some (Value.int .u8 v31) ∧ Value.int .u8 v31 = Value.int .u8 v14) ∧ (∃ at_32 : Int, cell H_20 (Addr.add a11 1) = some (Value.int .i64 at_32) ∧ Value.int .i64 at_32 = Value.int .i64 at_12) ∧ (∃ b33p : Option Addr, ∃ b33l : Nat, ∃ b33c : Nat, cell H_20 (Addr.add a9 0) = some (Value.slice b33p b33l b33c) ∧ Value.slice b33p b33l b33c = Value.slice b10p b10l b10c)) ∧ 0 ≤ r21 ∧ ∀ J_22 : List Value → Heap → Prop, (∀ v23 : Int, ∀ H_24 : Heap, (∃ a25 : Addr, r1 = some a25 ∧ ∃ at_26 : Int, cell H_24 (Addr.add a25 1) = some (Value.int .i64 at_26) ∧ ∃ a27 : Addr, r1 = some a27 ∧ stAt H_24 (Addr.add a27 1) [Value.int .i64 (IntKind.wrap .i64 (at_26 + (1 : Int)))] fun H_28 => X_5 [Value.int .i64 v23, Value.int .i64 (IntKind.wrap .i64 (k7 + (1 : Int)))] H_28) → J_22 [Value.int .i64 v23] H_24) →
 ∃ a29 : Addr, r1 = some a29 ∧ ∃ high30 : Bool, cell H_20 (Addr.add a29 2) = some (Value.bool high30) ∧ br high30
 (0 ≤ (1 : Int) ∧ J_22 [Value.int .i64 (orI .i64 (shlI .i64 v6 (1 : Int)) (andI .i64 (IntKind.wrap .i64 (shrI .u8 v14 r21)) (1 : Int)))] H_20)
 (0 ≤ k7 ∧ J_22 [Value.int .i64 (orI .i64 v6 (shlI .i64 (andI .i64 (IntKind.wrap .i64 (shrI .u8 v14 r21)) (1 : Int)) k7))] H_20))
 (R (Value.tuple #[Value.int .i64 v6, Value.bool true]) H_8)) → X_5 [Value.int .i64 v6, Value.int .i64 k7] H_8) → X_5 [Value.int .i64 (0 : Int), Value.int .i64 (0 : Int)] H_4) → J_3 [] H_4) →
 br (decide ((n2 : Int) < (0 : Int))) (R (Value.tuple #[Value.int .i64 (0 : Int), Value.bool false]) H) (br (decide ((n2 : Int) > (24 : Int))) (R (Value.tuple #[Value.int .i64 (0 : Int), Value.bool false]) H) (CallsH Try.prog 27 #[Value.pointer r1] H fun r34 H_35 => ∃ r36 : Int, r34 = Value.int .i64 r36 ∧ br (decide ((n2 : Int) > r36))
 (R (Value.tuple #[Value.int .i64 (0 : Int), Value.bool false]) H_35)
 (J_3 [] H_35)))
def Try.p55 : Plan := (Plan.two Plan.leaf (Plan.two (Plan.join [] [0, 1] (Plan.two Plan.leaf (Plan.two (Plan.two Plan.leaf Plan.leaf) Plan.leaf))) (Plan.two Plan.leaf (Plan.two (Plan.two Plan.leaf (Plan.one (Plan.loop [(6, 3), (22, 3)] [0, 21] (Plan.two Plan.leaf (Plan.two (Plan.two Plan.leaf Plan.leaf) (Plan.two (Plan.one (Plan.two Plan.leaf (Plan.two Plan.leaf (Plan.two (Plan.join [(6, 3)] [0, 21, 22] (Plan.two Plan.leaf (Plan.two Plan.leaf Plan.leaf))) Plan.leaf)))) Plan.leaf)))))) (Plan.two Plan.leaf Plan.leaf)))))
theorem Try.s55 {r1 : Option Addr} {n2 : Int} {H : Heap} {R : Value → Heap → Prop} (h : Try.S55 r1 n2 H R) : CallsH Try.prog 55 #[Value.pointer r1, Value.int .i64 n2] H R :=
  vcFun_sound Try.tab_ok Try.mixed Try.func55 Try.cal55 (p := Try.p55) (args := [Value.pointer r1, Value.int .i64 n2]) (Eq.mp (by kernel_rfl : Try.S55 r1 n2 H R = vcFun Try.prog Try.tab Try.f55 Try.p55 [Value.pointer r1, Value.int .i64 n2] H R) h)

/-- (*scumble/huff.Decoder).Step -/
def Try.S56 (d1 : Option Addr) (state2 : Int) (bit3 : Int) (H : Heap) (R : Value → Heap → Prop) : Prop :=
 ∀ J_4 : List Value → Heap → Prop, (∀ H_5 : Heap, (∃ a6 : Addr, d1 = some a6 ∧ ∃ nodes7p : Option Addr, ∃ nodes7l : Nat, ∃ nodes7c : Nat, cell H_5 (Addr.add a6 0) = some (Value.slice nodes7p nodes7l nodes7c) ∧ ∃ a8 : Addr, nodes7p = some a8 ∧ 0 ≤ state2 ∧ state2 < ((nodes7l : Nat) : Int) ∧ 0 ≤ (andI .i64 bit3 (1 : Int)) ∧ (andI .i64 bit3 (1 : Int)) < ((2 : Nat) : Int) ∧ ∃ n9 : Int, cell H_5 (Addr.add (Addr.add a8 (Int.toNat state2 * 2)) (Int.toNat (andI .i64 bit3 (1 : Int)) * 1)) = some (Value.int .i64 n9) ∧ br (decide ((n9 : Int) > (0 : Int)))
 (R (Value.tuple #[Value.int .i64 n9, Value.int .i64 (-1 : Int)]) H_5)
 (br (decide ((n9 : Int) < (0 : Int)))
 (R (Value.tuple #[Value.int .i64 (0 : Int), Value.int .i64 (IntKind.wrap .i64 ((-1 : Int) - n9))]) H_5)
 (R (Value.tuple #[Value.int .i64 (-1 : Int), Value.int .i64 (-1 : Int)]) H_5))) → J_4 [] H_5) →
 br (decide ((state2 : Int) < (0 : Int))) (R (Value.tuple #[Value.int .i64 (-1 : Int), Value.int .i64 (-1 : Int)]) H) (∃ a10 : Addr, d1 = some a10 ∧ ∃ nodes11p : Option Addr, ∃ nodes11l : Nat, ∃ nodes11c : Nat, cell H (Addr.add a10 0) = some (Value.slice nodes11p nodes11l nodes11c) ∧ br (decide ((state2 : Int) ≥ ((nodes11l : Nat) : Int)))
 (R (Value.tuple #[Value.int .i64 (-1 : Int), Value.int .i64 (-1 : Int)]) H)
 (J_4 [] H))
def Try.p56 : Plan := (Plan.two Plan.leaf (Plan.two (Plan.join [] [0, 1, 2] (Plan.two Plan.leaf (Plan.two (Plan.two Plan.leaf Plan.leaf) Plan.leaf))) (Plan.two (Plan.two Plan.leaf (Plan.one (Plan.two Plan.leaf (Plan.two (Plan.two Plan.leaf Plan.leaf) (Plan.two Plan.leaf (Plan.two (Plan.two Plan.leaf Plan.leaf) Plan.leaf)))))) (Plan.two Plan.leaf Plan.leaf))))
theorem Try.s56 {d1 : Option Addr} {state2 : Int} {bit3 : Int} {H : Heap} {R : Value → Heap → Prop} (h : Try.S56 d1 state2 bit3 H R) : CallsH Try.prog 56 #[Value.pointer d1, Value.int .i64 state2, Value.int .i64 bit3] H R :=
  vcFun_sound Try.tab_ok Try.mixed Try.func56 Try.cal56 (p := Try.p56) (args := [Value.pointer d1, Value.int .i64 state2, Value.int .i64 bit3]) (Eq.mp (by kernel_rfl : Try.S56 d1 state2 bit3 H R = vcFun Try.prog Try.tab Try.f56 Try.p56 [Value.pointer d1, Value.int .i64 state2, Value.int .i64 bit3] H R) h)

/-- slices.Reverse[[]int,int] -/
def Try.S57 (s1p : Option Addr) (s1l : Nat) (s1c : Nat) (H : Heap) (R : Value → Heap → Prop) : Prop :=
 ∀ X_2 : List Value → Heap → Prop, (∀ i3 : Int, ∀ j4 : Int, ∀ H_5 : Heap, (br (decide ((i3 : Int) < j4))
 (∃ a6 : Addr, s1p = some a6 ∧ 0 ≤ j4 ∧ j4 < ((s1l : Nat) : Int) ∧ ∃ v7 : Int, cell H_5 (Addr.add a6 (Int.toNat j4 * 1)) = some (Value.int .i64 v7) ∧ ∃ a8 : Addr, s1p = some a8 ∧ 0 ≤ i3 ∧ i3 < ((s1l : Nat) : Int) ∧ ∃ v9 : Int, cell H_5 (Addr.add a8 (Int.toNat i3 * 1)) = some (Value.int .i64 v9) ∧ ∃ a10 : Addr, s1p = some a10 ∧ 0 ≤ i3 ∧ i3 < ((s1l : Nat) : Int) ∧ stAt H_5 (Addr.add a10 (Int.toNat i3 * 1)) [Value.int .i64 v7] fun H_11 => ∃ a12 : Addr, s1p = some a12 ∧ 0 ≤ j4 ∧ j4 < ((s1l : Nat) : Int) ∧ stAt H_11 (Addr.add a12 (Int.toNat j4 * 1)) [Value.int .i64 v9] fun H_13 => X_2 [Value.int .i64 (IntKind.wrap .i64 (i3 + (1 : Int))), Value.int .i64 (IntKind.wrap .i64 (j4 - (1 : Int)))] H_13)
 (R (Value.tuple #[]) H_5)) → X_2 [Value.int .i64 i3, Value.int .i64 j4] H_5) → X_2 [Value.int .i64 (0 : Int), Value.int .i64 (IntKind.wrap .i64 (((s1l : Nat) : Int) - (1 : Int)))] H
def Try.p57 : Plan := (Plan.two Plan.leaf (Plan.one (Plan.loop [(2, 3), (3, 3)] [0] (Plan.two (Plan.two Plan.leaf (Plan.two Plan.leaf Plan.leaf)) (Plan.two (Plan.one Plan.leaf) Plan.leaf)))))
theorem Try.s57 {s1p : Option Addr} {s1l : Nat} {s1c : Nat} {H : Heap} {R : Value → Heap → Prop} (h : Try.S57 s1p s1l s1c H R) : CallsH Try.prog 57 #[Value.slice s1p s1l s1c] H R :=
  vcFun_sound Try.tab_ok Try.mixed Try.func57 Try.cal57 (p := Try.p57) (args := [Value.slice s1p s1l s1c]) (Eq.mp (by kernel_rfl : Try.S57 s1p s1l s1c H R = vcFun Try.prog Try.tab Try.f57 Try.p57 [Value.slice s1p s1l s1c] H R) h)

/-- math/bits.Mul -/
def Try.S58 (x1 : Int) (y2 : Int) (H : Heap) (R : Value → Heap → Prop) : Prop :=
 CallsH Try.prog 65 #[Value.int .u64 x1, Value.int .u64 y2] H fun r3 H_4 => ∃ r5 : Int, ∃ r6 : Int, r3 = Value.tuple #[Value.int .u64 r5, Value.int .u64 r6] ∧ R (Value.tuple #[Value.int .u64 r5, Value.int .u64 r6]) H_4
def Try.p58 : Plan := (Plan.two Plan.leaf (Plan.two (Plan.two (Plan.two Plan.leaf (Plan.two Plan.leaf Plan.leaf)) Plan.leaf) (Plan.two Plan.leaf (Plan.two Plan.leaf Plan.leaf))))
theorem Try.s58 {x1 : Int} {y2 : Int} {H : Heap} {R : Value → Heap → Prop} (h : Try.S58 x1 y2 H R) : CallsH Try.prog 58 #[Value.int .u64 x1, Value.int .u64 y2] H R :=
  vcFun_sound Try.tab_ok Try.mixed Try.func58 Try.cal58 (p := Try.p58) (args := [Value.int .u64 x1, Value.int .u64 y2]) (Eq.mp (by kernel_rfl : Try.S58 x1 y2 H R = vcFun Try.prog Try.tab Try.f58 Try.p58 [Value.int .u64 x1, Value.int .u64 y2] H R) h)

/-- scumble/dct.wave -/
def Try.S59 (k1 : Int) (H : Heap) (R : Value → Heap → Prop) : Prop :=
 (32 : Int) ≠ 0 ∧ br (decide (((Int.tmod k1 (32 : Int)) : Int) > (16 : Int)))
 (CallsH Try.prog 59 #[Value.int .i64 (IntKind.wrap .i64 ((32 : Int) - (Int.tmod k1 (32 : Int))))] H fun r2 H_3 => ∃ r4 : Int, r2 = Value.int .i64 r4 ∧ R (Value.int .i64 r4) H_3)
 (br (decide (((Int.tmod k1 (32 : Int)) : Int) > (8 : Int)))
 (CallsH Try.prog 59 #[Value.int .i64 (IntKind.wrap .i64 ((16 : Int) - (Int.tmod k1 (32 : Int))))] H fun r5 H_6 => ∃ r7 : Int, r5 = Value.int .i64 r7 ∧ R (Value.int .i64 (IntKind.wrap .i64 (0 - r7))) H_6)
 (0 ≤ (Int.tmod k1 (32 : Int)) ∧ (Int.tmod k1 (32 : Int)) < ((9 : Nat) : Int) ∧ ∃ v8 : Int, #[Value.int .i64 (4096 : Int), Value.int .i64 (4017 : Int), Value.int .i64 (3784 : Int), Value.int .i64 (3406 : Int), Value.int .i64 (2896 : Int), Value.int .i64 (2276 : Int), Value.int .i64 (1567 : Int), Value.int .i64 (799 : Int), Value.int .i64 (0 : Int)][(Int.toNat (Int.tmod k1 (32 : Int)) * 1)]? = some (Value.int .i64 v8) ∧ R (Value.int .i64 v8) H))
def Try.p59 : Plan := (Plan.two Plan.leaf (Plan.two Plan.leaf (Plan.two (Plan.one (Plan.two Plan.leaf (Plan.two (Plan.two Plan.leaf Plan.leaf) (Plan.two Plan.leaf (Plan.two (Plan.two Plan.leaf Plan.leaf) Plan.leaf))))) (Plan.two Plan.leaf Plan.leaf))))
theorem Try.s59 {k1 : Int} {H : Heap} {R : Value → Heap → Prop} (h : Try.S59 k1 H R) : CallsH Try.prog 59 #[Value.int .i64 k1] H R :=
  vcFun_sound Try.tab_ok Try.mixed Try.func59 Try.cal59 (p := Try.p59) (args := [Value.int .i64 k1]) (Eq.mp (by kernel_rfl : Try.S59 k1 H R = vcFun Try.prog Try.tab Try.f59 Try.p59 [Value.int .i64 k1] H R) h)

/-- scumble/scumbleref18.cut -/
def Try.S60 (n1 : Int) (H : Heap) (R : Value → Heap → Prop) : Prop :=
 br (decide ((n1 : Int) < (0 : Int)))
 (R (Value.int .i64 (0 : Int)) H)
 (br (decide ((n1 : Int) > (255 : Int)))
 (R (Value.int .i64 (255 : Int)) H)
 (R (Value.int .i64 n1) H))
def Try.p60 : Plan := (Plan.two Plan.leaf (Plan.two (Plan.two Plan.leaf (Plan.two (Plan.two Plan.leaf Plan.leaf) Plan.leaf)) (Plan.two (Plan.two Plan.leaf (Plan.two (Plan.two Plan.leaf Plan.leaf) Plan.leaf)) (Plan.two Plan.leaf Plan.leaf))))
theorem Try.s60 {n1 : Int} {H : Heap} {R : Value → Heap → Prop} (h : Try.S60 n1 H R) : CallsH Try.prog 60 #[Value.int .i64 n1] H R :=
  vcFun_sound Try.tab_ok Try.mixed Try.func60 Try.cal60 (p := Try.p60) (args := [Value.int .i64 n1]) (Eq.mp (by kernel_rfl : Try.S60 n1 H R = vcFun Try.prog Try.tab Try.f60 Try.p60 [Value.int .i64 n1] H R) h)

/-- scumble/scumbleref18.q -/
def Try.S61 (n1 : Int) (H : Heap) (R : Value → Heap → Prop) : Prop :=
 CallsH Try.prog 36 #[Value.int .i64 (IntKind.wrap .i64 (n1 + (32768 : Int))), Value.int .i64 (65536 : Int)] H fun r2 H_3 => ∃ r4 : Int, r2 = Value.int .i64 r4 ∧ R (Value.int .i64 r4) H_3
def Try.p61 : Plan := (Plan.two Plan.leaf (Plan.two Plan.leaf Plan.leaf))
theorem Try.s61 {n1 : Int} {H : Heap} {R : Value → Heap → Prop} (h : Try.S61 n1 H R) : CallsH Try.prog 61 #[Value.int .i64 n1] H R :=
  vcFun_sound Try.tab_ok Try.mixed Try.func61 Try.cal61 (p := Try.p61) (args := [Value.int .i64 n1]) (Eq.mp (by kernel_rfl : Try.S61 n1 H R = vcFun Try.prog Try.tab Try.f61 Try.p61 [Value.int .i64 n1] H R) h)

/-- scumble/huff.Codes -/
def Try.S62 (lengths1p : Option Addr) (lengths1l : Nat) (lengths1c : Nat) (H : Heap) (R : Value → Heap → Prop) : Prop :=
 CallsH Try.prog 66 #[Value.slice lengths1p lengths1l lengths1c] H fun r2 H_3 => ∃ r4 : Int, ∃ r5 : Bool, r2 = Value.tuple #[Value.int .i64 r4, Value.bool r5] ∧ ∀ J_6 : List Value → Heap → Prop, (∀ H_7 : Heap, (0 ≤ ((lengths1l : Nat) : Int) ∧ ((lengths1l : Nat) : Int) ≤ ((lengths1l : Nat) : Int) ∧ ((8 : Nat) : Int) * ((lengths1l : Nat) : Int) ≤ 281474976710656 ∧ ((lengths1l : Nat) : Int) ≤ 281474976710656 ∧ alc H_7 (.cells (List.toArray (reps (Int.toNat ((lengths1l : Nat) : Int)) (Array.toList #[Value.int .i64 0]))) 3) fun b8 H_9 => ∀ X_10 : List Value → Heap → Prop, (∀ next11 : Int, ∀ n12 : Int, ∀ H_13 : Heap, (br (decide ((n12 : Int) ≤ (16 : Int)))
 (0 ≤ (1 : Int) ∧ ∀ X_14 : List Value → Heap → Prop, (∀ next15 : Int, ∀ s16 : Int, ∀ H_17 : Heap, (br (decide ((s16 : Int) < ((lengths1l : Nat) : Int)))
 (∃ a18 : Addr, lengths1p = some a18 ∧ 0 ≤ s16 ∧ s16 < ((lengths1l : Nat) : Int) ∧ ∃ l19 : Int, cell H_17 (Addr.add a18 (Int.toNat s16 * 1)) = some (Value.int .i64 l19) ∧ br ((l19 : Int) == n12)
 (∃ a20 : Addr, (some ⟨b8, 0, none⟩) = some a20 ∧ 0 ≤ s16 ∧ s16 < (((Int.toNat ((lengths1l : Nat) : Int)) : Nat) : Int) ∧ stAt H_17 (Addr.add a20 (Int.toNat s16 * 1)) [Value.int .i64 next15] fun H_21 => X_14 [Value.int .i64 (IntKind.wrap .i64 (next15 + (1 : Int))), Value.int .i64 (IntKind.wrap .i64 (s16 + (1 : Int)))] H_21)
 (X_14 [Value.int .i64 next15, Value.int .i64 (IntKind.wrap .i64 (s16 + (1 : Int)))] H_17))
 (X_10 [Value.int .i64 next15, Value.int .i64 (IntKind.wrap .i64 (n12 + (1 : Int)))] H_17)) → X_14 [Value.int .i64 next15, Value.int .i64 s16] H_17) → X_14 [Value.int .i64 (shlI .i64 next11 (1 : Int)), Value.int .i64 (0 : Int)] H_13)
 (R (Value.tuple #[Value.slice (some ⟨b8, 0, none⟩) (Int.toNat ((lengths1l : Nat) : Int)) (Int.toNat ((lengths1l : Nat) : Int)), Value.bool true]) H_13)) → X_10 [Value.int .i64 next11, Value.int .i64 n12] H_13) → X_10 [Value.int .i64 (0 : Int), Value.int .i64 (1 : Int)] H_9) → J_6 [] H_7) →
 br (!r5) (R (Value.tuple #[Value.slice none 0 0, Value.bool false]) H_3) (br (decide ((r4 : Int) > (65536 : Int)))
 (R (Value.tuple #[Value.slice none 0 0, Value.bool false]) H_3)
 (J_6 [] H_3))
def Try.p62 : Plan := (Plan.two Plan.leaf (Plan.two Plan.leaf (Plan.two (Plan.join [] [0] (Plan.two Plan.leaf (Plan.two (Plan.two Plan.leaf Plan.leaf) Plan.leaf))) (Plan.two Plan.leaf (Plan.two Plan.leaf (Plan.two (Plan.two Plan.leaf (Plan.one (Plan.loop [(7, 3), (8, 3)] [0, 6] (Plan.two (Plan.two Plan.leaf (Plan.two Plan.leaf Plan.leaf)) (Plan.two (Plan.one (Plan.two Plan.leaf (Plan.two Plan.leaf (Plan.one (Plan.loop [(7, 3), (33, 3)] [0, 6, 8, 31, 32] (Plan.two Plan.leaf (Plan.two (Plan.two Plan.leaf Plan.leaf) (Plan.two (Plan.one (Plan.two Plan.leaf (Plan.two Plan.leaf (Plan.two (Plan.two Plan.leaf Plan.leaf) Plan.leaf)))) Plan.leaf)))))))) Plan.leaf))))) (Plan.two Plan.leaf Plan.leaf)))))))
theorem Try.s62 {lengths1p : Option Addr} {lengths1l : Nat} {lengths1c : Nat} {H : Heap} {R : Value → Heap → Prop} (h : Try.S62 lengths1p lengths1l lengths1c H R) : CallsH Try.prog 62 #[Value.slice lengths1p lengths1l lengths1c] H R :=
  vcFun_sound Try.tab_ok Try.mixed Try.func62 Try.cal62 (p := Try.p62) (args := [Value.slice lengths1p lengths1l lengths1c]) (Eq.mp (by kernel_rfl : Try.S62 lengths1p lengths1l lengths1c H R = vcFun Try.prog Try.tab Try.f62 Try.p62 [Value.slice lengths1p lengths1l lengths1c] H R) h)

/-- scumble/bits.bit -/
def Try.S63 (at_1 : Int) (high2 : Bool) (H : Heap) (R : Value → Heap → Prop) : Prop :=
 br high2
 ((8 : Int) ≠ 0 ∧ R (Value.int .i64 (IntKind.wrap .i64 ((7 : Int) - (Int.tmod at_1 (8 : Int))))) H)
 ((8 : Int) ≠ 0 ∧ R (Value.int .i64 (Int.tmod at_1 (8 : Int))) H)
def Try.p63 : Plan := (Plan.two Plan.leaf (Plan.two (Plan.two Plan.leaf (Plan.two (Plan.two Plan.leaf Plan.leaf) Plan.leaf)) (Plan.two Plan.leaf Plan.leaf)))
theorem Try.s63 {at_1 : Int} {high2 : Bool} {H : Heap} {R : Value → Heap → Prop} (h : Try.S63 at_1 high2 H R) : CallsH Try.prog 63 #[Value.int .i64 at_1, Value.bool high2] H R :=
  vcFun_sound Try.tab_ok Try.mixed Try.func63 Try.cal63 (p := Try.p63) (args := [Value.int .i64 at_1, Value.bool high2]) (Eq.mp (by kernel_rfl : Try.S63 at_1 high2 H R = vcFun Try.prog Try.tab Try.f63 Try.p63 [Value.int .i64 at_1, Value.bool high2] H R) h)

/-- math/bits.Mul32 -/
def Try.S64 (x1 : Int) (y2 : Int) (H : Heap) (R : Value → Heap → Prop) : Prop :=
 0 ≤ (32 : Int) ∧ R (Value.tuple #[Value.int .u32 (IntKind.wrap .u32 (shrI .u64 (IntKind.wrap .u64 ((IntKind.wrap .u64 x1) * (IntKind.wrap .u64 y2))) (32 : Int))), Value.int .u32 (IntKind.wrap .u32 (IntKind.wrap .u64 ((IntKind.wrap .u64 x1) * (IntKind.wrap .u64 y2))))]) H
def Try.p64 : Plan := (Plan.two Plan.leaf (Plan.two Plan.leaf (Plan.two Plan.leaf Plan.leaf)))
theorem Try.s64 {x1 : Int} {y2 : Int} {H : Heap} {R : Value → Heap → Prop} (h : Try.S64 x1 y2 H R) : CallsH Try.prog 64 #[Value.int .u32 x1, Value.int .u32 y2] H R :=
  vcFun_sound Try.tab_ok Try.mixed Try.func64 Try.cal64 (p := Try.p64) (args := [Value.int .u32 x1, Value.int .u32 y2]) (Eq.mp (by kernel_rfl : Try.S64 x1 y2 H R = vcFun Try.prog Try.tab Try.f64 Try.p64 [Value.int .u32 x1, Value.int .u32 y2] H R) h)

/-- math/bits.Mul64 -/
def Try.S65 (x1 : Int) (y2 : Int) (H : Heap) (R : Value → Heap → Prop) : Prop :=
 0 ≤ (32 : Int) ∧ 0 ≤ (32 : Int) ∧ 0 ≤ (32 : Int) ∧ 0 ≤ (32 : Int) ∧ 0 ≤ (32 : Int) ∧ R (Value.tuple #[Value.int .u64 (IntKind.wrap .u64 ((IntKind.wrap .u64 ((IntKind.wrap .u64 ((shrI .u64 x1 (32 : Int)) * (shrI .u64 y2 (32 : Int)))) + (shrI .u64 (IntKind.wrap .u64 ((IntKind.wrap .u64 ((shrI .u64 x1 (32 : Int)) * (andI .u64 y2 (4294967295 : Int)))) + (shrI .u64 (IntKind.wrap .u64 ((andI .u64 x1 (4294967295 : Int)) * (andI .u64 y2 (4294967295 : Int)))) (32 : Int)))) (32 : Int)))) + (shrI .u64 (IntKind.wrap .u64 ((andI .u64 (IntKind.wrap .u64 ((IntKind.wrap .u64 ((shrI .u64 x1 (32 : Int)) * (andI .u64 y2 (4294967295 : Int)))) + (shrI .u64 (IntKind.wrap .u64 ((andI .u64 x1 (4294967295 : Int)) * (andI .u64 y2 (4294967295 : Int)))) (32 : Int)))) (4294967295 : Int)) + (IntKind.wrap .u64 ((andI .u64 x1 (4294967295 : Int)) * (shrI .u64 y2 (32 : Int)))))) (32 : Int)))), Value.int .u64 (IntKind.wrap .u64 (x1 * y2))]) H
def Try.p65 : Plan := (Plan.two Plan.leaf (Plan.two Plan.leaf (Plan.two Plan.leaf (Plan.two Plan.leaf (Plan.two Plan.leaf (Plan.two Plan.leaf (Plan.two Plan.leaf (Plan.two Plan.leaf (Plan.two Plan.leaf (Plan.two Plan.leaf (Plan.two Plan.leaf (Plan.two Plan.leaf Plan.leaf))))))))))))
theorem Try.s65 {x1 : Int} {y2 : Int} {H : Heap} {R : Value → Heap → Prop} (h : Try.S65 x1 y2 H R) : CallsH Try.prog 65 #[Value.int .u64 x1, Value.int .u64 y2] H R :=
  vcFun_sound Try.tab_ok Try.mixed Try.func65 Try.cal65 (p := Try.p65) (args := [Value.int .u64 x1, Value.int .u64 y2]) (Eq.mp (by kernel_rfl : Try.S65 x1 y2 H R = vcFun Try.prog Try.tab Try.f65 Try.p65 [Value.int .u64 x1, Value.int .u64 y2] H R) h)

/-- scumble/huff.Weight -/
def Try.S66 (lengths1p : Option Addr) (lengths1l : Nat) (lengths1c : Nat) (H : Heap) (R : Value → Heap → Prop) : Prop :=
 br (decide ((((lengths1l : Nat) : Int) : Int) > (300 : Int)))
 (R (Value.tuple #[Value.int .i64 (0 : Int), Value.bool false]) H)
 (∀ X_2 : List Value → Heap → Prop, (∀ sum3 : Int, ∀ t4 : Int, ∀ H_5 : Heap, (br (decide ((t4 : Int) < ((lengths1l : Nat) : Int)))
 (∃ a6 : Addr, lengths1p = some a6 ∧ 0 ≤ t4 ∧ t4 < ((lengths1l : Nat) : Int) ∧ ∃ n7 : Int, cell H_5 (Addr.add a6 (Int.toNat t4 * 1)) = some (Value.int .i64 n7) ∧ ∀ J_8 : List Value → Heap → Prop, (∀ H_9 : Heap, (br (decide ((n7 : Int) > (0 : Int)))
 (0 ≤ (IntKind.wrap .i64 ((16 : Int) - n7)) ∧ X_2 [Value.int .i64 (IntKind.wrap .i64 (sum3 + (shlI .i64 (1 : Int) (IntKind.wrap .i64 ((16 : Int) - n7))))), Value.int .i64 (IntKind.wrap .i64 (t4 + (1 : Int)))] H_9)
 (X_2 [Value.int .i64 sum3, Value.int .i64 (IntKind.wrap .i64 (t4 + (1 : Int)))] H_9)) → J_8 [] H_9) →
 br (decide ((n7 : Int) < (0 : Int))) (R (Value.tuple #[Value.int .i64 (0 : Int), Value.bool false]) H_5) (br (decide ((n7 : Int) > (16 : Int)))
 (R (Value.tuple #[Value.int .i64 (0 : Int), Value.bool false]) H_5)
 (J_8 [] H_5)))
 (R (Value.tuple #[Value.int .i64 sum3, Value.bool true]) H_5)) → X_2 [Value.int .i64 sum3, Value.int .i64 t4] H_5) → X_2 [Value.int .i64 (0 : Int), Value.int .i64 (0 : Int)] H)
def Try.p66 : Plan := (Plan.two Plan.leaf (Plan.two (Plan.two Plan.leaf (Plan.two (Plan.two Plan.leaf Plan.leaf) Plan.leaf)) (Plan.two Plan.leaf (Plan.two (Plan.two Plan.leaf (Plan.one (Plan.loop [(4, 3), (12, 3)] [10, 11] (Plan.two Plan.leaf (Plan.two (Plan.two Plan.leaf Plan.leaf) (Plan.two (Plan.one (Plan.two Plan.leaf (Plan.two (Plan.join [] [4, 6, 10, 11, 12] (Plan.two Plan.leaf (Plan.two (Plan.two Plan.leaf Plan.leaf) Plan.leaf))) (Plan.two Plan.leaf (Plan.two Plan.leaf Plan.leaf))))) Plan.leaf)))))) (Plan.two Plan.leaf Plan.leaf)))))
theorem Try.s66 {lengths1p : Option Addr} {lengths1l : Nat} {lengths1c : Nat} {H : Heap} {R : Value → Heap → Prop} (h : Try.S66 lengths1p lengths1l lengths1c H R) : CallsH Try.prog 66 #[Value.slice lengths1p lengths1l lengths1c] H R :=
  vcFun_sound Try.tab_ok Try.mixed Try.func66 Try.cal66 (p := Try.p66) (args := [Value.slice lengths1p lengths1l lengths1c]) (Eq.mp (by kernel_rfl : Try.S66 lengths1p lengths1l lengths1c H R = vcFun Try.prog Try.tab Try.f66 Try.p66 [Value.slice lengths1p lengths1l lengths1c] H R) h)

end Go.Proofs
