/-
  OWN WORK. Several texts in one: GFunE, GFunF, GFunG, GFun, TrB, TrC, TrD, TrE, TrF.
-/
import Derived.Test.YtnoebcjpbbccnaaMgTreeRightB
import Derived.Lib.Overlaps

/-
  Printed by a program of mine (gen.py): each function, over heaps; and that what is said of it is said of its call.
-/
set_option linter.unusedVariables false
set_option maxRecDepth 100000
namespace Go.Proofs
open Go.Sh

/-- scumble/scumblemade.flat -/
def Try.S59 (list1p : Option Addr) (list1l : Nat) (list1c : Nat) (to2 : Int) (depth3 : Int) (out4p : Option Addr) (out4l : Nat) (out4c : Nat) (H : Heap) (R : Value → Heap → Prop) : Prop :=
 ∀ J_5 : List Value → Heap → Prop, (∀ H_6 : Heap, (∀ X_7 : List Value → Heap → Prop, (∀ out8p : Option Addr, ∀ out8l : Nat, ∀ out8c : Nat, ∀ t9 : Int, ∀ H_10 : Heap, (br (decide ((t9 : Int) < ((list1l : Nat) : Int)))
 (∃ a11 : Addr, list1p = some a11 ∧ 0 ≤ t9 ∧ t9 < ((list1l : Nat) : Int) ∧ ∃ v12 : Array Value, v12.size = 19 ∧ rowIn H_10 (Addr.add a11 (Int.toNat t9 * 19)) v12 ∧ alc H_10 (.cells #[Value.int .i64 0, Value.int .i64 0, Value.bool false, Value.int .i64 0, Value.int .i64 0, Value.int .i64 0, Value.int .i64 0, Value.slice none 0 0, Value.slice none 0 0, Value.int .i64 0, Value.int .i64 0, Value.int .i64 0, Value.int .i64 0, Value.int .i64 0, Value.int .i64 0, Value.bool false, Value.int .i64 0, Value.slice none 0 0, Value.slice none 0 0] 58) fun b13 H_14 => v12.size = 19 ∧ stAt H_14 ⟨b13, 0, none⟩ (Array.toList v12) fun H_15 => ∀ X_16 : List Value → Heap → Prop, (∀ t17 : Int, ∀ H_18 : Heap, (br (decide ((t17 : Int) < ((out8l : Nat) : Int)))
 (∃ a19 : Addr, out8p = some a19 ∧ 0 ≤ t17 ∧ t17 < ((out8l : Nat) : Int) ∧ ∃ v20 : Array Value, v20.size = 19 ∧ rowIn H_18 (Addr.add a19 (Int.toNat t17 * 19)) v20 ∧ alc H_18 (.cells #[Value.int .i64 0, Value.int .i64 0, Value.int .i64 0, Value.bool false, Value.int .i64 0, Value.int .i64 0, Value.int .i64 0, Value.int .i64 0, Value.slice none 0 0, Value.slice none 0 0, Value.int .i64 0, Value.int .i64 0, Value.int .i64 0, Value.int .i64 0, Value.int .i64 0, Value.int .i64 0, Value.bool false, Value.int .i64 0, Value.slice none 0 0] 66) fun b21 H_22 => v20.size = 19 ∧ stAt H_22 ⟨b21, 0, none⟩ (Array.toList v20) fun H_23 => ∃ ID24 : Int, cell H_23 (Addr.add ⟨b21, 0, none⟩ 0) = some (Value.int .i64 ID24) ∧ ∃ ID25 : Int, cell H_23 (Addr.add ⟨b13, 0, none⟩ 0) = some (Value.int .i64 ID25) ∧ br ((ID24 : Int) == ID25) (R (Value.tuple #[Value.slice none 0 0, Value.bool false]) H_23) (∃ ID26 : Int, cell H_23 (Addr.add ⟨b13, 0, none⟩ 0) = some (Value.int .i64 ID26) ∧ br ((ID26 : Int) == (0 : Int))
 (R (Value.tuple #[Value.slice none 0 0, Value.bool false]) H_23)
 (X_16 [Value.int .i64 (IntKind.wrap .i64 (t17 + (1 : Int)))] H_23)))
 (∀ J_27 : List Value → Heap → Prop, (∀ H_28 : Heap, (∃ ID29 : Int, cell H_28 (Addr.add ⟨b13, 0, none⟩ 0) = some (Value.int .i64 ID29) ∧ ∃ Kind30 : Int, cell H_28 (Addr.add ⟨b13, 0, none⟩ 1) = some (Value.int .i64 Kind30) ∧ ∃ Hidden31 : Bool, cell H_28 (Addr.add ⟨b13, 0, none⟩ 2) = some (Value.bool Hidden31) ∧ ∃ Opacity32 : Int, cell H_28 (Addr.add ⟨b13, 0, none⟩ 3) = some (Value.int .i64 Opacity32) ∧ ∃ Mode33 : Int, cell H_28 (Addr.add ⟨b13, 0, none⟩ 4) = some (Value.int .i64 Mode33) ∧ ∃ W34 : Int, cell H_28 (Addr.add ⟨b13, 0, none⟩ 5) = some (Value.int .i64 W34) ∧ ∃ H_35 : Int, cell H_28 (Addr.add ⟨b13, 0, none⟩ 6) = some (Value.int .i64 H_35) ∧ ∃ P_36p : Option Addr, ∃ P_36l : Nat, ∃ P_36c : Nat, cell H_28 (Addr.add ⟨b13, 0, none⟩ 7) = some (Value.slice P_36p P_36l P_36c) ∧ ∃ Mask37p : Option Addr, ∃ Mask37l : Nat, ∃ Mask37c : Nat, cell H_28 (Addr.add ⟨b13, 0, none⟩ 8) = some (Value.slice Mask37p Mask37l Mask37c) ∧ ∃ Map38 : Array Value, Map38.size = 6 ∧ rowIn H_28 (Addr.add ⟨b13, 0, none⟩ 9) Map38 ∧ ∃ Smooth39 : Bool, cell H_28 (Addr.add ⟨b13, 0, none⟩ 15) = some (Value.bool Smooth39) ∧ ∃ Table40 : Int, cell H_28 (Addr.add ⟨b13, 0, none⟩ 16) = some (Value.int .i64 Table40) ∧ ∃ Params41p : Option Addr, ∃ Params41l : Nat, ∃ Params41c : Nat, cell H_28 (Addr.add ⟨b13, 0, none⟩ 17) = some (Value.slice Params41p Params41l Params41c) ∧ Map38.size = 6 ∧ 10 + 6 ≤ 19 ∧ (List.toArray (List.set (List.set (List.set (setL [Value.int .i64 ID29, Value.int .i64 Kind30, Value.int .i64 to2, Value.bool Hidden31, Value.int .i64 Opacity32, Value.int .i64 Mode33, Value.int .i64 W34, Value.int .i64 H_35, Value.slice P_36p P_36l P_36c, Value.slice Mask37p Mask37l Mask37c, Value.int .i64 0, Value.int .i64 0, Value.int .i64 0, Value.int .i64 0, Value.int .i64 0, Value.int .i64 0, Value.bool false, Value.int .i64 0, Value.slice none 0 0] 10 (Array.toList Map38)) 16 (Value.bool Smooth39)) 17 (Value.int .i64 Table40)) 18 (Value.slice Params41p Params41l Params41c))).size = 19 ∧ 0 + 19 ≤ 19 ∧ alc H_28 (.cells (List.toArray (setL [Value.int .i64 0, Value.int .i64 0, Value.int .i64 0, Value.bool false, Value.int .i64 0, Value.int .i64 0, Value.int .i64 0, Value.int .i64 0, Value.slice none 0 0, Value.slice none 0 0, Value.int .i64 0, Value.int .i64 0, Value.int .i64 0, Value.int .i64 0, Value.int .i64 0, Value.int .i64 0, Value.bool false, Value.int .i64 0, Value.slice none 0 0] 0 (Array.toList (List.toArray (List.set (List.set (List.set (setL [Value.int .i64 ID29, Value.int .i64 Kind30, Value.int .i64 to2, Value.bool Hidden31, Value.int .i64 Opacity32, Value.int .i64 Mode33, Value.int .i64 W34, Value.int .i64 H_35, Value.slice P_36p P_36l P_36c, Value.slice Mask37p Mask37l Mask37c, Value.int .i64 0, Value.int .i64 0, Value.int .i64 0, Value.int .i64 0, Value.int .i64 0, Value.int .i64 0, Value.bool false, Value.int .i64 0, Value.slice none 0 0] 10 (Array.toList Map38)) 16 (Value.bool Smooth39)) 17 (Value.int .i64 Table40)) 18 (Value.slice Params41p Params41l Params41c)))))) 66) fun b42 H_43 => appQ 19 200 #[Value.int .i64 0, Value.int .i64 0, Value.int .i64 0, Value.bool false, Value.int .i64 0, Value.int .i64 0, Value.int .i64 0, Value.int .i64 0, Value.slice none 0 0, Value.slice none 0 0, Value.int .i64 0, Value.int .i64 0, Value.int .i64 0, Value.int .i64 0, Value.int .i64 0, Value.int .i64 0, Value.bool false, Value.int .i64 0, Value.slice none 0 0] H_43 out8p out8l out8c (some ⟨b42, 0, none⟩) 1 66 fun out44p out44l out44c H_45 => ∃ Kids46p : Option Addr, ∃ Kids46l : Nat, ∃ Kids46c : Nat, cell H_45 (Addr.add ⟨b13, 0, none⟩ 18) = some (Value.slice Kids46p Kids46l Kids46c) ∧ ∃ ID47 : Int, cell H_45 (Addr.add ⟨b13, 0, none⟩ 0) = some (Value.int .i64 ID47) ∧ CallsH Try.prog 59 #[Value.slice Kids46p Kids46l Kids46c, Value.int .i64 ID47, Value.int .i64 (IntKind.wrap .i64 (depth3 + (1 : Int))), Value.slice out44p out44l out44c] H_45 fun r48 H_49 => ∃ r50p : Option Addr, ∃ r50l : Nat, ∃ r50c : Nat, ∃ r51 : Bool, r48 = Value.tuple #[Value.slice r50p r50l r50c, Value.bool r51] ∧ br (!r51)
 (R (Value.tuple #[Value.slice none 0 0, Value.bool false]) H_49)
 (X_7 [Value.slice r50p r50l r50c, Value.int .i64 (IntKind.wrap .i64 (t9 + (1 : Int)))] H_49)) → J_27 [] H_28) →
 ∃ ID52 : Int, cell H_18 (Addr.add ⟨b13, 0, none⟩ 0) = some (Value.int .i64 ID52) ∧ br ((ID52 : Int) == (0 : Int)) (R (Value.tuple #[Value.slice none 0 0, Value.bool false]) H_18) (∃ P_53p : Option Addr, ∃ P_53l : Nat, ∃ P_53c : Nat, cell H_18 (Addr.add ⟨b13, 0, none⟩ 7) = some (Value.slice P_53p P_53l P_53c) ∧ br (decide ((((P_53l : Nat) : Int) : Int) > (2000 : Int))) (R (Value.tuple #[Value.slice none 0 0, Value.bool false]) H_18) (∃ Mask54p : Option Addr, ∃ Mask54l : Nat, ∃ Mask54c : Nat, cell H_18 (Addr.add ⟨b13, 0, none⟩ 8) = some (Value.slice Mask54p Mask54l Mask54c) ∧ br (decide ((((Mask54l : Nat) : Int) : Int) > (2000 : Int))) (R (Value.tuple #[Value.slice none 0 0, Value.bool false]) H_18) (∃ Params55p : Option Addr, ∃ Params55l : Nat, ∃ Params55c : Nat, cell H_18 (Addr.add ⟨b13, 0, none⟩ 17) = some (Value.slice Params55p Params55l Params55c) ∧ br (decide ((((Params55l : Nat) : Int) : Int) > (100 : Int)))
 (R (Value.tuple #[Value.slice none 0 0, Value.bool false]) H_18)
 (J_27 [] H_18)))))) → X_16 [Value.int .i64 t17] H_18) → X_16 [Value.int .i64 (0 : Int)] H_15)
 (R (Value.tuple #[Value.slice out8p out8l out8c, Value.bool true]) H_10)) → X_7 [Value.slice out8p out8l out8c, Value.int .i64 t9] H_10) → X_7 [Value.slice out4p out4l out4c, Value.int .i64 (0 : Int)] H_6) → J_5 [] H_6) →
 br (decide ((depth3 : Int) > (80 : Int))) (R (Value.tuple #[Value.slice none 0 0, Value.bool false]) H) (br (decide ((((list1l : Nat) : Int) : Int) > (IntKind.wrap .i64 ((300 : Int) - ((out4l : Nat) : Int)))))
 (R (Value.tuple #[Value.slice none 0 0, Value.bool false]) H)
 (J_5 [] H))
def Try.p59 : Plan := (Plan.two Plan.leaf (Plan.two (Plan.join [] [0, 1, 2, 3] (Plan.two Plan.leaf (Plan.two (Plan.two Plan.leaf Plan.leaf) Plan.leaf))) (Plan.two (Plan.two Plan.leaf (Plan.one (Plan.loop [(3, 30), (27, 3)] [1, 2, 25, 26] (Plan.two Plan.leaf (Plan.two (Plan.two Plan.leaf Plan.leaf) (Plan.two (Plan.one (Plan.two Plan.leaf (Plan.two (Plan.two Plan.leaf (Plan.one (Plan.loop [(33, 3)] [1, 2, 3, 11, 25, 26, 27, 31, 32] (Plan.two Plan.leaf (Plan.two (Plan.two Plan.leaf Plan.leaf) (Plan.two (Plan.one (Plan.two Plan.leaf (Plan.two Plan.leaf (Plan.two (Plan.two Plan.leaf Plan.leaf) Plan.leaf)))) Plan.leaf)))))) (Plan.two (Plan.join [] [1, 2, 3, 11, 25, 26, 27] (Plan.two Plan.leaf (Plan.two (Plan.two Plan.leaf Plan.leaf) Plan.leaf))) (Plan.two Plan.leaf (Plan.two Plan.leaf (Plan.two Plan.leaf (Plan.two Plan.leaf (Plan.two (Plan.two Plan.leaf Plan.leaf) Plan.leaf))))))))) Plan.leaf)))))) (Plan.two Plan.leaf Plan.leaf))))
theorem Try.s59 {list1p : Option Addr} {list1l : Nat} {list1c : Nat} {to2 : Int} {depth3 : Int} {out4p : Option Addr} {out4l : Nat} {out4c : Nat} {H : Heap} {R : Value → Heap → Prop} (h : Try.S59 list1p list1l list1c to2 depth3 out4p out4l out4c H R) : CallsH Try.prog 59 #[Value.slice list1p list1l list1c, Value.int .i64 to2, Value.int .i64 depth3, Value.slice out4p out4l out4c] H R :=
  vcFun_sound Try.tab_ok Try.mixed Try.func59 Try.cal59 (p := Try.p59) (args := [Value.slice list1p list1l list1c, Value.int .i64 to2, Value.int .i64 depth3, Value.slice out4p out4l out4c]) (Eq.mp (by kernel_rfl : Try.S59 list1p list1l list1c to2 depth3 out4p out4l out4c H R = vcFun Try.prog Try.tab Try.f59 Try.p59 [Value.slice list1p list1l list1c, Value.int .i64 to2, Value.int .i64 depth3, Value.slice out4p out4l out4c] H R) h)

/-- slices.ContainsFunc[[]scumble/tree.Layer,scumble/tree.Layer] -/
def Try.S60 (s1p : Option Addr) (s1l : Nat) (s1c : Nat) (f2g : Nat) (f2x : Array Value) (f2y : Array Value) (H : Heap) (R : Value → Heap → Prop) : Prop :=
 CallsH Try.prog 86 #[Value.slice s1p s1l s1c, Value.func (.func f2g) f2x f2y] H fun r3 H_4 => ∃ r5 : Int, r3 = Value.int .i64 r5 ∧ R (Value.bool (decide ((r5 : Int) ≥ (0 : Int)))) H_4
def Try.p60 : Plan := (Plan.two Plan.leaf (Plan.two Plan.leaf Plan.leaf))
theorem Try.s60 {s1p : Option Addr} {s1l : Nat} {s1c : Nat} {f2g : Nat} {f2x : Array Value} {f2y : Array Value} {H : Heap} {R : Value → Heap → Prop} (h : Try.S60 s1p s1l s1c f2g f2x f2y H R) : CallsH Try.prog 60 #[Value.slice s1p s1l s1c, Value.func (.func f2g) f2x f2y] H R :=
  vcFun_sound Try.tab_ok Try.mixed Try.func60 Try.cal60 (p := Try.p60) (args := [Value.slice s1p s1l s1c, Value.func (.func f2g) f2x f2y]) (Eq.mp (by kernel_rfl : Try.S60 s1p s1l s1c f2g f2x f2y H R = vcFun Try.prog Try.tab Try.f60 Try.p60 [Value.slice s1p s1l s1c, Value.func (.func f2g) f2x f2y] H R) h)

/-- (scumble/tree.Doc).Right$1 -/
def Try.S61 (l1 : Array Value) (ad2 : Addr) (ad3 : Addr) (H : Heap) (R : Value → Heap → Prop) : Prop :=
 alc H (.cells l1 58) fun b4 H_5 => ∃ v6 : Array Value, v6.size = 19 ∧ rowIn H_5 ⟨b4, 0, none⟩ v6 ∧ ∃ v7 : Array Value, v7.size = 4 ∧ rowIn H_5 ad2 v7 ∧ ∃ v8 : Option Nat, cell H_5 ad3 = some (Value.map v8) ∧ CallsH Try.prog 62 #[Value.agg v6, Value.agg v7, Value.map v8] H_5 fun r9 H_10 => ∃ r11 : Bool, r9 = Value.bool r11 ∧ R (Value.bool (!r11)) H_10
def Try.p61 : Plan := (Plan.two Plan.leaf (Plan.two Plan.leaf Plan.leaf))
theorem Try.s61 {l1 : Array Value} {ad2 : Addr} {ad3 : Addr} {H : Heap} {R : Value → Heap → Prop} (h : Try.S61 l1 ad2 ad3 H R) : CallsH Try.prog 61 #[Value.agg l1, Value.pointer (some ad2), Value.pointer (some ad3)] H R :=
  vcFun_sound Try.tab_ok Try.mixed Try.func61 Try.cal61 (p := Try.p61) (args := [Value.agg l1, Value.pointer (some ad2), Value.pointer (some ad3)]) (Eq.mp (by kernel_rfl : Try.S61 l1 ad2 ad3 H R = vcFun Try.prog Try.tab Try.f61 Try.p61 [Value.agg l1, Value.pointer (some ad2), Value.pointer (some ad3)] H R) h)

/-- scumble/tree.right -/
def Try.S62 (l1 : Array Value) (d2 : Array Value) (ids3 : Option Nat) (H : Heap) (R : Value → Heap → Prop) : Prop :=
 alc H (.cells l1 58) fun b4 H_5 => alc H_5 (.cells d2 26) fun b6 H_7 => alc H_7 (.cells #[Value.map ids3] 100) fun b8 H_9 => ∀ J_10 : List Value → Heap → Prop, (∀ H_11 : Heap, (∃ v12 : Option Nat, cell H_11 ⟨b8, 0, none⟩ = some (Value.map v12) ∧ ∃ ID13 : Int, cell H_11 (Addr.add ⟨b4, 0, none⟩ 0) = some (Value.int .i64 ID13) ∧ updQ (.int .i64) (.other) (Value.map v12) (Value.int .i64 ID13) (Value.bool true) H_11 fun H_14 => ∀ J_15 : List Value → Heap → Prop, (∀ H_16 : Heap, (∀ J_17 : List Value → Heap → Prop, (∀ H_18 : Heap, (∃ Table19 : Int, cell H_18 (Addr.add ⟨b4, 0, none⟩ 16) = some (Value.int .i64 Table19) ∧ ∃ Params20p : Option Addr, ∃ Params20l : Nat, ∃ Params20c : Nat, cell H_18 (Addr.add ⟨b4, 0, none⟩ 17) = some (Value.slice Params20p Params20l Params20c) ∧ CallsH Try.prog 81 #[Value.int .i64 Table19, Value.slice Params20p Params20l Params20c] H_18 fun r21 H_22 => ∃ r23p : Option Addr, ∃ r23l : Nat, ∃ r23c : Nat, ∃ r24 : Bool, r21 = Value.tuple #[Value.slice r23p r23l r23c, Value.bool r24] ∧ br (!r24)
 (R (Value.bool false) H_22)
 (∃ Mask25p : Option Addr, ∃ Mask25l : Nat, ∃ Mask25c : Nat, cell H_22 (Addr.add ⟨b4, 0, none⟩ 8) = some (Value.slice Mask25p Mask25l Mask25c) ∧ ∀ X_26 : List Value → Heap → Prop, (∀ t27 : Int, ∀ H_28 : Heap, (br (decide ((t27 : Int) < ((Mask25l : Nat) : Int)))
 (∃ a29 : Addr, Mask25p = some a29 ∧ 0 ≤ t27 ∧ t27 < ((Mask25l : Nat) : Int) ∧ ∃ c30 : Int, cell H_28 (Addr.add a29 (Int.toNat t27 * 1)) = some (Value.int .u8 c30) ∧ br ((c30 : Int) != (0 : Int)) (br ((c30 : Int) != (255 : Int))
 (R (Value.bool false) H_28)
 (X_26 [Value.int .i64 (IntKind.wrap .i64 (t27 + (1 : Int)))] H_28)) (X_26 [Value.int .i64 (IntKind.wrap .i64 (t27 + (1 : Int)))] H_28))
 (∃ Kids31p : Option Addr, ∃ Kids31l : Nat, ∃ Kids31c : Nat, cell H_28 (Addr.add ⟨b4, 0, none⟩ 18) = some (Value.slice Kids31p Kids31l Kids31c) ∧ CallsH Try.prog 60 #[Value.slice Kids31p Kids31l Kids31c, Value.func (.func 88) #[] #[Value.pointer (some ⟨b6, 0, none⟩), Value.pointer (some ⟨b8, 0, none⟩)]] H_28 fun r32 H_33 => ∃ r34 : Bool, r32 = Value.bool r34 ∧ R (Value.bool (!r34)) H_33)) → X_26 [Value.int .i64 t27] H_28) → X_26 [Value.int .i64 (0 : Int)] H_22)) → J_17 [] H_18) →
 ∃ Kind35 : Int, cell H_16 (Addr.add ⟨b4, 0, none⟩ 1) = some (Value.int .i64 Kind35) ∧ br ((Kind35 : Int) == (0 : Int))
 (∀ J_36 : List Value → Heap → Prop, (∀ H_37 : Heap, (∃ Map38 : Array Value, Map38.size = 6 ∧ rowIn H_37 (Addr.add ⟨b4, 0, none⟩ 9) Map38 ∧ CallsH Try.prog 80 #[Value.agg Map38] H_37 fun r39 H_40 => ∃ r41 : Array Value, ∃ r42 : Int, r39 = Value.tuple #[Value.agg r41, Value.int .i64 r42] ∧ alc H_40 (.cells #[Value.int .i64 0, Value.int .i64 0, Value.int .i64 0, Value.int .i64 0, Value.int .i64 0, Value.int .i64 0] 41) fun b43 H_44 => r41.size = 6 ∧ stAt H_44 ⟨b43, 0, none⟩ (Array.toList r41) fun H_45 => br ((r42 : Int) != (0 : Int)) (R (Value.bool false) H_45) (∃ P_46p : Option Addr, ∃ P_46l : Nat, ∃ P_46c : Nat, cell H_45 (Addr.add ⟨b4, 0, none⟩ 7) = some (Value.slice P_46p P_46l P_46c) ∧ CallsH Try.prog 76 #[Value.slice P_46p P_46l P_46c, Value.func (.func 87) #[] #[]] H_45 fun r47 H_48 => ∃ r49 : Bool, r47 = Value.bool r49 ∧ br r49
 (R (Value.bool false) H_48)
 (J_17 [] H_48))) → J_36 [] H_37) →
 ∃ W50 : Int, cell H_16 (Addr.add ⟨b4, 0, none⟩ 5) = some (Value.int .i64 W50) ∧ ∃ H_51 : Int, cell H_16 (Addr.add ⟨b4, 0, none⟩ 6) = some (Value.int .i64 H_51) ∧ CallsH Try.prog 13 #[Value.int .i64 W50, Value.int .i64 H_51] H_16 fun r52 H_53 => ∃ r54 : Array Value, ∃ r55 : Int, r52 = Value.tuple #[Value.agg r54, Value.int .i64 r55] ∧ alc H_53 (.cells #[Value.int .i64 0, Value.int .i64 0, Value.int .i64 0, Value.slice none 0 0] 26) fun b56 H_57 => r54.size = 4 ∧ stAt H_57 ⟨b56, 0, none⟩ (Array.toList r54) fun H_58 => br ((r55 : Int) != (0 : Int)) (R (Value.bool false) H_58) (∃ P_59p : Option Addr, ∃ P_59l : Nat, ∃ P_59c : Nat, cell H_58 (Addr.add ⟨b4, 0, none⟩ 7) = some (Value.slice P_59p P_59l P_59c) ∧ ∃ W60 : Int, cell H_58 (Addr.add ⟨b4, 0, none⟩ 5) = some (Value.int .i64 W60) ∧ ∃ H_61 : Int, cell H_58 (Addr.add ⟨b4, 0, none⟩ 6) = some (Value.int .i64 H_61) ∧ br ((((P_59l : Nat) : Int) : Int) != (IntKind.wrap .i64 (W60 * H_61)))
 (R (Value.bool false) H_58)
 (J_36 [] H_58)))
 (J_17 [] H_16)) → J_15 [] H_16) →
 ∃ Kind62 : Int, cell H_14 (Addr.add ⟨b4, 0, none⟩ 1) = some (Value.int .i64 Kind62) ∧ br ((Kind62 : Int) != (0 : Int)) (∃ W63 : Int, cell H_14 (Addr.add ⟨b4, 0, none⟩ 5) = some (Value.int .i64 W63) ∧ br ((W63 : Int) != (0 : Int)) (R (Value.bool false) H_14) (∃ H_64 : Int, cell H_14 (Addr.add ⟨b4, 0, none⟩ 6) = some (Value.int .i64 H_64) ∧ br ((H_64 : Int) != (0 : Int)) (R (Value.bool false) H_14) (∃ P_65p : Option Addr, ∃ P_65l : Nat, ∃ P_65c : Nat, cell H_14 (Addr.add ⟨b4, 0, none⟩ 7) = some (Value.slice P_65p P_65l P_65c) ∧ br ((((P_65l : Nat) : Int) : Int) != (0 : Int)) (R (Value.bool false) H_14) (∃ Map66 : Array Value, Map66.size = 6 ∧ rowIn H_14 (Addr.add ⟨b4, 0, none⟩ 9) Map66 ∧ CallsH Try.prog 71 #[] H_14 fun r67 H_68 => ∃ r69 : Array Value, r67 = Value.agg r69 ∧ (Ext H_14 H_68 ∨ (∃ Map88 : Array Value, Map88.size = 6 ∧ rowIn H_68 (Addr.add ⟨b4, 0, none⟩ 9) Map88 ∧ Value.agg Map88 = Value.agg Map66)) ∧ (1 = 1 ∧ ∃ as_70 bs71 : List Int, as_70.length = 6 ∧ bs71.length = 6 ∧ Map66 = (as_70.map (Value.int .i64)).toArray ∧ r69 = (bs71.map (Value.int .i64)).toArray ∧ br (!(decide (as_70 = bs71))) (R (Value.bool false) H_68) (∃ Smooth72 : Bool, cell H_68 (Addr.add ⟨b4, 0, none⟩ 15) = some (Value.bool Smooth72) ∧ br Smooth72 (R (Value.bool false) H_68) (∃ Kind73 : Int, cell H_68 (Addr.add ⟨b4, 0, none⟩ 1) = some (Value.int .i64 Kind73) ∧ br ((Kind73 : Int) != (2 : Int)) (∃ Table74 : Int, cell H_68 (Addr.add ⟨b4, 0, none⟩ 16) = some (Value.int .i64 Table74) ∧ br ((Table74 : Int) != (2 : Int)) (R (Value.bool false) H_68) (∃ Params75p : Option Addr, ∃ Params75l : Nat, ∃ Params75c : Nat, cell H_68 (Addr.add ⟨b4, 0, none⟩ 17) = some (Value.slice Params75p Params75l Params75c) ∧ br ((((Params75l : Nat) : Int) : Int) != (0 : Int)) (R (Value.bool false) H_68) (∃ Kind76 : Int, cell H_68 (Addr.add ⟨b4, 0, none⟩ 1) = some (Value.int .i64 Kind76) ∧ br ((Kind76 : Int) != (1 : Int)) (∃ Kids77p : Option Addr, ∃ Kids77l : Nat, ∃ Kids77c : Nat, cell H_68 (Addr.add ⟨b4, 0, none⟩ 18) = some (Value.slice Kids77p Kids77l Kids77c) ∧ br ((((Kids77l : Nat) : Int) : Int) != (0 : Int)) (R (Value.bool false) H_68) (∃ Kind78 : Int, cell H_68 (Addr.add ⟨b4, 0, none⟩ 1) = some (Value.int .i64 Kind78) ∧ br ((Kind78 : Int) == (2 : Int)) (∃ Mode79 : Int, cell H_68 (Addr.add ⟨b4, 0, none⟩ 4) = some (Value.int .i64 Mode79) ∧ br ((Mode79 : Int) != (0 : Int))
 (R (Value.bool false) H_68)
 (J_15 [] H_68)) (J_15 [] H_68))) (∃ Kind80 : Int, cell H_68 (Addr.add ⟨b4, 0, none⟩ 1) = some (Value.int .i64 Kind80) ∧ br ((Kind80 : Int) == (2 : Int)) (∃ Mode81 : Int, cell H_68 (Addr.add ⟨b4, 0, none⟩ 4) = some (Value.int .i64 Mode81) ∧ br ((Mode81 : Int) != (0 : Int))
 (R (Value.bool false) H_68)
 (J_15 [] H_68)) (J_15 [] H_68))))) (∃ Kind82 : Int, cell H_68 (Addr.add ⟨b4, 0, none⟩ 1) = some (Value.int .i64 Kind82) ∧ br ((Kind82 : Int) != (1 : Int)) (∃ Kids83p : Option Addr, ∃ Kids83l : Nat, ∃ Kids83c : Nat, cell H_68 (Addr.add ⟨b4, 0, none⟩ 18) = some (Value.slice Kids83p Kids83l Kids83c) ∧ br ((((Kids83l : Nat) : Int) : Int) != (0 : Int)) (R (Value.bool false) H_68) (∃ Kind84 : Int, cell H_68 (Addr.add ⟨b4, 0, none⟩ 1) = some (Value.int .i64 Kind84) ∧ br ((Kind84 : Int) == (2 : Int)) (∃ Mode85 : Int, cell H_68 (Addr.add ⟨b4, 0, none⟩ 4) = some (Value.int .i64 Mode85) ∧ br ((Mode85 : Int) != (0 : Int))
 (R (Value.bool false) H_68)
 (J_15 [] H_68)) (J_15 [] H_68))) (∃ Kind86 : Int, cell H_68 (Addr.add ⟨b4, 0, none⟩ 1) = some (Value.int .i64 Kind86) ∧ br ((Kind86 : Int) == (2 : Int)) (∃ Mode87 : Int, cell H_68 (Addr.add ⟨b4, 0, none⟩ 4) = some (Value.int .i64 Mode87) ∧ br ((Mode87 : Int) != (0 : Int))
 (R (Value.bool false) H_68)
 (J_15 [] H_68)) (J_15 [] H_68)))))))))) (∃ Kind89 : Int, cell H_14 (Addr.add ⟨b4, 0, none⟩ 1) = some (Value.int .i64 Kind89) ∧ br ((Kind89 : Int) != (2 : Int)) (∃ Table90 : Int, cell H_14 (Addr.add ⟨b4, 0, none⟩ 16) = some (Value.int .i64 Table90) ∧ br ((Table90 : Int) != (2 : Int)) (R (Value.bool false) H_14) (∃ Params91p : Option Addr, ∃ Params91l : Nat, ∃ Params91c : Nat, cell H_14 (Addr.add ⟨b4, 0, none⟩ 17) = some (Value.slice Params91p Params91l Params91c) ∧ br ((((Params91l : Nat) : Int) : Int) != (0 : Int)) (R (Value.bool false) H_14) (∃ Kind92 : Int, cell H_14 (Addr.add ⟨b4, 0, none⟩ 1) = some (Value.int .i64 Kind92) ∧ br ((Kind92 : Int) != (1 : Int)) (∃ Kids93p : Option Addr, ∃ Kids93l : Nat, ∃ Kids93c : Nat, cell H_14 (Addr.add ⟨b4, 0, none⟩ 18) = some (Value.slice Kids93p Kids93l Kids93c) ∧ br ((((Kids93l : Nat) : Int) : Int) != (0 : Int)) (R (Value.bool false) H_14) (∃ Kind94 : Int, cell H_14 (Addr.add ⟨b4, 0, none⟩ 1) = some (Value.int .i64 Kind94) ∧ br ((Kind94 : Int) == (2 : Int)) (∃ Mode95 : Int, cell H_14 (Addr.add ⟨b4, 0, none⟩ 4) = some (Value.int .i64 Mode95) ∧ br ((Mode95 : Int) != (0 : Int))
 (R (Value.bool false) H_14)
 (J_15 [] H_14)) (J_15 [] H_14))) (∃ Kind96 : Int, cell H_14 (Addr.add ⟨b4, 0, none⟩ 1) = some (Value.int .i64 Kind96) ∧ br ((Kind96 : Int) == (2 : Int)) (∃ Mode97 : Int, cell H_14 (Addr.add ⟨b4, 0, none⟩ 4) = some (Value.int .i64 Mode97) ∧ br ((Mode97 : Int) != (0 : Int))
 (R (Value.bool false) H_14)
 (J_15 [] H_14)) (J_15 [] H_14))))) (∃ Kind98 : Int, cell H_14 (Addr.add ⟨b4, 0, none⟩ 1) = some (Value.int .i64 Kind98) ∧ br ((Kind98 : Int) != (1 : Int)) (∃ Kids99p : Option Addr, ∃ Kids99l : Nat, ∃ Kids99c : Nat, cell H_14 (Addr.add ⟨b4, 0, none⟩ 18) = some (Value.slice Kids99p Kids99l Kids99c) ∧ br ((((Kids99l : Nat) : Int) : Int) != (0 : Int)) (R (Value.bool false) H_14) (∃ Kind100 : Int, cell H_14 (Addr.add ⟨b4, 0, none⟩ 1) = some (Value.int .i64 Kind100) ∧ br ((Kind100 : Int) == (2 : Int)) (∃ Mode101 : Int, cell H_14 (Addr.add ⟨b4, 0, none⟩ 4) = some (Value.int .i64 Mode101) ∧ br ((Mode101 : Int) != (0 : Int))
 (R (Value.bool false) H_14)
 (J_15 [] H_14)) (J_15 [] H_14))) (∃ Kind102 : Int, cell H_14 (Addr.add ⟨b4, 0, none⟩ 1) = some (Value.int .i64 Kind102) ∧ br ((Kind102 : Int) == (2 : Int)) (∃ Mode103 : Int, cell H_14 (Addr.add ⟨b4, 0, none⟩ 4) = some (Value.int .i64 Mode103) ∧ br ((Mode103 : Int) != (0 : Int))
 (R (Value.bool false) H_14)
 (J_15 [] H_14)) (J_15 [] H_14))))) → J_10 [] H_11) →
 ∃ ID104 : Int, cell H_9 (Addr.add ⟨b4, 0, none⟩ 0) = some (Value.int .i64 ID104) ∧ br (decide ((ID104 : Int) < (1 : Int))) (R (Value.bool false) H_9) (∃ ID105 : Int, cell H_9 (Addr.add ⟨b4, 0, none⟩ 0) = some (Value.int .i64 ID105) ∧ ∃ Next106 : Int, cell H_9 (Addr.add ⟨b6, 0, none⟩ 2) = some (Value.int .i64 Next106) ∧ br (decide ((ID105 : Int) ≥ Next106)) (R (Value.bool false) H_9) (∃ v107 : Option Nat, cell H_9 ⟨b8, 0, none⟩ = some (Value.map v107) ∧ ∃ ID108 : Int, cell H_9 (Addr.add ⟨b4, 0, none⟩ 0) = some (Value.int .i64 ID108) ∧ ∃ r109 : Nat, v107 = some r109 ∧ ∃ (es110 : Array MapEntry) (c111 : Nat), H_9[r109]? = some (.map es110 c111) ∧ kForm (.int .i64) (.other) (Value.int .i64 ID108) ∧ (∀ e ∈ es110.toList, kForm (.int .i64) (.other) e.key) ∧ ∃ v112 : Bool, lookV (Value.int .i64 ID108) es110.toList (Value.bool false) = Value.bool v112 ∧ br v112 (R (Value.bool false) H_9) (∃ Kind113 : Int, cell H_9 (Addr.add ⟨b4, 0, none⟩ 1) = some (Value.int .i64 Kind113) ∧ br (decide ((Kind113 : Int) < (0 : Int))) (R (Value.bool false) H_9) (∃ Kind114 : Int, cell H_9 (Addr.add ⟨b4, 0, none⟩ 1) = some (Value.int .i64 Kind114) ∧ br (decide ((Kind114 : Int) > (2 : Int))) (R (Value.bool false) H_9) (∃ Opacity115 : Int, cell H_9 (Addr.add ⟨b4, 0, none⟩ 3) = some (Value.int .i64 Opacity115) ∧ br (decide ((Opacity115 : Int) < (0 : Int))) (R (Value.bool false) H_9) (∃ Opacity116 : Int, cell H_9 (Addr.add ⟨b4, 0, none⟩ 3) = some (Value.int .i64 Opacity116) ∧ br (decide ((Opacity116 : Int) > (255 : Int))) (R (Value.bool false) H_9) (∃ Mode117 : Int, cell H_9 (Addr.add ⟨b4, 0, none⟩ 4) = some (Value.int .i64 Mode117) ∧ br (decide ((Mode117 : Int) < (0 : Int))) (R (Value.bool false) H_9) (∃ Mode118 : Int, cell H_9 (Addr.add ⟨b4, 0, none⟩ 4) = some (Value.int .i64 Mode118) ∧ br (decide ((Mode118 : Int) > (11 : Int))) (R (Value.bool false) H_9) (∃ Mask119p : Option Addr, ∃ Mask119l : Nat, ∃ Mask119c : Nat, cell H_9 (Addr.add ⟨b4, 0, none⟩ 8) = some (Value.slice Mask119p Mask119l Mask119c) ∧ br ((((Mask119l : Nat) : Int) : Int) != (0 : Int)) (∃ Mask120p : Option Addr, ∃ Mask120l : Nat, ∃ Mask120c : Nat, cell H_9 (Addr.add ⟨b4, 0, none⟩ 8) = some (Value.slice Mask120p Mask120l Mask120c) ∧ ∃ W121 : Int, cell H_9 (Addr.add ⟨b6, 0, none⟩ 0) = some (Value.int .i64 W121) ∧ ∃ H_122 : Int, cell H_9 (Addr.add ⟨b6, 0, none⟩ 1) = some (Value.int .i64 H_122) ∧ br ((((Mask120l : Nat) : Int) : Int) != (IntKind.wrap .i64 (W121 * H_122)))
 (R (Value.bool false) H_9)
 (J_10 [] H_9)) (J_10 [] H_9))))))))))
def Try.p62 : Plan := (Plan.two Plan.leaf (Plan.two (Plan.join [] [3, 4, 5] (Plan.two Plan.leaf (Plan.two (Plan.two Plan.leaf Plan.leaf) Plan.leaf))) (Plan.two Plan.leaf (Plan.two (Plan.join [] [3, 4, 5] (Plan.two Plan.leaf (Plan.two (Plan.two Plan.leaf Plan.leaf) Plan.leaf))) (Plan.two (Plan.join [] [3, 4, 5] (Plan.two Plan.leaf (Plan.two (Plan.two (Plan.join [] [3, 4, 5] (Plan.two Plan.leaf (Plan.two Plan.leaf (Plan.two (Plan.two Plan.leaf Plan.leaf) Plan.leaf)))) (Plan.two Plan.leaf (Plan.two Plan.leaf (Plan.two (Plan.two Plan.leaf Plan.leaf) Plan.leaf)))) Plan.leaf))) (Plan.two (Plan.two Plan.leaf (Plan.two Plan.leaf (Plan.two (Plan.two Plan.leaf Plan.leaf) Plan.leaf))) (Plan.two (Plan.two Plan.leaf (Plan.one (Plan.loop [(197, 3)] [3, 4, 5, 195, 196] (Plan.two Plan.leaf (Plan.two (Plan.two Plan.leaf Plan.leaf) (Plan.two (Plan.one (Plan.two Plan.leaf (Plan.two Plan.leaf (Plan.two (Plan.two Plan.leaf Plan.leaf) Plan.leaf)))) Plan.leaf)))))) (Plan.two Plan.leaf Plan.leaf))))))))
theorem Try.s62 {l1 : Array Value} {d2 : Array Value} {ids3 : Option Nat} {H : Heap} {R : Value → Heap → Prop} (h : Try.S62 l1 d2 ids3 H R) : CallsH Try.prog 62 #[Value.agg l1, Value.agg d2, Value.map ids3] H R :=
  vcFun_sound Try.tab_ok Try.mixed Try.func62 Try.cal62 (p := Try.p62) (args := [Value.agg l1, Value.agg d2, Value.map ids3]) (Eq.mp (by kernel_rfl : Try.S62 l1 d2 ids3 H R = vcFun Try.prog Try.tab Try.f62 Try.p62 [Value.agg l1, Value.agg d2, Value.map ids3] H R) h)

/-- (scumble/scumbleref11.Doc).plain -/
def Try.S63 (d1 : Array Value) (l2 : Array Value) (H : Heap) (R : Value → Heap → Prop) : Prop :=
 alc H (.cells d1 32) fun b3 H_4 => alc H_4 (.cells l2 66) fun b5 H_6 => alc H_6 (.cells #[Value.int .i64 0, Value.int .i64 0, Value.int .i64 0, Value.int .i64 0, Value.int .i64 0, Value.int .i64 0] 46) fun b7 H_8 => #[Value.int .i64 (65536 : Int), Value.int .i64 (0 : Int), Value.int .i64 (0 : Int), Value.int .i64 (65536 : Int), Value.int .i64 (0 : Int), Value.int .i64 (0 : Int)].size = 6 ∧ stAt H_8 ⟨b7, 0, none⟩ (Array.toList #[Value.int .i64 (65536 : Int), Value.int .i64 (0 : Int), Value.int .i64 (0 : Int), Value.int .i64 (65536 : Int), Value.int .i64 (0 : Int), Value.int .i64 (0 : Int)]) fun H_9 => ∀ J_10 : List Value → Heap → Prop, (∀ H_11 : Heap, (∀ J_12 : List Value → Heap → Prop, (∀ H_13 : Heap, (∀ J_14 : List Value → Heap → Prop, (∀ H_15 : Heap, (∀ J_16 : List Value → Heap → Prop, (∀ H_17 : Heap, (∃ Table18 : Int, cell H_17 (Addr.add ⟨b5, 0, none⟩ 17) = some (Value.int .i64 Table18) ∧ ∃ Params19p : Option Addr, ∃ Params19l : Nat, ∃ Params19c : Nat, cell H_17 (Addr.add ⟨b5, 0, none⟩ 18) = some (Value.slice Params19p Params19l Params19c) ∧ CallsH Try.prog 70 #[Value.int .i64 Table18, Value.slice Params19p Params19l Params19c] H_17 fun r20 H_21 => ∃ r22p : Option Addr, ∃ r22l : Nat, ∃ r22c : Nat, ∃ r23 : Bool, r20 = Value.tuple #[Value.slice r22p r22l r22c, Value.bool r23] ∧ R (Value.bool r23) H_21) → J_16 [] H_17) →
 ∃ Kind24 : Int, cell H_15 (Addr.add ⟨b5, 0, none⟩ 1) = some (Value.int .i64 Kind24) ∧ br ((Kind24 : Int) == (0 : Int))
 (∃ Map25 : Array Value, Map25.size = 6 ∧ rowIn H_15 (Addr.add ⟨b5, 0, none⟩ 10) Map25 ∧ CallsH Try.prog 69 #[Value.agg Map25] H_15 fun r26 H_27 => ∃ r28 : Array Value, ∃ r29 : Int, r26 = Value.tuple #[Value.agg r28, Value.int .i64 r29] ∧ alc H_27 (.cells #[Value.int .i64 0, Value.int .i64 0, Value.int .i64 0, Value.int .i64 0, Value.int .i64 0, Value.int .i64 0] 46) fun b30 H_31 => r28.size = 6 ∧ stAt H_31 ⟨b30, 0, none⟩ (Array.toList r28) fun H_32 => ∀ J_33 : List Value → Heap → Prop, (∀ H_34 : Heap, (∀ X_35 : List Value → Heap → Prop, (∀ i36 : Int, ∀ H_37 : Heap, (∃ P_38p : Option Addr, ∃ P_38l : Nat, ∃ P_38c : Nat, cell H_37 (Addr.add ⟨b5, 0, none⟩ 8) = some (Value.slice P_38p P_38l P_38c) ∧ br (decide ((i36 : Int) < ((P_38l : Nat) : Int)))
 (∃ P_39p : Option Addr, ∃ P_39l : Nat, ∃ P_39c : Nat, cell H_37 (Addr.add ⟨b5, 0, none⟩ 8) = some (Value.slice P_39p P_39l P_39c) ∧ ∃ a40 : Addr, P_39p = some a40 ∧ 0 ≤ i36 ∧ i36 < ((P_39l : Nat) : Int) ∧ ∃ v41 : Int, cell H_37 (Addr.add a40 (Int.toNat i36 * 1)) = some (Value.int .i64 v41) ∧ CallsH Try.prog 89 #[Value.int .i64 v41] H_37 fun r42 H_43 => ∃ r44 : Bool, r42 = Value.bool r44 ∧ br (!r44)
 (R (Value.bool false) H_43)
 (X_35 [Value.int .i64 (IntKind.wrap .i64 (i36 + (1 : Int)))] H_43))
 (J_16 [] H_37)) → X_35 [Value.int .i64 i36] H_37) → X_35 [Value.int .i64 (0 : Int)] H_34) → J_33 [] H_34) →
 br ((r29 : Int) != (0 : Int)) (R (Value.bool false) H_32) (∃ W45 : Int, cell H_32 (Addr.add ⟨b5, 0, none⟩ 6) = some (Value.int .i64 W45) ∧ ∃ H_46 : Int, cell H_32 (Addr.add ⟨b5, 0, none⟩ 7) = some (Value.int .i64 H_46) ∧ CallsH Try.prog 34 #[Value.int .i64 W45, Value.int .i64 H_46] H_32 fun r47 H_48 => ∃ r49 : Bool, r47 = Value.bool r49 ∧ br (!r49) (R (Value.bool false) H_48) (∃ P_50p : Option Addr, ∃ P_50l : Nat, ∃ P_50c : Nat, cell H_48 (Addr.add ⟨b5, 0, none⟩ 8) = some (Value.slice P_50p P_50l P_50c) ∧ ∃ W51 : Int, cell H_48 (Addr.add ⟨b5, 0, none⟩ 6) = some (Value.int .i64 W51) ∧ ∃ H_52 : Int, cell H_48 (Addr.add ⟨b5, 0, none⟩ 7) = some (Value.int .i64 H_52) ∧ br ((((P_50l : Nat) : Int) : Int) != (IntKind.wrap .i64 (W51 * H_52)))
 (R (Value.bool false) H_48)
 (J_33 [] H_48))))
 (J_16 [] H_15)) → J_14 [] H_15) →
 ∃ Kind53 : Int, cell H_13 (Addr.add ⟨b5, 0, none⟩ 1) = some (Value.int .i64 Kind53) ∧ br ((Kind53 : Int) == (2 : Int)) (∃ Mode54 : Int, cell H_13 (Addr.add ⟨b5, 0, none⟩ 5) = some (Value.int .i64 Mode54) ∧ br ((Mode54 : Int) != (0 : Int))
 (R (Value.bool false) H_13)
 (J_14 [] H_13)) (J_14 [] H_13)) → J_12 [] H_13) →
 ∃ Kind55 : Int, cell H_11 (Addr.add ⟨b5, 0, none⟩ 1) = some (Value.int .i64 Kind55) ∧ br ((Kind55 : Int) != (2 : Int)) (∃ Table56 : Int, cell H_11 (Addr.add ⟨b5, 0, none⟩ 17) = some (Value.int .i64 Table56) ∧ br ((Table56 : Int) != (2 : Int)) (R (Value.bool false) H_11) (∃ Params57p : Option Addr, ∃ Params57l : Nat, ∃ Params57c : Nat, cell H_11 (Addr.add ⟨b5, 0, none⟩ 18) = some (Value.slice Params57p Params57l Params57c) ∧ br ((((Params57l : Nat) : Int) : Int) != (0 : Int))
 (R (Value.bool false) H_11)
 (J_12 [] H_11))) (J_12 [] H_11)) → J_10 [] H_11) →
 ∃ Kind58 : Int, cell H_9 (Addr.add ⟨b5, 0, none⟩ 1) = some (Value.int .i64 Kind58) ∧ br ((Kind58 : Int) != (0 : Int)) (∃ W59 : Int, cell H_9 (Addr.add ⟨b5, 0, none⟩ 6) = some (Value.int .i64 W59) ∧ br ((W59 : Int) != (0 : Int)) (R (Value.bool false) H_9) (∃ H_60 : Int, cell H_9 (Addr.add ⟨b5, 0, none⟩ 7) = some (Value.int .i64 H_60) ∧ br ((H_60 : Int) != (0 : Int)) (R (Value.bool false) H_9) (∃ P_61p : Option Addr, ∃ P_61l : Nat, ∃ P_61c : Nat, cell H_9 (Addr.add ⟨b5, 0, none⟩ 8) = some (Value.slice P_61p P_61l P_61c) ∧ br ((((P_61l : Nat) : Int) : Int) != (0 : Int)) (R (Value.bool false) H_9) (∃ Map62 : Array Value, Map62.size = 6 ∧ rowIn H_9 (Addr.add ⟨b5, 0, none⟩ 10) Map62 ∧ ∃ v63 : Array Value, v63.size = 6 ∧ rowIn H_9 ⟨b7, 0, none⟩ v63 ∧ (1 = 1 ∧ ∃ as_64 bs65 : List Int, as_64.length = 6 ∧ bs65.length = 6 ∧ Map62 = (as_64.map (Value.int .i64)).toArray ∧ v63 = (bs65.map (Value.int .i64)).toArray ∧ br (!(decide (as_64 = bs65))) (R (Value.bool false) H_9) (∃ Smooth66 : Bool, cell H_9 (Addr.add ⟨b5, 0, none⟩ 16) = some (Value.bool Smooth66) ∧ br Smooth66
 (R (Value.bool false) H_9)
 (J_10 [] H_9))))))) (J_10 [] H_9)
def Try.p63 : Plan := (Plan.two Plan.leaf (Plan.two Plan.leaf (Plan.two (Plan.join [] [3] (Plan.two Plan.leaf (Plan.two (Plan.two Plan.leaf Plan.leaf) Plan.leaf))) (Plan.two (Plan.join [] [3] (Plan.two Plan.leaf (Plan.two (Plan.two Plan.leaf Plan.leaf) Plan.leaf))) (Plan.two (Plan.join [] [3] (Plan.two Plan.leaf (Plan.two (Plan.two Plan.leaf Plan.leaf) Plan.leaf))) (Plan.two (Plan.join [] [3] (Plan.two Plan.leaf (Plan.two (Plan.two Plan.leaf (Plan.two (Plan.join [] [3] (Plan.two Plan.leaf (Plan.two (Plan.two Plan.leaf Plan.leaf) Plan.leaf))) (Plan.two Plan.leaf (Plan.one (Plan.loop [(8, 3)] [3] (Plan.two (Plan.two Plan.leaf (Plan.two Plan.leaf Plan.leaf)) (Plan.two (Plan.one (Plan.two Plan.leaf (Plan.two (Plan.two Plan.leaf Plan.leaf) Plan.leaf))) Plan.leaf))))))) Plan.leaf))) (Plan.two Plan.leaf (Plan.two Plan.leaf Plan.leaf))))))))
theorem Try.s63 {d1 : Array Value} {l2 : Array Value} {H : Heap} {R : Value → Heap → Prop} (h : Try.S63 d1 l2 H R) : CallsH Try.prog 63 #[Value.agg d1, Value.agg l2] H R :=
  vcFun_sound Try.tab_ok Try.mixed Try.func63 Try.cal63 (p := Try.p63) (args := [Value.agg d1, Value.agg l2]) (Eq.mp (by kernel_rfl : Try.S63 d1 l2 H R = vcFun Try.prog Try.tab Try.f63 Try.p63 [Value.agg d1, Value.agg l2] H R) h)

end Go.Proofs

/-
  Printed by a program of mine (gen.py): each function, over heaps; and that what is said of it is said of its call.
-/
set_option linter.unusedVariables false
set_option maxRecDepth 100000
namespace Go.Proofs
open Go.Sh

/-- (scumble/scumbleref10.Map).Back -/
def Try.S69 (m1 : Array Value) (H : Heap) (R : Value → Heap → Prop) : Prop :=
 alc H (.cells m1 46) fun b2 H_3 => alc H_3 (.cells #[Value.int .i64 0, Value.int .i64 0, Value.int .i64 0, Value.int .i64 0, Value.int .i64 0, Value.int .i64 0] 46) fun b4 H_5 => ∃ v6 : Array Value, v6.size = 6 ∧ rowIn H_5 ⟨b2, 0, none⟩ v6 ∧ CallsH Try.prog 92 #[Value.agg v6] H_5 fun r7 H_8 => ∃ r9 : Bool, r7 = Value.bool r9 ∧ br (!r9)
 (#[Value.int .i64 0, Value.int .i64 0, Value.int .i64 0, Value.int .i64 0, Value.int .i64 0, Value.int .i64 0].size = 6 ∧ stAt H_8 ⟨b4, 0, none⟩ (Array.toList #[Value.int .i64 0, Value.int .i64 0, Value.int .i64 0, Value.int .i64 0, Value.int .i64 0, Value.int .i64 0]) fun H_10 => ∃ res11 : Array Value, res11.size = 6 ∧ rowIn H_10 ⟨b4, 0, none⟩ res11 ∧ R (Value.tuple #[Value.agg res11, Value.int .i64 (31 : Int)]) H_10)
 (0 ≤ (0 : Int) ∧ (0 : Int) < ((6 : Nat) : Int) ∧ ∃ v12 : Int, cell H_8 (Addr.add ⟨b2, 0, none⟩ (Int.toNat (0 : Int) * 1)) = some (Value.int .i64 v12) ∧ 0 ≤ (3 : Int) ∧ (3 : Int) < ((6 : Nat) : Int) ∧ ∃ v13 : Int, cell H_8 (Addr.add ⟨b2, 0, none⟩ (Int.toNat (3 : Int) * 1)) = some (Value.int .i64 v13) ∧ 0 ≤ (1 : Int) ∧ (1 : Int) < ((6 : Nat) : Int) ∧ ∃ v14 : Int, cell H_8 (Addr.add ⟨b2, 0, none⟩ (Int.toNat (1 : Int) * 1)) = some (Value.int .i64 v14) ∧ 0 ≤ (2 : Int) ∧ (2 : Int) < ((6 : Nat) : Int) ∧ ∃ v15 : Int, cell H_8 (Addr.add ⟨b2, 0, none⟩ (Int.toNat (2 : Int) * 1)) = some (Value.int .i64 v15) ∧ br (((IntKind.wrap .i64 ((IntKind.wrap .i64 (v12 * v13)) - (IntKind.wrap .i64 (v14 * v15)))) : Int) == (0 : Int))
 (#[Value.int .i64 0, Value.int .i64 0, Value.int .i64 0, Value.int .i64 0, Value.int .i64 0, Value.int .i64 0].size = 6 ∧ stAt H_8 ⟨b4, 0, none⟩ (Array.toList #[Value.int .i64 0, Value.int .i64 0, Value.int .i64 0, Value.int .i64 0, Value.int .i64 0, Value.int .i64 0]) fun H_16 => ∃ res17 : Array Value, res17.size = 6 ∧ rowIn H_16 ⟨b4, 0, none⟩ res17 ∧ R (Value.tuple #[Value.agg res17, Value.int .i64 (33 : Int)]) H_16)
 (∀ J_18 : List Value → Heap → Prop, (∀ out19 : Addr, ∀ H_20 : Heap, (∃ v21 : Array Value, v21.size = 6 ∧ rowIn H_20 out19 v21 ∧ CallsH Try.prog 92 #[Value.agg v21] H_20 fun r22 H_23 => ∃ r24 : Bool, r22 = Value.bool r24 ∧ br (!r24)
 (#[Value.int .i64 0, Value.int .i64 0, Value.int .i64 0, Value.int .i64 0, Value.int .i64 0, Value.int .i64 0].size = 6 ∧ stAt H_23 ⟨b4, 0, none⟩ (Array.toList #[Value.int .i64 0, Value.int .i64 0, Value.int .i64 0, Value.int .i64 0, Value.int .i64 0, Value.int .i64 0]) fun H_25 => ∃ res26 : Array Value, res26.size = 6 ∧ rowIn H_25 ⟨b4, 0, none⟩ res26 ∧ R (Value.tuple #[Value.agg res26, Value.int .i64 (33 : Int)]) H_25)
 (0 ≤ (0 : Int) ∧ (0 : Int) < ((6 : Nat) : Int) ∧ ∃ v27 : Int, cell H_23 (Addr.add out19 (Int.toNat (0 : Int) * 1)) = some (Value.int .i64 v27) ∧ 0 ≤ (4 : Int) ∧ (4 : Int) < ((6 : Nat) : Int) ∧ ∃ v28 : Int, cell H_23 (Addr.add ⟨b2, 0, none⟩ (Int.toNat (4 : Int) * 1)) = some (Value.int .i64 v28) ∧ 0 ≤ (1 : Int) ∧ (1 : Int) < ((6 : Nat) : Int) ∧ ∃ v29 : Int, cell H_23 (Addr.add out19 (Int.toNat (1 : Int) * 1)) = some (Value.int .i64 v29) ∧ 0 ≤ (5 : Int) ∧ (5 : Int) < ((6 : Nat) : Int) ∧ ∃ v30 : Int, cell H_23 (Addr.add ⟨b2, 0, none⟩ (Int.toNat (5 : Int) * 1)) = some (Value.int .i64 v30) ∧ CallsH Try.prog 94 #[Value.int .i64 (IntKind.wrap .i64 (0 - (IntKind.wrap .i64 ((IntKind.wrap .i64 (v27 * v28)) + (IntKind.wrap .i64 (v29 * v30))))))] H_23 fun r31 H_32 => ∃ r33 : Int, r31 = Value.int .i64 r33 ∧ 0 ≤ (4 : Int) ∧ (4 : Int) < ((6 : Nat) : Int) ∧ stAt H_32 (Addr.add out19 (Int.toNat (4 : Int) * 1)) [Value.int .i64 r33] fun H_34 => 0 ≤ (2 : Int) ∧ (2 : Int) < ((6 : Nat) : Int) ∧ ∃ v35 : Int, cell H_34 (Addr.add out19 (Int.toNat (2 : Int) * 1)) = some (Value.int .i64 v35) ∧ 0 ≤ (4 : Int) ∧ (4 : Int) < ((6 : Nat) : Int) ∧ ∃ v36 : Int, cell H_34 (Addr.add ⟨b2, 0, none⟩ (Int.toNat (4 : Int) * 1)) = some (Value.int .i64 v36) ∧ 0 ≤ (3 : Int) ∧ (3 : Int) < ((6 : Nat) : Int) ∧ ∃ v37 : Int, cell H_34 (Addr.add out19 (Int.toNat (3 : Int) * 1)) = some (Value.int .i64 v37) ∧ 0 ≤ (5 : Int) ∧ (5 : Int) < ((6 : Nat) : Int) ∧ ∃ v38 : Int, cell H_34 (Addr.add ⟨b2, 0, none⟩ (Int.toNat (5 : Int) * 1)) = some (Value.int .i64 v38) ∧ CallsH Try.prog 94 #[Value.int .i64 (IntKind.wrap .i64 (0 - (IntKind.wrap .i64 ((IntKind.wrap .i64 (v35 * v36)) + (IntKind.wrap .i64 (v37 * v38))))))] H_34 fun r39 H_40 => ∃ r41 : Int, r39 = Value.int .i64 r41 ∧ 0 ≤ (5 : Int) ∧ (5 : Int) < ((6 : Nat) : Int) ∧ stAt H_40 (Addr.add out19 (Int.toNat (5 : Int) * 1)) [Value.int .i64 r41] fun H_42 => ∃ v43 : Array Value, v43.size = 6 ∧ rowIn H_42 out19 v43 ∧ CallsH Try.prog 92 #[Value.agg v43] H_42 fun r44 H_45 => ∃ r46 : Bool, r44 = Value.bool r46 ∧ br (!r46)
 (#[Value.int .i64 0, Value.int .i64 0, Value.int .i64 0, Value.int .i64 0, Value.int .i64 0, Value.int .i64 0].size = 6 ∧ stAt H_45 ⟨b4, 0, none⟩ (Array.toList #[Value.int .i64 0, Value.int .i64 0, Value.int .i64 0, Value.int .i64 0, Value.int .i64 0, Value.int .i64 0]) fun H_47 => ∃ res48 : Array Value, res48.size = 6 ∧ rowIn H_47 ⟨b4, 0, none⟩ res48 ∧ R (Value.tuple #[Value.agg res48, Value.int .i64 (33 : Int)]) H_47)
 (∃ v49 : Array Value, v49.size = 6 ∧ rowIn H_45 out19 v49 ∧ v49.size = 6 ∧ stAt H_45 ⟨b4, 0, none⟩ (Array.toList v49) fun H_50 => ∃ res51 : Array Value, res51.size = 6 ∧ rowIn H_50 ⟨b4, 0, none⟩ res51 ∧ R (Value.tuple #[Value.agg res51, Value.int .i64 (0 : Int)]) H_50))) → J_18 [Value.pointer (some out19)] H_20) →
 0 ≤ (3 : Int) ∧ (3 : Int) < ((6 : Nat) : Int) ∧ ∃ v52 : Int, cell H_8 (Addr.add ⟨b2, 0, none⟩ (Int.toNat (3 : Int) * 1)) = some (Value.int .i64 v52) ∧ 0 ≤ (1 : Int) ∧ (1 : Int) < ((6 : Nat) : Int) ∧ ∃ v53 : Int, cell H_8 (Addr.add ⟨b2, 0, none⟩ (Int.toNat (1 : Int) * 1)) = some (Value.int .i64 v53) ∧ 0 ≤ (2 : Int) ∧ (2 : Int) < ((6 : Nat) : Int) ∧ ∃ v54 : Int, cell H_8 (Addr.add ⟨b2, 0, none⟩ (Int.toNat (2 : Int) * 1)) = some (Value.int .i64 v54) ∧ 0 ≤ (0 : Int) ∧ (0 : Int) < ((6 : Nat) : Int) ∧ ∃ v55 : Int, cell H_8 (Addr.add ⟨b2, 0, none⟩ (Int.toNat (0 : Int) * 1)) = some (Value.int .i64 v55) ∧ (CallsH Try.prog 93 #[Value.int .i64 (IntKind.wrap .i64 (v52 * (4294967296 : Int))), Value.int .i64 (IntKind.wrap .i64 ((IntKind.wrap .i64 (v12 * v13)) - (IntKind.wrap .i64 (v14 * v15))))] H_8 fun r56 H_57 => ∃ r58 : Int, r56 = Value.int .i64 r58 ∧ (Ext H_8 H_57 ∨ (∃ v111 : Int, cell H_57 (Addr.add ⟨b2, 0, none⟩ (Int.toNat (0 : Int) * 1)) = some (Value.int .i64 v111) ∧ Value.int .i64 v111 = Value.int .i64 v55) ∧ (∃ v112 : Int, cell H_57 (Addr.add ⟨b2, 0, none⟩ (Int.toNat (2 : Int) * 1)) = some (Value.int .i64 v112) ∧ Value.int .i64 v112 = Value.int .i64 v54) ∧ (∃ v113 : Int, cell H_57 (Addr.add ⟨b2, 0, none⟩ (Int.toNat (1 : Int) * 1)) = some (Value.int .i64 v113) ∧ Value.int .i64 v113 = Value.int .i64 v53)) ∧ (CallsH Try.prog 93 #[Value.int .i64 (IntKind.wrap .i64 ((IntKind.wrap .i64 (0 - v53)) * (4294967296 : Int))), Value.int .i64 (IntKind.wrap .i64 ((IntKind.wrap .i64 (v12 * v13)) - (IntKind.wrap .i64 (v14 * v15))))] H_57 fun r59 H_60 => ∃ r61 : Int, r59 = Value.int .i64 r61 ∧ (Ext H_57 H_60 ∨ (∃ v91 : Int, cell H_60 (Addr.add ⟨b2, 0, none⟩ (Int.toNat (0 : Int) * 1)) = some (Value.int .i64 v91) ∧ Value.int .i64 v91 = Value.int .i64 v55) ∧ (∃ v92 : Int, cell H_60 (Addr.add ⟨b2, 0, none⟩ (Int.toNat (2 : Int) * 1)) = some (Value.int .i64 v92) ∧ Value.int .i64 v92 = Value.int .i64 v54)) ∧ (CallsH Try.prog 93 #[Value.int .i64 (IntKind.wrap .i64 ((IntKind.wrap .i64 (0 - v54)) * (4294967296 : Int))), Value.int .i64 (IntKind.wrap .i64 ((IntKind.wrap .i64 (v12 * v13)) - (IntKind.wrap .i64 (v14 * v15))))] H_60 fun r62 H_63 => ∃ r64 : Int, r62 = Value.int .i64 r64 ∧ (Ext H_60 H_63 ∨ (∃ v78 : Int, cell H_63 (Addr.add ⟨b2, 0, none⟩ (Int.toNat (0 : Int) * 1)) = some (Value.int .i64 v78) ∧ Value.int .i64 v78 = Value.int .i64 v55)) ∧ (CallsH Try.prog 93 #[Value.int .i64 (IntKind.wrap .i64 (v55 * (4294967296 : Int))), Value.int .i64 (IntKind.wrap .i64 ((IntKind.wrap .i64 (v12 * v13)) - (IntKind.wrap .i64 (v14 * v15))))] H_63 fun r65 H_66 => ∃ r67 : Int, r65 = Value.int .i64 r67 ∧ alc H_66 (.cells #[Value.int .i64 0, Value.int .i64 0, Value.int .i64 0, Value.int .i64 0, Value.int .i64 0, Value.int .i64 0] 46) fun b68 H_69 => #[Value.int .i64 r58, Value.int .i64 r61, Value.int .i64 r64, Value.int .i64 r67, Value.int .i64 (0 : Int), Value.int .i64 (0 : Int)].size = 6 ∧ stAt H_69 ⟨b68, 0, none⟩ (Array.toList #[Value.int .i64 r58, Value.int .i64 r61, Value.int .i64 r64, Value.int .i64 r67, Value.int .i64 (0 : Int), Value.int .i64 (0 : Int)]) fun H_70 => J_18 [Value.pointer (some ⟨b68, 0, none⟩)] H_70) ∧ (alc H_63 (.cells #[Value.int .i64 0, Value.int .i64 0, Value.int .i64 0, Value.int .i64 0, Value.int .i64 0, Value.int .i64 0] 46) fun b71 H_72 => (Ext H_63 H_72 ∨ (∃ v77 : Int, cell H_72 (Addr.add ⟨b2, 0, none⟩ (Int.toNat (0 : Int) * 1)) = some (Value.int .i64 v77) ∧ Value.int .i64 v77 = Value.int .i64 v55)) ∧ CallsH Try.prog 93 #[Value.int .i64 (IntKind.wrap .i64 (v55 * (4294967296 : Int))), Value.int .i64 (IntKind.wrap .i64 ((IntKind.wrap .i64 (v12 * v13)) - (IntKind.wrap .i64 (v14 * v15))))] H_72 fun r73 H_74 => ∃ r75 : Int, r73 = Value.int .i64 r75 ∧ #[Value.int .i64 r58, Value.int .i64 r61, Value.int .i64 r64, Value.int .i64 r75, Value.int .i64 (0 : Int), Value.int .i64 (0 : Int)].size = 6 ∧ stAt H_74 ⟨b71, 0, none⟩ (Array.toList #[Value.int .i64 r58, Value.int .i64 r61, Value.int .i64 r64, Value.int .i64 r75, Value.int .i64 (0 : Int), Value.int .i64 (0 : Int)]) fun H_76 => J_18 [Value.pointer (some ⟨b71, 0, none⟩)] H_76)) ∧ (alc H_60 (.cells #[Value.int .i64 0, Value.int .i64 0, Value.int .i64 0, Value.int .i64 0, Value.int .i64 0, Value.int .i64 0] 46) fun b79 H_80 => (Ext H_60 H_80 ∨ (∃ v89 : Int, cell H_80 (Addr.add ⟨b2, 0, none⟩ (Int.toNat (0 : Int) * 1)) = some (Value.int .i64 v89) ∧ Value.int .i64 v89 = Value.int .i64 v55) ∧ (∃ v90 : Int, cell H_80 (Addr.add ⟨b2, 0, none⟩ (Int.toNat (2 : Int) * 1)) = some (Value.int .i64 v90) ∧ Value.int .i64 v90 = Value.int .i64 v54)) ∧ CallsH Try.prog 93 #[Value.int .i64 (IntKind.wrap .i64 ((IntKind.wrap .i64 (0 - v54)) * (4294967296 : Int))), Value.int .i64 (IntKind.wrap .i64 ((IntKind.wrap .i64 (v12 * v13)) - (IntKind.wrap .i64 (v14 * v15))))] H_80 fun r81 H_82 => ∃ r83 : Int, r81 = Value.int .i64 r83 ∧ (Ext H_80 H_82 ∨ (∃ v88 : Int, cell H_82 (Addr.add ⟨b2, 0, none⟩ (Int.toNat (0 : Int) * 1)) = some (Value.int .i64 v88) ∧ Value.int .i64 v88 = Value.int .i64 v55)) ∧ CallsH Try.prog 93 #[Value.int .i64 (IntKind.wrap .i64 (v55 * (4294967296 : Int))), Value.int .i64 (IntKind.wrap .i64 ((IntKind.wrap .i64 (v12 * v13)) - (IntKind.wrap .i64 (v14 * v15))))] H_82 fun r84 H_85 => ∃ r86 : Int, r84 = Value.int .i64 r86 ∧ #[Value.int .i64 r58, Value.int .i64 r61, Value.int .i64 r83, Value.int .i64 r86, Value.int .i64 (0 : Int), Value.int .i64 (0 : Int)].size = 6 ∧ stAt H_85 ⟨b79, 0, none⟩ (Array.toList #[Value.int .i64 r58, Value.int .i64 r61, Value.int .i64 r83, Value.int .i64 r86, Value.int .i64 (0 : Int), Value.int .i64 (0 : Int)]) fun H_87 => J_18 [Value.pointer (some ⟨b79, 0, none⟩)] H_87)) ∧ (alc H_57 (.cells #[Value.int .i64 0, Value.int .i64 0, Value.int .i64 0, Value.int .i64 0, Value.int .i64 0, Value.int .i64 0] 46) fun b93 H_94 => (Ext H_57 H_94 ∨ (∃ v108 : Int, cell H_94 (Addr.add ⟨b2, 0, none⟩ (Int.toNat (0 : Int) * 1)) = some (Value.int .i64 v108) ∧ Value.int .i64 v108 = Value.int .i64 v55) ∧ (∃ v109 : Int, cell H_94 (Addr.add ⟨b2, 0, none⟩ (Int.toNat (2 : Int) * 1)) = some (Value.int .i64 v109) ∧ Value.int .i64 v109 = Value.int .i64 v54) ∧ (∃ v110 : Int, cell H_94 (Addr.add ⟨b2, 0, none⟩ (Int.toNat (1 : Int) * 1)) = some (Value.int .i64 v110) ∧ Value.int .i64 v110 = Value.int .i64 v53)) ∧ CallsH Try.prog 93 #[Value.int .i64 (IntKind.wrap .i64 ((IntKind.wrap .i64 (0 - v53)) * (4294967296 : Int))), Value.int .i64 (IntKind.wrap .i64 ((IntKind.wrap .i64 (v12 * v13)) - (IntKind.wrap .i64 (v14 * v15))))] H_94 fun r95 H_96 => ∃ r97 : Int, r95 = Value.int .i64 r97 ∧ (Ext H_94 H_96 ∨ (∃ v106 : Int, cell H_96 (Addr.add ⟨b2, 0, none⟩ (Int.toNat (0 : Int) * 1)) = some (Value.int .i64 v106) ∧ Value.int .i64 v106 = Value.int .i64 v55) ∧ (∃ v107 : Int, cell H_96 (Addr.add ⟨b2, 0, none⟩ (Int.toNat (2 : Int) * 1)) = some (Value.int .i64 v107) ∧ Value.int .i64 v107 = Value.int .i64 v54)) ∧ CallsH Try.prog 93 #[Value.int .i64 (IntKind.wrap .i64 ((IntKind.wrap .i64 (0 - v54)) * (4294967296 : Int))), Value.int .i64 (IntKind.wrap .i64 ((IntKind.wrap .i64 (v12 * v13)) - (IntKind.wrap .i64 (v14 * v15))))] H_96 fun r98 H_99 => ∃ r100 : Int, r98 = Value.int .i64 r100 ∧ (Ext H_96 H_99 ∨ (∃ v105 : Int, cell H_99 (Addr.add ⟨b2, 0, none⟩ (Int.toNat (0 : Int) * 1)) = some (Value.int .i64 v105) ∧ Value.int .i64 v105 = Value.int .i64 v55)) ∧ CallsH Try.prog 93 #[Value.int .i64 (IntKind.wrap .i64 (v55 * (4294967296 : Int))), Value.int .i64 (IntKind.wrap .i64 ((IntKind.wrap .i64 (v12 * v13)) - (IntKind.wrap .i64 (v14 * v15))))] H_99 fun r101 H_102 => ∃ r103 : Int, r101 = Value.int .i64 r103 ∧ #[Value.int .i64 r58, Value.int .i64 r97, Value.int .i64 r100, Value.int .i64 r103, Value.int .i64 (0 : Int), Value.int .i64 (0 : Int)].size = 6 ∧ stAt H_102 ⟨b93, 0, none⟩ (Array.toList #[Value.int .i64 r58, Value.int .i64 r97, Value.int .i64 r100, Value.int .i64 r103, Value.int .i64 (0 : Int), Value.int .i64 (0 : Int)]) fun H_104 => J_18 [Value.pointer (some ⟨b93, 0, none⟩)] H_104)) ∧ (alc H_8 (.cells #[Value.int .i64 0, Value.int .i64 0, Value.int .i64 0, Value.int .i64 0, Value.int .i64 0, Value.int .i64 0] 46) fun b114 H_115 => (Ext H_8 H_115 ∨ (∃ v135 : Int, cell H_115 (Addr.add ⟨b2, 0, none⟩ (Int.toNat (0 : Int) * 1)) = some (Value.int .i64 v135) ∧ Value.int .i64 v135 = Value.int .i64 v55) ∧ (∃ v136 : Int, cell H_115 (Addr.add ⟨b2, 0, none⟩ (Int.toNat (2 : Int) * 1)) = some (Value.int .i64 v136) ∧ Value.int .i64 v136 = Value.int .i64 v54) ∧ (∃ v137 : Int, cell H_115 (Addr.add ⟨b2, 0, none⟩ (Int.toNat (1 : Int) * 1)) = some (Value.int .i64 v137) ∧ Value.int .i64 v137 = Value.int .i64 v53) ∧ (∃ v138 : Int, cell H_115 (Addr.add ⟨b2, 0, none⟩ (Int.toNat (3 : Int) * 1)) = some (Value.int .i64 v138) ∧ Value.int .i64 v138 = Value.int .i64 v52)) ∧ CallsH Try.prog 93 #[Value.int .i64 (IntKind.wrap .i64 (v52 * (4294967296 : Int))), Value.int .i64 (IntKind.wrap .i64 ((IntKind.wrap .i64 (v12 * v13)) - (IntKind.wrap .i64 (v14 * v15))))] H_115 fun r116 H_117 => ∃ r118 : Int, r116 = Value.int .i64 r118 ∧ (Ext H_115 H_117 ∨ (∃ v132 : Int, cell H_117 (Addr.add ⟨b2, 0, none⟩ (Int.toNat (0 : Int) * 1)) = some (Value.int .i64 v132) ∧ Value.int .i64 v132 = Value.int .i64 v55) ∧ (∃ v133 : Int, cell H_117 (Addr.add ⟨b2, 0, none⟩ (Int.toNat (2 : Int) * 1)) = some (Value.int .i64 v133) ∧ Value.int .i64 v133 = Value.int .i64 v54) ∧ (∃ v134 : Int, cell H_117 (Addr.add ⟨b2, 0, none⟩ (Int.toNat (1 : Int) * 1)) = some (Value.int .i64 v134) ∧ Value.int .i64 v134 = Value.int .i64 v53)) ∧ CallsH Try.prog 93 #[Value.int .i64 (IntKind.wrap .i64 ((IntKind.wrap .i64 (0 - v53)) * (4294967296 : Int))), Value.int .i64 (IntKind.wrap .i64 ((IntKind.wrap .i64 (v12 * v13)) - (IntKind.wrap .i64 (v14 * v15))))] H_117 fun r119 H_120 => ∃ r121 : Int, r119 = Value.int .i64 r121 ∧ (Ext H_117 H_120 ∨ (∃ v130 : Int, cell H_120 (Addr.add ⟨b2, 0, none⟩ (Int.toNat (0 : Int) * 1)) = some (Value.int .i64 v130) ∧ Value.int .i64 v130 = Value.int .i64 v55) ∧ (∃ v131 : Int, cell H_120 (Addr.add ⟨b2, 0, none⟩ (Int.toNat (2 : Int) * 1)) = some (Value.int .i64 v131) ∧ Value.int .i64 v131 = Value.int .i64 v54)) ∧ CallsH Try.prog 93 #[Value.int .i64 (IntKind.wrap .i64 ((IntKind.wrap .i64 (0 - v54)) * (4294967296 : Int))), Value.int .i64 (IntKind.wrap .i64 ((IntKind.wrap .i64 (v12 * v13)) - (IntKind.wrap .i64 (v14 * v15))))] H_120 fun r122 H_123 => ∃ r124 : Int, r122 = Value.int .i64 r124 ∧ (Ext H_120 H_123 ∨ (∃ v129 : Int, cell H_123 (Addr.add ⟨b2, 0, none⟩ (Int.toNat (0 : Int) * 1)) = some (Value.int .i64 v129) ∧ Value.int .i64 v129 = Value.int .i64 v55)) ∧ CallsH Try.prog 93 #[Value.int .i64 (IntKind.wrap .i64 (v55 * (4294967296 : Int))), Value.int .i64 (IntKind.wrap .i64 ((IntKind.wrap .i64 (v12 * v13)) - (IntKind.wrap .i64 (v14 * v15))))] H_123 fun r125 H_126 => ∃ r127 : Int, r125 = Value.int .i64 r127 ∧ #[Value.int .i64 r118, Value.int .i64 r121, Value.int .i64 r124, Value.int .i64 r127, Value.int .i64 (0 : Int), Value.int .i64 (0 : Int)].size = 6 ∧ stAt H_126 ⟨b114, 0, none⟩ (Array.toList #[Value.int .i64 r118, Value.int .i64 r121, Value.int .i64 r124, Value.int .i64 r127, Value.int .i64 (0 : Int), Value.int .i64 (0 : Int)]) fun H_128 => J_18 [Value.pointer (some ⟨b114, 0, none⟩)] H_128)))
def Try.p69 : Plan := (Plan.two Plan.leaf (Plan.two (Plan.two Plan.leaf (Plan.two (Plan.two Plan.leaf Plan.leaf) Plan.leaf)) (Plan.two Plan.leaf (Plan.two (Plan.two Plan.leaf (Plan.two (Plan.two Plan.leaf Plan.leaf) Plan.leaf)) (Plan.two Plan.leaf (Plan.two (Plan.join [(6, 999999)] [1, 2] Plan.leaf) (Plan.two (Plan.two Plan.leaf (Plan.two (Plan.two Plan.leaf Plan.leaf) Plan.leaf)) (Plan.two Plan.leaf (Plan.two Plan.leaf (Plan.two (Plan.two Plan.leaf (Plan.two (Plan.two Plan.leaf Plan.leaf) Plan.leaf)) (Plan.two Plan.leaf Plan.leaf)))))))))))
theorem Try.s69 {m1 : Array Value} {H : Heap} {R : Value → Heap → Prop} (h : Try.S69 m1 H R) : CallsH Try.prog 69 #[Value.agg m1] H R :=
  vcFun_sound Try.tab_ok Try.mixed Try.func69 Try.cal69 (p := Try.p69) (args := [Value.agg m1]) (Eq.mp (by kernel_rfl : Try.S69 m1 H R = vcFun Try.prog Try.tab Try.f69 Try.p69 [Value.agg m1] H R) h)

/-- scumble/scumbleref08.Table -/
def Try.S70 (kind1 : Int) (p2p : Option Addr) (p2l : Nat) (p2c : Nat) (H : Heap) (R : Value → Heap → Prop) : Prop :=
 ∀ X_3 : List Value → Heap → Prop, (∀ i4 : Int, ∀ H_5 : Heap, (br (decide ((i4 : Int) < ((p2l : Nat) : Int)))
 (∃ a6 : Addr, p2p = some a6 ∧ 0 ≤ i4 ∧ i4 < ((p2l : Nat) : Int) ∧ ∃ v7 : Int, cell H_5 (Addr.add a6 (Int.toNat i4 * 1)) = some (Value.int .i64 v7) ∧ br (decide ((v7 : Int) < (0 : Int))) (R (Value.tuple #[Value.slice none 0 0, Value.bool false]) H_5) (∃ a8 : Addr, p2p = some a8 ∧ 0 ≤ i4 ∧ i4 < ((p2l : Nat) : Int) ∧ ∃ v9 : Int, cell H_5 (Addr.add a8 (Int.toNat i4 * 1)) = some (Value.int .i64 v9) ∧ br (decide ((v9 : Int) > (255 : Int)))
 (R (Value.tuple #[Value.slice none 0 0, Value.bool false]) H_5)
 (X_3 [Value.int .i64 (IntKind.wrap .i64 (i4 + (1 : Int)))] H_5)))
 (0 ≤ (256 : Int) ∧ (256 : Int) ≤ (256 : Int) ∧ ((8 : Nat) : Int) * (256 : Int) ≤ 281474976710656 ∧ (256 : Int) ≤ 281474976710656 ∧ alc H_5 (.cells (List.toArray (reps (Int.toNat (256 : Int)) (Array.toList #[Value.int .i64 0]))) 3) fun b10 H_11 => br ((kind1 : Int) == (0 : Int))
 (∀ J_12 : List Value → Heap → Prop, (∀ H_13 : Heap, (∀ X_14 : List Value → Heap → Prop, (∀ v15 : Int, ∀ H_16 : Heap, (br (decide ((v15 : Int) < (256 : Int)))
 (∃ a17 : Addr, p2p = some a17 ∧ 0 ≤ (1 : Int) ∧ (1 : Int) < ((p2l : Nat) : Int) ∧ ∃ v18 : Int, cell H_16 (Addr.add a17 (Int.toNat (1 : Int) * 1)) = some (Value.int .i64 v18) ∧ br (decide ((v15 : Int) ≥ v18))
 (∃ a19 : Addr, (some ⟨b10, 0, none⟩) = some a19 ∧ 0 ≤ v15 ∧ v15 < (((Int.toNat (256 : Int)) : Nat) : Int) ∧ stAt H_16 (Addr.add a19 (Int.toNat v15 * 1)) [Value.int .i64 (255 : Int)] fun H_20 => X_14 [Value.int .i64 (IntKind.wrap .i64 (v15 + (1 : Int)))] H_20)
 (∃ a21 : Addr, p2p = some a21 ∧ 0 ≤ (0 : Int) ∧ (0 : Int) < ((p2l : Nat) : Int) ∧ ∃ v22 : Int, cell H_16 (Addr.add a21 (Int.toNat (0 : Int) * 1)) = some (Value.int .i64 v22) ∧ br (decide ((v15 : Int) > v22))
 (∃ a23 : Addr, p2p = some a23 ∧ 0 ≤ (0 : Int) ∧ (0 : Int) < ((p2l : Nat) : Int) ∧ ∃ v24 : Int, cell H_16 (Addr.add a23 (Int.toNat (0 : Int) * 1)) = some (Value.int .i64 v24) ∧ ∃ a25 : Addr, p2p = some a25 ∧ 0 ≤ (1 : Int) ∧ (1 : Int) < ((p2l : Nat) : Int) ∧ ∃ v26 : Int, cell H_16 (Addr.add a25 (Int.toNat (1 : Int) * 1)) = some (Value.int .i64 v26) ∧ ∃ a27 : Addr, p2p = some a27 ∧ 0 ≤ (0 : Int) ∧ (0 : Int) < ((p2l : Nat) : Int) ∧ ∃ v28 : Int, cell H_16 (Addr.add a27 (Int.toNat (0 : Int) * 1)) = some (Value.int .i64 v28) ∧ (2 : Int) ≠ 0 ∧ ∃ a29 : Addr, p2p = some a29 ∧ 0 ≤ (1 : Int) ∧ (1 : Int) < ((p2l : Nat) : Int) ∧ ∃ v30 : Int, cell H_16 (Addr.add a29 (Int.toNat (1 : Int) * 1)) = some (Value.int .i64 v30) ∧ ∃ a31 : Addr, p2p = some a31 ∧ 0 ≤ (0 : Int) ∧ (0 : Int) < ((p2l : Nat) : Int) ∧ ∃ v32 : Int, cell H_16 (Addr.add a31 (Int.toNat (0 : Int) * 1)) = some (Value.int .i64 v32) ∧ (IntKind.wrap .i64 (v30 - v32)) ≠ 0 ∧ ∃ a33 : Addr, (some ⟨b10, 0, none⟩) = some a33 ∧ 0 ≤ v15 ∧ v15 < (((Int.toNat (256 : Int)) : Nat) : Int) ∧ stAt H_16 (Addr.add a33 (Int.toNat v15 * 1)) [Value.int .i64 (IntKind.wrap .i64 (Int.tdiv (IntKind.wrap .i64 ((IntKind.wrap .i64 ((255 : Int) * (IntKind.wrap .i64 (v15 - v24)))) + (IntKind.wrap .i64 (Int.tdiv (IntKind.wrap .i64 (v26 - v28)) (2 : Int))))) (IntKind.wrap .i64 (v30 - v32))))] fun H_34 => X_14 [Value.int .i64 (IntKind.wrap .i64 (v15 + (1 : Int)))] H_34)
 (X_14 [Value.int .i64 (IntKind.wrap .i64 (v15 + (1 : Int)))] H_16)))
 (R (Value.tuple #[Value.slice (some ⟨b10, 0, none⟩) (Int.toNat (256 : Int)) (Int.toNat (256 : Int)), Value.bool true]) H_16)) → X_14 [Value.int .i64 v15] H_16) → X_14 [Value.int .i64 (0 : Int)] H_13) → J_12 [] H_13) →
 br ((((p2l : Nat) : Int) : Int) != (2 : Int)) (R (Value.tuple #[Value.slice none 0 0, Value.bool false]) H_11) (∃ a35 : Addr, p2p = some a35 ∧ 0 ≤ (0 : Int) ∧ (0 : Int) < ((p2l : Nat) : Int) ∧ ∃ v36 : Int, cell H_11 (Addr.add a35 (Int.toNat (0 : Int) * 1)) = some (Value.int .i64 v36) ∧ ∃ a37 : Addr, p2p = some a37 ∧ 0 ≤ (1 : Int) ∧ (1 : Int) < ((p2l : Nat) : Int) ∧ ∃ v38 : Int, cell H_11 (Addr.add a37 (Int.toNat (1 : Int) * 1)) = some (Value.int .i64 v38) ∧ br (decide ((v36 : Int) ≥ v38))
 (R (Value.tuple #[Value.slice none 0 0, Value.bool false]) H_11)
 (J_12 [] H_11)))
 (br ((kind1 : Int) == (1 : Int))
 (∀ J_39 : List Value → Heap → Prop, (∀ H_40 : Heap, (∀ X_41 : List Value → Heap → Prop, (∀ i42 : Int, ∀ H_43 : Heap, (br (decide ((i42 : Int) < ((p2l : Nat) : Int)))
 (∃ a44 : Addr, p2p = some a44 ∧ 0 ≤ i42 ∧ i42 < ((p2l : Nat) : Int) ∧ ∃ v45 : Int, cell H_43 (Addr.add a44 (Int.toNat i42 * 1)) = some (Value.int .i64 v45) ∧ ∃ a46 : Addr, p2p = some a46 ∧ 0 ≤ (IntKind.wrap .i64 (i42 - (2 : Int))) ∧ (IntKind.wrap .i64 (i42 - (2 : Int))) < ((p2l : Nat) : Int) ∧ ∃ v47 : Int, cell H_43 (Addr.add a46 (Int.toNat (IntKind.wrap .i64 (i42 - (2 : Int))) * 1)) = some (Value.int .i64 v47) ∧ br (decide ((v45 : Int) ≤ v47))
 (R (Value.tuple #[Value.slice none 0 0, Value.bool false]) H_43)
 (X_41 [Value.int .i64 (IntKind.wrap .i64 (i42 + (2 : Int)))] H_43))
 (∀ X_48 : List Value → Heap → Prop, (∀ v49 : Int, ∀ H_50 : Heap, (br (decide ((v49 : Int) < (256 : Int)))
 (CallsH Try.prog 95 #[Value.slice p2p p2l p2c, Value.int .i64 v49] H_50 fun r51 H_52 => ∃ r53 : Int, r51 = Value.int .i64 r53 ∧ ∃ a54 : Addr, (some ⟨b10, 0, none⟩) = some a54 ∧ 0 ≤ v49 ∧ v49 < (((Int.toNat (256 : Int)) : Nat) : Int) ∧ stAt H_52 (Addr.add a54 (Int.toNat v49 * 1)) [Value.int .i64 r53] fun H_55 => X_48 [Value.int .i64 (IntKind.wrap .i64 (v49 + (1 : Int)))] H_55)
 (R (Value.tuple #[Value.slice (some ⟨b10, 0, none⟩) (Int.toNat (256 : Int)) (Int.toNat (256 : Int)), Value.bool true]) H_50)) → X_48 [Value.int .i64 v49] H_50) → X_48 [Value.int .i64 (0 : Int)] H_43)) → X_41 [Value.int .i64 i42] H_43) → X_41 [Value.int .i64 (2 : Int)] H_40) → J_39 [] H_40) →
 br (decide ((((p2l : Nat) : Int) : Int) < (2 : Int))) (R (Value.tuple #[Value.slice none 0 0, Value.bool false]) H_11) (br (decide ((((p2l : Nat) : Int) : Int) > (32 : Int))) (R (Value.tuple #[Value.slice none 0 0, Value.bool false]) H_11) ((2 : Int) ≠ 0 ∧ br (((Int.tmod ((p2l : Nat) : Int) (2 : Int)) : Int) == (1 : Int))
 (R (Value.tuple #[Value.slice none 0 0, Value.bool false]) H_11)
 (J_39 [] H_11))))
 (br ((kind1 : Int) == (2 : Int))
 (∀ X_56 : List Value → Heap → Prop, (∀ v57 : Int, ∀ H_58 : Heap, (br (decide ((v57 : Int) < (256 : Int)))
 (∃ a59 : Addr, (some ⟨b10, 0, none⟩) = some a59 ∧ 0 ≤ v57 ∧ v57 < (((Int.toNat (256 : Int)) : Nat) : Int) ∧ stAt H_58 (Addr.add a59 (Int.toNat v57 * 1)) [Value.int .i64 (IntKind.wrap .i64 ((255 : Int) - v57))] fun H_60 => X_56 [Value.int .i64 (IntKind.wrap .i64 (v57 + (1 : Int)))] H_60)
 (R (Value.tuple #[Value.slice (some ⟨b10, 0, none⟩) (Int.toNat (256 : Int)) (Int.toNat (256 : Int)), Value.bool ((((p2l : Nat) : Int) : Int) == (0 : Int))]) H_58)) → X_56 [Value.int .i64 v57] H_58) → X_56 [Value.int .i64 (0 : Int)] H_11)
 (br ((kind1 : Int) == (3 : Int))
 (br ((((p2l : Nat) : Int) : Int) != (1 : Int))
 (R (Value.tuple #[Value.slice none 0 0, Value.bool false]) H_11)
 (∃ a61 : Addr, p2p = some a61 ∧ 0 ≤ (0 : Int) ∧ (0 : Int) < ((p2l : Nat) : Int) ∧ ∃ v62 : Int, cell H_11 (Addr.add a61 (Int.toNat (0 : Int) * 1)) = some (Value.int .i64 v62) ∧ ∀ X_63 : List Value → Heap → Prop, (∀ v64 : Int, ∀ H_65 : Heap, (br (decide ((v64 : Int) < (256 : Int)))
 (∃ a66 : Addr, (some ⟨b10, 0, none⟩) = some a66 ∧ 0 ≤ v64 ∧ v64 < (((Int.toNat (256 : Int)) : Nat) : Int) ∧ stAt H_65 (Addr.add a66 (Int.toNat v64 * 1)) [Value.int .i64 (255 : Int)] fun H_67 => X_63 [Value.int .i64 (IntKind.wrap .i64 (v64 + (1 : Int)))] H_67)
 (R (Value.tuple #[Value.slice (some ⟨b10, 0, none⟩) (Int.toNat (256 : Int)) (Int.toNat (256 : Int)), Value.bool true]) H_65)) → X_63 [Value.int .i64 v64] H_65) → X_63 [Value.int .i64 v62] H_11))
 (R (Value.tuple #[Value.slice none 0 0, Value.bool false]) H_11)))))) → X_3 [Value.int .i64 i4] H_5) → X_3 [Value.int .i64 (0 : Int)] H
def Try.p70 : Plan := (Plan.two Plan.leaf (Plan.two Plan.leaf (Plan.two (Plan.two Plan.leaf (Plan.one (Plan.loop [(7, 3)] [0, 1, 6] (Plan.two (Plan.two Plan.leaf (Plan.two Plan.leaf Plan.leaf)) (Plan.two (Plan.one (Plan.two Plan.leaf (Plan.two (Plan.two Plan.leaf Plan.leaf) Plan.leaf))) Plan.leaf))))) (Plan.two Plan.leaf (Plan.two (Plan.two Plan.leaf (Plan.one (Plan.two Plan.leaf (Plan.two (Plan.two (Plan.join [] [1, 8] (Plan.two Plan.leaf (Plan.two (Plan.two Plan.leaf Plan.leaf) Plan.leaf))) (Plan.two (Plan.two Plan.leaf (Plan.one (Plan.loop [(9, 3)] [1, 8] (Plan.two (Plan.two Plan.leaf (Plan.two Plan.leaf Plan.leaf)) (Plan.two (Plan.one (Plan.two Plan.leaf (Plan.two Plan.leaf (Plan.two Plan.leaf (Plan.two Plan.leaf Plan.leaf))))) Plan.leaf))))) (Plan.two Plan.leaf Plan.leaf))) (Plan.two Plan.leaf (Plan.two (Plan.two (Plan.join [] [1, 6, 8] (Plan.two Plan.leaf (Plan.two (Plan.two Plan.leaf Plan.leaf) Plan.leaf))) (Plan.two (Plan.two Plan.leaf (Plan.one (Plan.loop [(10, 3)] [1, 6, 8] (Plan.two (Plan.two Plan.leaf (Plan.two Plan.leaf Plan.leaf)) (Plan.two (Plan.one (Plan.two Plan.leaf (Plan.two (Plan.two Plan.leaf Plan.leaf) Plan.leaf))) Plan.leaf))))) (Plan.two (Plan.two Plan.leaf (Plan.one (Plan.loop [(11, 3)] [1, 8] (Plan.two (Plan.two Plan.leaf (Plan.two Plan.leaf Plan.leaf)) (Plan.two (Plan.one Plan.leaf) Plan.leaf))))) (Plan.two Plan.leaf Plan.leaf)))) (Plan.two Plan.leaf (Plan.two (Plan.two (Plan.two Plan.leaf (Plan.one (Plan.loop [(12, 3)] [6, 8] (Plan.two (Plan.two Plan.leaf (Plan.two Plan.leaf Plan.leaf)) (Plan.two (Plan.one Plan.leaf) Plan.leaf))))) (Plan.two Plan.leaf Plan.leaf)) (Plan.two Plan.leaf (Plan.two (Plan.two (Plan.two Plan.leaf (Plan.two (Plan.two Plan.leaf Plan.leaf) Plan.leaf)) (Plan.two (Plan.two Plan.leaf (Plan.one (Plan.loop [(13, 3)] [8] (Plan.two (Plan.two Plan.leaf (Plan.two Plan.leaf Plan.leaf)) (Plan.two (Plan.one Plan.leaf) Plan.leaf))))) (Plan.two Plan.leaf Plan.leaf))) Plan.leaf)))))))))) (Plan.two Plan.leaf Plan.leaf))))))
theorem Try.s70 {kind1 : Int} {p2p : Option Addr} {p2l : Nat} {p2c : Nat} {H : Heap} {R : Value → Heap → Prop} (h : Try.S70 kind1 p2p p2l p2c H R) : CallsH Try.prog 70 #[Value.int .i64 kind1, Value.slice p2p p2l p2c] H R :=
  vcFun_sound Try.tab_ok Try.mixed Try.func70 Try.cal70 (p := Try.p70) (args := [Value.int .i64 kind1, Value.slice p2p p2l p2c]) (Eq.mp (by kernel_rfl : Try.S70 kind1 p2p p2l p2c H R = vcFun Try.prog Try.tab Try.f70 Try.p70 [Value.int .i64 kind1, Value.slice p2p p2l p2c] H R) h)

/-- scumble/affine.One -/
def Try.S71  (H : Heap) (R : Value → Heap → Prop) : Prop :=
 alc H (.cells #[Value.int .i64 0, Value.int .i64 0, Value.int .i64 0, Value.int .i64 0, Value.int .i64 0, Value.int .i64 0] 41) fun b1 H_2 => #[Value.int .i64 (65536 : Int), Value.int .i64 (0 : Int), Value.int .i64 (0 : Int), Value.int .i64 (65536 : Int), Value.int .i64 (0 : Int), Value.int .i64 (0 : Int)].size = 6 ∧ stAt H_2 ⟨b1, 0, none⟩ (Array.toList #[Value.int .i64 (65536 : Int), Value.int .i64 (0 : Int), Value.int .i64 (0 : Int), Value.int .i64 (65536 : Int), Value.int .i64 (0 : Int), Value.int .i64 (0 : Int)]) fun H_3 => ∃ res4 : Array Value, res4.size = 6 ∧ rowIn H_3 ⟨b1, 0, none⟩ res4 ∧ R (Value.agg res4) H_3
def Try.p71 : Plan := (Plan.two Plan.leaf (Plan.two Plan.leaf Plan.leaf))
theorem Try.s71 {_u : Unit} {H : Heap} {R : Value → Heap → Prop} (h : Try.S71  H R) : CallsH Try.prog 71 #[] H R :=
  vcFun_sound Try.tab_ok Try.mixed Try.func71 Try.cal71 (p := Try.p71) (args := []) (Eq.mp (by kernel_rfl : Try.S71  H R = vcFun Try.prog Try.tab Try.f71 Try.p71 [] H R) h)

/-- (scumble/tree.work).home -/
def Try.S72 (w1 : Array Value) (H : Heap) (R : Value → Heap → Prop) : Prop :=
 alc H (.cells w1 86) fun b2 H_3 => ∃ To4 : Int, cell H_3 (Addr.add (Addr.add ⟨b2, 0, none⟩ 2) 2) = some (Value.int .i64 To4) ∧ br ((To4 : Int) == (0 : Int))
 (∃ root5 : Option Addr, cell H_3 (Addr.add ⟨b2, 0, none⟩ 0) = some (Value.pointer root5) ∧ R (Value.tuple #[Value.pointer root5, Value.int .i64 (0 : Int)]) H_3)
 (∃ root6 : Option Addr, cell H_3 (Addr.add ⟨b2, 0, none⟩ 0) = some (Value.pointer root6) ∧ ∃ To7 : Int, cell H_3 (Addr.add (Addr.add ⟨b2, 0, none⟩ 2) 2) = some (Value.int .i64 To7) ∧ CallsH Try.prog 51 #[Value.pointer root6, Value.int .i64 To7] H_3 fun r8 H_9 => ∃ r10 : Option Addr, ∃ r11 : Option Addr, ∃ r12 : Int, r8 = Value.tuple #[Value.pointer r10, Value.pointer r11, Value.int .i64 r12] ∧ br (Option.isNone r10)
 (R (Value.tuple #[Value.pointer none, Value.int .i64 (40 : Int)]) H_9)
 (∃ a13 : Addr, r10 = some a13 ∧ ∃ Kind14 : Int, cell H_9 (Addr.add a13 1) = some (Value.int .i64 Kind14) ∧ br ((Kind14 : Int) != (1 : Int))
 (R (Value.tuple #[Value.pointer none, Value.int .i64 (41 : Int)]) H_9)
 (R (Value.tuple #[Value.pointer r10, Value.int .i64 (0 : Int)]) H_9)))
def Try.p72 : Plan := (Plan.two Plan.leaf (Plan.two (Plan.two Plan.leaf (Plan.two (Plan.two Plan.leaf Plan.leaf) Plan.leaf)) (Plan.two Plan.leaf (Plan.two (Plan.one (Plan.two Plan.leaf (Plan.two (Plan.two Plan.leaf Plan.leaf) (Plan.two Plan.leaf (Plan.two (Plan.two Plan.leaf Plan.leaf) Plan.leaf))))) (Plan.two Plan.leaf Plan.leaf)))))
theorem Try.s72 {w1 : Array Value} {H : Heap} {R : Value → Heap → Prop} (h : Try.S72 w1 H R) : CallsH Try.prog 72 #[Value.agg w1] H R :=
  vcFun_sound Try.tab_ok Try.mixed Try.func72 Try.cal72 (p := Try.p72) (args := [Value.agg w1]) (Eq.mp (by kernel_rfl : Try.S72 w1 H R = vcFun Try.prog Try.tab Try.f72 Try.p72 [Value.agg w1] H R) h)

/-- (scumble/tree.work).put -/
def Try.S73 (w1 : Array Value) (to2 : Option Addr) (l3 : Array Value) (H : Heap) (R : Value → Heap → Prop) : Prop :=
 alc H (.cells w1 86) fun b4 H_5 => alc H_5 (.cells l3 58) fun b6 H_7 => ∃ At8 : Int, cell H_7 (Addr.add (Addr.add ⟨b4, 0, none⟩ 2) 3) = some (Value.int .i64 At8) ∧ ∀ J_9 : List Value → Heap → Prop, (∀ at_10 : Int, ∀ H_11 : Heap, (∀ J_12 : List Value → Heap → Prop, (∀ H_13 : Heap, (∃ a14 : Addr, to2 = some a14 ∧ ∃ Kids15p : Option Addr, ∃ Kids15l : Nat, ∃ Kids15c : Nat, cell H_13 (Addr.add a14 18) = some (Value.slice Kids15p Kids15l Kids15c) ∧ ∃ v16 : Array Value, v16.size = 19 ∧ rowIn H_13 ⟨b6, 0, none⟩ v16 ∧ v16.size = 19 ∧ 0 + 19 ≤ 19 ∧ alc H_13 (.cells (List.toArray (setL [Value.int .i64 0, Value.int .i64 0, Value.bool false, Value.int .i64 0, Value.int .i64 0, Value.int .i64 0, Value.int .i64 0, Value.slice none 0 0, Value.slice none 0 0, Value.int .i64 0, Value.int .i64 0, Value.int .i64 0, Value.int .i64 0, Value.int .i64 0, Value.int .i64 0, Value.bool false, Value.int .i64 0, Value.slice none 0 0, Value.slice none 0 0] 0 (Array.toList v16))) 58) fun b17 H_18 => (Ext H_13 H_18 ∨ (∃ Kids30p : Option Addr, ∃ Kids30l : Nat, ∃ Kids30c : Nat, cell H_18 (Addr.add a14 18) = some (Value.slice Kids30p Kids30l Kids30c) ∧ Value.slice Kids30p Kids30l Kids30c = Value.slice Kids15p Kids15l Kids15c)) ∧ CallsH Try.prog 96 #[Value.slice Kids15p Kids15l Kids15c, Value.int .i64 at_10, Value.slice (some ⟨b17, 0, none⟩) 1 1] H_18 fun r19 H_20 => ∃ r21p : Option Addr, ∃ r21l : Nat, ∃ r21c : Nat, r19 = Value.slice r21p r21l r21c ∧ ∃ a22 : Addr, to2 = some a22 ∧ stAt H_20 (Addr.add a22 18) [Value.slice r21p r21l r21c] fun H_23 => ∃ root24 : Option Addr, cell H_23 (Addr.add ⟨b4, 0, none⟩ 0) = some (Value.pointer root24) ∧ ∃ a25 : Addr, root24 = some a25 ∧ ∃ Kids26p : Option Addr, ∃ Kids26l : Nat, ∃ Kids26c : Nat, cell H_23 (Addr.add a25 18) = some (Value.slice Kids26p Kids26l Kids26c) ∧ CallsH Try.prog 54 #[Value.slice Kids26p Kids26l Kids26c] H_23 fun r27 H_28 => ∃ r29 : Int, r27 = Value.int .i64 r29 ∧ br (decide ((r29 : Int) > (64 : Int)))
 (R (Value.int .i64 (31 : Int)) H_28)
 (R (Value.int .i64 (0 : Int)) H_28)) → J_12 [] H_13) →
 br (decide ((at_10 : Int) < (0 : Int))) (R (Value.int .i64 (43 : Int)) H_11) (∃ a31 : Addr, to2 = some a31 ∧ ∃ Kids32p : Option Addr, ∃ Kids32l : Nat, ∃ Kids32c : Nat, cell H_11 (Addr.add a31 18) = some (Value.slice Kids32p Kids32l Kids32c) ∧ br (decide ((at_10 : Int) > ((Kids32l : Nat) : Int)))
 (R (Value.int .i64 (43 : Int)) H_11)
 (J_12 [] H_11))) → J_9 [Value.int .i64 at_10] H_11) →
 br ((At8 : Int) == (-1 : Int))
 (∃ a33 : Addr, to2 = some a33 ∧ ∃ Kids34p : Option Addr, ∃ Kids34l : Nat, ∃ Kids34c : Nat, cell H_7 (Addr.add a33 18) = some (Value.slice Kids34p Kids34l Kids34c) ∧ J_9 [Value.int .i64 ((Kids34l : Nat) : Int)] H_7)
 (J_9 [Value.int .i64 At8] H_7)
def Try.p73 : Plan := (Plan.two Plan.leaf (Plan.two Plan.leaf (Plan.two (Plan.join [(7, 3)] [1, 3, 5] (Plan.two Plan.leaf (Plan.two Plan.leaf Plan.leaf))) (Plan.two (Plan.join [] [1, 3, 5, 7] (Plan.two Plan.leaf (Plan.two (Plan.two Plan.leaf Plan.leaf) Plan.leaf))) (Plan.two Plan.leaf (Plan.two (Plan.two Plan.leaf (Plan.two (Plan.two Plan.leaf Plan.leaf) Plan.leaf)) (Plan.two Plan.leaf Plan.leaf)))))))
theorem Try.s73 {w1 : Array Value} {to2 : Option Addr} {l3 : Array Value} {H : Heap} {R : Value → Heap → Prop} (h : Try.S73 w1 to2 l3 H R) : CallsH Try.prog 73 #[Value.agg w1, Value.pointer to2, Value.agg l3] H R :=
  vcFun_sound Try.tab_ok Try.mixed Try.func73 Try.cal73 (p := Try.p73) (args := [Value.agg w1, Value.pointer to2, Value.agg l3]) (Eq.mp (by kernel_rfl : Try.S73 w1 to2 l3 H R = vcFun Try.prog Try.tab Try.f73 Try.p73 [Value.agg w1, Value.pointer to2, Value.agg l3] H R) h)

/-- slices.Delete[[]scumble/tree.Layer,scumble/tree.Layer] -/
def Try.S74 (s1p : Option Addr) (s1l : Nat) (s1c : Nat) (i2 : Int) (j3 : Int) (H : Heap) (R : Value → Heap → Prop) : Prop :=
 0 ≤ ((s1l : Nat) : Int) ∧ ((s1l : Nat) : Int) ≤ ((s1c : Nat) : Int) ∧ 0 ≤ j3 ∧ j3 ≤ ((s1l : Nat) : Int) ∧ 0 ≤ i2 ∧ i2 ≤ j3 ∧ br ((i2 : Int) == j3)
 (R (Value.slice s1p s1l s1c) H)
 (0 ≤ i2 ∧ i2 ≤ ((s1c : Nat) : Int) ∧ 0 ≤ j3 ∧ j3 ≤ ((s1l : Nat) : Int) ∧ appQ 19 216 #[Value.int .i64 0, Value.int .i64 0, Value.bool false, Value.int .i64 0, Value.int .i64 0, Value.int .i64 0, Value.int .i64 0, Value.slice none 0 0, Value.slice none 0 0, Value.int .i64 0, Value.int .i64 0, Value.int .i64 0, Value.int .i64 0, Value.int .i64 0, Value.int .i64 0, Value.bool false, Value.int .i64 0, Value.slice none 0 0, Value.slice none 0 0] H (if s1c = 0 then s1p else Option.map (fun x => Addr.add x (0 * 19)) s1p) ((Int.toNat i2) - 0) (s1c - 0) (if s1c = (Int.toNat j3) then s1p else Option.map (fun x => Addr.add x ((Int.toNat j3) * 19)) s1p) (s1l - (Int.toNat j3)) 58 fun s4p s4l s4c H_5 => 0 ≤ ((s1l : Nat) : Int) ∧ ((s1l : Nat) : Int) ≤ ((s4c : Nat) : Int) ∧ 0 ≤ ((s4l : Nat) : Int) ∧ ((s4l : Nat) : Int) ≤ ((s1l : Nat) : Int) ∧ clrQ H_5 (if s4c = (Int.toNat ((s4l : Nat) : Int)) then s4p else Option.map (fun x => Addr.add x ((Int.toNat ((s4l : Nat) : Int)) * 19)) s4p) ((Int.toNat ((s1l : Nat) : Int)) - (Int.toNat ((s4l : Nat) : Int))) #[Value.int .i64 0, Value.int .i64 0, Value.bool false, Value.int .i64 0, Value.int .i64 0, Value.int .i64 0, Value.int .i64 0, Value.slice none 0 0, Value.slice none 0 0, Value.int .i64 0, Value.int .i64 0, Value.int .i64 0, Value.int .i64 0, Value.int .i64 0, Value.int .i64 0, Value.bool false, Value.int .i64 0, Value.slice none 0 0, Value.slice none 0 0] fun H_6 => R (Value.slice s4p s4l s4c) H_6)
def Try.p74 : Plan := (Plan.two Plan.leaf (Plan.two Plan.leaf (Plan.two (Plan.two Plan.leaf (Plan.two (Plan.two Plan.leaf Plan.leaf) Plan.leaf)) (Plan.two Plan.leaf (Plan.two Plan.leaf (Plan.two Plan.leaf (Plan.two Plan.leaf Plan.leaf)))))))
theorem Try.s74 {s1p : Option Addr} {s1l : Nat} {s1c : Nat} {i2 : Int} {j3 : Int} {H : Heap} {R : Value → Heap → Prop} (h : Try.S74 s1p s1l s1c i2 j3 H R) : CallsH Try.prog 74 #[Value.slice s1p s1l s1c, Value.int .i64 i2, Value.int .i64 j3] H R :=
  vcFun_sound Try.tab_ok Try.mixed Try.func74 Try.cal74 (p := Try.p74) (args := [Value.slice s1p s1l s1c, Value.int .i64 i2, Value.int .i64 j3]) (Eq.mp (by kernel_rfl : Try.S74 s1p s1l s1c i2 j3 H R = vcFun Try.prog Try.tab Try.f74 Try.p74 [Value.slice s1p s1l s1c, Value.int .i64 i2, Value.int .i64 j3] H R) h)

/-- (scumble/tree.work).target -/
def Try.S75 (w1 : Array Value) (H : Heap) (R : Value → Heap → Prop) : Prop :=
 alc H (.cells w1 86) fun b2 H_3 => ∃ root4 : Option Addr, cell H_3 (Addr.add ⟨b2, 0, none⟩ 0) = some (Value.pointer root4) ∧ ∃ ID5 : Int, cell H_3 (Addr.add (Addr.add ⟨b2, 0, none⟩ 2) 1) = some (Value.int .i64 ID5) ∧ CallsH Try.prog 51 #[Value.pointer root4, Value.int .i64 ID5] H_3 fun r6 H_7 => ∃ r8 : Option Addr, ∃ r9 : Option Addr, ∃ r10 : Int, r6 = Value.tuple #[Value.pointer r8, Value.pointer r9, Value.int .i64 r10] ∧ br (Option.isNone r8)
 (R (Value.tuple #[Value.pointer none, Value.int .i64 (40 : Int)]) H_7)
 (R (Value.tuple #[Value.pointer r8, Value.int .i64 (0 : Int)]) H_7)
def Try.p75 : Plan := (Plan.two Plan.leaf (Plan.two Plan.leaf (Plan.two (Plan.two Plan.leaf (Plan.two (Plan.two Plan.leaf Plan.leaf) Plan.leaf)) (Plan.two Plan.leaf Plan.leaf))))
theorem Try.s75 {w1 : Array Value} {H : Heap} {R : Value → Heap → Prop} (h : Try.S75 w1 H R) : CallsH Try.prog 75 #[Value.agg w1] H R :=
  vcFun_sound Try.tab_ok Try.mixed Try.func75 Try.cal75 (p := Try.p75) (args := [Value.agg w1]) (Eq.mp (by kernel_rfl : Try.S75 w1 H R = vcFun Try.prog Try.tab Try.f75 Try.p75 [Value.agg w1] H R) h)

/-- slices.ContainsFunc[[]int,int] -/
def Try.S76 (s1p : Option Addr) (s1l : Nat) (s1c : Nat) (f2g : Nat) (f2x : Array Value) (f2y : Array Value) (H : Heap) (R : Value → Heap → Prop) : Prop :=
 CallsH Try.prog 97 #[Value.slice s1p s1l s1c, Value.func (.func f2g) f2x f2y] H fun r3 H_4 => ∃ r5 : Int, r3 = Value.int .i64 r5 ∧ R (Value.bool (decide ((r5 : Int) ≥ (0 : Int)))) H_4
def Try.p76 : Plan := (Plan.two Plan.leaf (Plan.two Plan.leaf Plan.leaf))
theorem Try.s76 {s1p : Option Addr} {s1l : Nat} {s1c : Nat} {f2g : Nat} {f2x : Array Value} {f2y : Array Value} {H : Heap} {R : Value → Heap → Prop} (h : Try.S76 s1p s1l s1c f2g f2x f2y H R) : CallsH Try.prog 76 #[Value.slice s1p s1l s1c, Value.func (.func f2g) f2x f2y] H R :=
  vcFun_sound Try.tab_ok Try.mixed Try.func76 Try.cal76 (p := Try.p76) (args := [Value.slice s1p s1l s1c, Value.func (.func f2g) f2x f2y]) (Eq.mp (by kernel_rfl : Try.S76 s1p s1l s1c f2g f2x f2y H R = vcFun Try.prog Try.tab Try.f76 Try.p76 [Value.slice s1p s1l s1c, Value.func (.func f2g) f2x f2y] H R) h)

/-- (scumble/tree.work).paint$1 -/
def Try.S77 (v1 : Int) (H : Heap) (R : Value → Heap → Prop) : Prop :=
 CallsH Try.prog 78 #[Value.int .i64 v1] H fun r2 H_3 => ∃ r4 : Bool, r2 = Value.bool r4 ∧ R (Value.bool (!r4)) H_3
def Try.p77 : Plan := (Plan.two Plan.leaf (Plan.two Plan.leaf Plan.leaf))
theorem Try.s77 {v1 : Int} {H : Heap} {R : Value → Heap → Prop} (h : Try.S77 v1 H R) : CallsH Try.prog 77 #[Value.int .i64 v1] H R :=
  vcFun_sound Try.tab_ok Try.mixed Try.func77 Try.cal77 (p := Try.p77) (args := [Value.int .i64 v1]) (Eq.mp (by kernel_rfl : Try.S77 v1 H R = vcFun Try.prog Try.tab Try.f77 Try.p77 [Value.int .i64 v1] H R) h)

/-- scumble/tree.pixel -/
def Try.S78 (v1 : Int) (H : Heap) (R : Value → Heap → Prop) : Prop :=
 CallsH Try.prog 98 #[Value.int .i64 v1] H fun r2 H_3 => ∃ r4 : Array Value, r2 = Value.agg r4 ∧ alc H_3 (.cells #[Value.int .i64 0, Value.int .i64 0, Value.int .i64 0, Value.int .i64 0] 131) fun b5 H_6 => r4.size = 4 ∧ stAt H_6 ⟨b5, 0, none⟩ (Array.toList r4) fun H_7 => br (decide ((v1 : Int) ≥ (0 : Int))) (br (decide ((v1 : Int) < (4294967296 : Int))) (0 ≤ (0 : Int) ∧ (0 : Int) < ((4 : Nat) : Int) ∧ ∃ v8 : Int, cell H_7 (Addr.add ⟨b5, 0, none⟩ (Int.toNat (0 : Int) * 1)) = some (Value.int .i64 v8) ∧ 0 ≤ (1 : Int) ∧ (1 : Int) < ((4 : Nat) : Int) ∧ ∃ v9 : Int, cell H_7 (Addr.add ⟨b5, 0, none⟩ (Int.toNat (1 : Int) * 1)) = some (Value.int .i64 v9) ∧ 0 ≤ (2 : Int) ∧ (2 : Int) < ((4 : Nat) : Int) ∧ ∃ v10 : Int, cell H_7 (Addr.add ⟨b5, 0, none⟩ (Int.toNat (2 : Int) * 1)) = some (Value.int .i64 v10) ∧ 0 ≤ (3 : Int) ∧ (3 : Int) < ((4 : Nat) : Int) ∧ ∃ v11 : Int, cell H_7 (Addr.add ⟨b5, 0, none⟩ (Int.toNat (3 : Int) * 1)) = some (Value.int .i64 v11) ∧ R (Value.bool (decide (((max (max v8 v9) v10) : Int) ≤ v11))) H_7) (R (Value.bool false) H_7)) (R (Value.bool false) H_7)
def Try.p78 : Plan := (Plan.two Plan.leaf (Plan.two Plan.leaf (Plan.two Plan.leaf Plan.leaf)))
theorem Try.s78 {v1 : Int} {H : Heap} {R : Value → Heap → Prop} (h : Try.S78 v1 H R) : CallsH Try.prog 78 #[Value.int .i64 v1] H R :=
  vcFun_sound Try.tab_ok Try.mixed Try.func78 Try.cal78 (p := Try.p78) (args := [Value.int .i64 v1]) (Eq.mp (by kernel_rfl : Try.S78 v1 H R = vcFun Try.prog Try.tab Try.f78 Try.p78 [Value.int .i64 v1] H R) h)

/-- scumble/lasso.Mask -/
def Try.S79 (shape1p : Option Addr) (shape1l : Nat) (shape1c : Nat) (w2 : Int) (h3 : Int) (H : Heap) (R : Value → Heap → Prop) : Prop :=
 CallsH Try.prog 99 #[Value.slice shape1p shape1l shape1c, Value.slice none 0 0] H fun r4 H_5 => ∃ e6 : Int, r4 = Value.int .i64 e6 ∧ br ((e6 : Int) != (0 : Int))
 (R (Value.tuple #[Value.slice none 0 0, Value.int .i64 e6]) H_5)
 (∀ J_7 : List Value → Heap → Prop, (∀ H_8 : Heap, (0 ≤ (IntKind.wrap .i64 (w2 * h3)) ∧ (IntKind.wrap .i64 (w2 * h3)) ≤ (IntKind.wrap .i64 (w2 * h3)) ∧ ((1 : Nat) : Int) * (IntKind.wrap .i64 (w2 * h3)) ≤ 281474976710656 ∧ (IntKind.wrap .i64 (w2 * h3)) ≤ 281474976710656 ∧ alc H_8 (.cells (List.toArray (reps (Int.toNat (IntKind.wrap .i64 (w2 * h3))) (Array.toList #[Value.int .u8 0]))) 5) fun b9 H_10 => ∀ X_11 : List Value → Heap → Prop, (∀ i12 : Int, ∀ H_13 : Heap, (br (decide ((i12 : Int) < (((Int.toNat (IntKind.wrap .i64 (w2 * h3))) : Nat) : Int)))
 (w2 ≠ 0 ∧ w2 ≠ 0 ∧ CallsH Try.prog 100 #[Value.slice shape1p shape1l shape1c, Value.int .i64 (Int.tmod i12 w2), Value.int .i64 (IntKind.wrap .i64 (Int.tdiv i12 w2))] H_13 fun r14 H_15 => ∃ r16 : Bool, r14 = Value.bool r16 ∧ br r16
 (∃ a17 : Addr, (some ⟨b9, 0, none⟩) = some a17 ∧ 0 ≤ i12 ∧ i12 < (((Int.toNat (IntKind.wrap .i64 (w2 * h3))) : Nat) : Int) ∧ stAt H_15 (Addr.add a17 (Int.toNat i12 * 1)) [Value.int .u8 (255 : Int)] fun H_18 => X_11 [Value.int .i64 (IntKind.wrap .i64 (i12 + (1 : Int)))] H_18)
 (X_11 [Value.int .i64 (IntKind.wrap .i64 (i12 + (1 : Int)))] H_15))
 (R (Value.tuple #[Value.slice (some ⟨b9, 0, none⟩) (Int.toNat (IntKind.wrap .i64 (w2 * h3))) (Int.toNat (IntKind.wrap .i64 (w2 * h3))), Value.int .i64 (0 : Int)]) H_13)) → X_11 [Value.int .i64 i12] H_13) → X_11 [Value.int .i64 (0 : Int)] H_10) → J_7 [] H_8) →
 br (decide ((w2 : Int) < (0 : Int))) (R (Value.tuple #[Value.slice none 0 0, Value.int .i64 (31 : Int)]) H_5) (br (decide ((h3 : Int) < (0 : Int))) (R (Value.tuple #[Value.slice none 0 0, Value.int .i64 (31 : Int)]) H_5) (br (decide ((w2 : Int) > (32768 : Int))) (R (Value.tuple #[Value.slice none 0 0, Value.int .i64 (31 : Int)]) H_5) (br (decide ((h3 : Int) > (32768 : Int))) (R (Value.tuple #[Value.slice none 0 0, Value.int .i64 (31 : Int)]) H_5) (br (decide (((IntKind.wrap .i64 (w2 * h3)) : Int) > (4194304 : Int)))
 (R (Value.tuple #[Value.slice none 0 0, Value.int .i64 (31 : Int)]) H_5)
 (J_7 [] H_5))))))
def Try.p79 : Plan := (Plan.two Plan.leaf (Plan.two (Plan.two Plan.leaf (Plan.two Plan.leaf (Plan.two (Plan.two Plan.leaf Plan.leaf) Plan.leaf))) (Plan.two (Plan.join [] [0, 1, 2] (Plan.two Plan.leaf (Plan.two (Plan.two Plan.leaf Plan.leaf) Plan.leaf))) (Plan.two Plan.leaf (Plan.two (Plan.two Plan.leaf (Plan.one (Plan.loop [(42, 3)] [0, 1, 9, 41] (Plan.two Plan.leaf (Plan.two (Plan.two Plan.leaf Plan.leaf) (Plan.two (Plan.one (Plan.two Plan.leaf (Plan.two Plan.leaf (Plan.two Plan.leaf Plan.leaf)))) Plan.leaf)))))) (Plan.two Plan.leaf Plan.leaf))))))
theorem Try.s79 {shape1p : Option Addr} {shape1l : Nat} {shape1c : Nat} {w2 : Int} {h3 : Int} {H : Heap} {R : Value → Heap → Prop} (h : Try.S79 shape1p shape1l shape1c w2 h3 H R) : CallsH Try.prog 79 #[Value.slice shape1p shape1l shape1c, Value.int .i64 w2, Value.int .i64 h3] H R :=
  vcFun_sound Try.tab_ok Try.mixed Try.func79 Try.cal79 (p := Try.p79) (args := [Value.slice shape1p shape1l shape1c, Value.int .i64 w2, Value.int .i64 h3]) (Eq.mp (by kernel_rfl : Try.S79 shape1p shape1l shape1c w2 h3 H R = vcFun Try.prog Try.tab Try.f79 Try.p79 [Value.slice shape1p shape1l shape1c, Value.int .i64 w2, Value.int .i64 h3] H R) h)

/-- (scumble/affine.Map).Back -/
def Try.S80 (m1 : Array Value) (H : Heap) (R : Value → Heap → Prop) : Prop :=
 alc H (.cells m1 41) fun b2 H_3 => alc H_3 (.cells #[Value.int .i64 0, Value.int .i64 0, Value.int .i64 0, Value.int .i64 0, Value.int .i64 0, Value.int .i64 0] 41) fun b4 H_5 => ∃ v6 : Array Value, v6.size = 6 ∧ rowIn H_5 ⟨b2, 0, none⟩ v6 ∧ CallsH Try.prog 101 #[Value.agg v6] H_5 fun r7 H_8 => ∃ r9 : Bool, r7 = Value.bool r9 ∧ br (!r9)
 (#[Value.int .i64 0, Value.int .i64 0, Value.int .i64 0, Value.int .i64 0, Value.int .i64 0, Value.int .i64 0].size = 6 ∧ stAt H_8 ⟨b4, 0, none⟩ (Array.toList #[Value.int .i64 0, Value.int .i64 0, Value.int .i64 0, Value.int .i64 0, Value.int .i64 0, Value.int .i64 0]) fun H_10 => ∃ res11 : Array Value, res11.size = 6 ∧ rowIn H_10 ⟨b4, 0, none⟩ res11 ∧ R (Value.tuple #[Value.agg res11, Value.int .i64 (31 : Int)]) H_10)
 (0 ≤ (0 : Int) ∧ (0 : Int) < ((6 : Nat) : Int) ∧ ∃ v12 : Int, cell H_8 (Addr.add ⟨b2, 0, none⟩ (Int.toNat (0 : Int) * 1)) = some (Value.int .i64 v12) ∧ 0 ≤ (3 : Int) ∧ (3 : Int) < ((6 : Nat) : Int) ∧ ∃ v13 : Int, cell H_8 (Addr.add ⟨b2, 0, none⟩ (Int.toNat (3 : Int) * 1)) = some (Value.int .i64 v13) ∧ 0 ≤ (1 : Int) ∧ (1 : Int) < ((6 : Nat) : Int) ∧ ∃ v14 : Int, cell H_8 (Addr.add ⟨b2, 0, none⟩ (Int.toNat (1 : Int) * 1)) = some (Value.int .i64 v14) ∧ 0 ≤ (2 : Int) ∧ (2 : Int) < ((6 : Nat) : Int) ∧ ∃ v15 : Int, cell H_8 (Addr.add ⟨b2, 0, none⟩ (Int.toNat (2 : Int) * 1)) = some (Value.int .i64 v15) ∧ br (((IntKind.wrap .i64 ((IntKind.wrap .i64 (v12 * v13)) - (IntKind.wrap .i64 (v14 * v15)))) : Int) == (0 : Int))
 (#[Value.int .i64 0, Value.int .i64 0, Value.int .i64 0, Value.int .i64 0, Value.int .i64 0, Value.int .i64 0].size = 6 ∧ stAt H_8 ⟨b4, 0, none⟩ (Array.toList #[Value.int .i64 0, Value.int .i64 0, Value.int .i64 0, Value.int .i64 0, Value.int .i64 0, Value.int .i64 0]) fun H_16 => ∃ res17 : Array Value, res17.size = 6 ∧ rowIn H_16 ⟨b4, 0, none⟩ res17 ∧ R (Value.tuple #[Value.agg res17, Value.int .i64 (33 : Int)]) H_16)
 (∀ J_18 : List Value → Heap → Prop, (∀ out19 : Addr, ∀ H_20 : Heap, (∃ v21 : Array Value, v21.size = 6 ∧ rowIn H_20 out19 v21 ∧ CallsH Try.prog 101 #[Value.agg v21] H_20 fun r22 H_23 => ∃ r24 : Bool, r22 = Value.bool r24 ∧ br (!r24)
 (#[Value.int .i64 0, Value.int .i64 0, Value.int .i64 0, Value.int .i64 0, Value.int .i64 0, Value.int .i64 0].size = 6 ∧ stAt H_23 ⟨b4, 0, none⟩ (Array.toList #[Value.int .i64 0, Value.int .i64 0, Value.int .i64 0, Value.int .i64 0, Value.int .i64 0, Value.int .i64 0]) fun H_25 => ∃ res26 : Array Value, res26.size = 6 ∧ rowIn H_25 ⟨b4, 0, none⟩ res26 ∧ R (Value.tuple #[Value.agg res26, Value.int .i64 (33 : Int)]) H_25)
 (0 ≤ (0 : Int) ∧ (0 : Int) < ((6 : Nat) : Int) ∧ ∃ v27 : Int, cell H_23 (Addr.add out19 (Int.toNat (0 : Int) * 1)) = some (Value.int .i64 v27) ∧ 0 ≤ (4 : Int) ∧ (4 : Int) < ((6 : Nat) : Int) ∧ ∃ v28 : Int, cell H_23 (Addr.add ⟨b2, 0, none⟩ (Int.toNat (4 : Int) * 1)) = some (Value.int .i64 v28) ∧ 0 ≤ (1 : Int) ∧ (1 : Int) < ((6 : Nat) : Int) ∧ ∃ v29 : Int, cell H_23 (Addr.add out19 (Int.toNat (1 : Int) * 1)) = some (Value.int .i64 v29) ∧ 0 ≤ (5 : Int) ∧ (5 : Int) < ((6 : Nat) : Int) ∧ ∃ v30 : Int, cell H_23 (Addr.add ⟨b2, 0, none⟩ (Int.toNat (5 : Int) * 1)) = some (Value.int .i64 v30) ∧ CallsH Try.prog 103 #[Value.int .i64 (IntKind.wrap .i64 (0 - (IntKind.wrap .i64 ((IntKind.wrap .i64 (v27 * v28)) + (IntKind.wrap .i64 (v29 * v30))))))] H_23 fun r31 H_32 => ∃ r33 : Int, r31 = Value.int .i64 r33 ∧ 0 ≤ (4 : Int) ∧ (4 : Int) < ((6 : Nat) : Int) ∧ stAt H_32 (Addr.add out19 (Int.toNat (4 : Int) * 1)) [Value.int .i64 r33] fun H_34 => 0 ≤ (2 : Int) ∧ (2 : Int) < ((6 : Nat) : Int) ∧ ∃ v35 : Int, cell H_34 (Addr.add out19 (Int.toNat (2 : Int) * 1)) = some (Value.int .i64 v35) ∧ 0 ≤ (4 : Int) ∧ (4 : Int) < ((6 : Nat) : Int) ∧ ∃ v36 : Int, cell H_34 (Addr.add ⟨b2, 0, none⟩ (Int.toNat (4 : Int) * 1)) = some (Value.int .i64 v36) ∧ 0 ≤ (3 : Int) ∧ (3 : Int) < ((6 : Nat) : Int) ∧ ∃ v37 : Int, cell H_34 (Addr.add out19 (Int.toNat (3 : Int) * 1)) = some (Value.int .i64 v37) ∧ 0 ≤ (5 : Int) ∧ (5 : Int) < ((6 : Nat) : Int) ∧ ∃ v38 : Int, cell H_34 (Addr.add ⟨b2, 0, none⟩ (Int.toNat (5 : Int) * 1)) = some (Value.int .i64 v38) ∧ CallsH Try.prog 103 #[Value.int .i64 (IntKind.wrap .i64 (0 - (IntKind.wrap .i64 ((IntKind.wrap .i64 (v35 * v36)) + (IntKind.wrap .i64 (v37 * v38))))))] H_34 fun r39 H_40 => ∃ r41 : Int, r39 = Value.int .i64 r41 ∧ 0 ≤ (5 : Int) ∧ (5 : Int) < ((6 : Nat) : Int) ∧ stAt H_40 (Addr.add out19 (Int.toNat (5 : Int) * 1)) [Value.int .i64 r41] fun H_42 => ∃ v43 : Array Value, v43.size = 6 ∧ rowIn H_42 out19 v43 ∧ CallsH Try.prog 101 #[Value.agg v43] H_42 fun r44 H_45 => ∃ r46 : Bool, r44 = Value.bool r46 ∧ br (!r46)
 (#[Value.int .i64 0, Value.int .i64 0, Value.int .i64 0, Value.int .i64 0, Value.int .i64 0, Value.int .i64 0].size = 6 ∧ stAt H_45 ⟨b4, 0, none⟩ (Array.toList #[Value.int .i64 0, Value.int .i64 0, Value.int .i64 0, Value.int .i64 0, Value.int .i64 0, Value.int .i64 0]) fun H_47 => ∃ res48 : Array Value, res48.size = 6 ∧ rowIn H_47 ⟨b4, 0, none⟩ res48 ∧ R (Value.tuple #[Value.agg res48, Value.int .i64 (33 : Int)]) H_47)
 (∃ v49 : Array Value, v49.size = 6 ∧ rowIn H_45 out19 v49 ∧ v49.size = 6 ∧ stAt H_45 ⟨b4, 0, none⟩ (Array.toList v49) fun H_50 => ∃ res51 : Array Value, res51.size = 6 ∧ rowIn H_50 ⟨b4, 0, none⟩ res51 ∧ R (Value.tuple #[Value.agg res51, Value.int .i64 (0 : Int)]) H_50))) → J_18 [Value.pointer (some out19)] H_20) →
 0 ≤ (3 : Int) ∧ (3 : Int) < ((6 : Nat) : Int) ∧ ∃ v52 : Int, cell H_8 (Addr.add ⟨b2, 0, none⟩ (Int.toNat (3 : Int) * 1)) = some (Value.int .i64 v52) ∧ 0 ≤ (32 : Int) ∧ 0 ≤ (1 : Int) ∧ (1 : Int) < ((6 : Nat) : Int) ∧ ∃ v53 : Int, cell H_8 (Addr.add ⟨b2, 0, none⟩ (Int.toNat (1 : Int) * 1)) = some (Value.int .i64 v53) ∧ 0 ≤ (32 : Int) ∧ 0 ≤ (2 : Int) ∧ (2 : Int) < ((6 : Nat) : Int) ∧ ∃ v54 : Int, cell H_8 (Addr.add ⟨b2, 0, none⟩ (Int.toNat (2 : Int) * 1)) = some (Value.int .i64 v54) ∧ 0 ≤ (32 : Int) ∧ 0 ≤ (0 : Int) ∧ (0 : Int) < ((6 : Nat) : Int) ∧ ∃ v55 : Int, cell H_8 (Addr.add ⟨b2, 0, none⟩ (Int.toNat (0 : Int) * 1)) = some (Value.int .i64 v55) ∧ 0 ≤ (32 : Int) ∧ (CallsH Try.prog 102 #[Value.int .i64 (shlI .i64 v52 (32 : Int)), Value.int .i64 (IntKind.wrap .i64 ((IntKind.wrap .i64 (v12 * v13)) - (IntKind.wrap .i64 (v14 * v15))))] H_8 fun r56 H_57 => ∃ r58 : Int, r56 = Value.int .i64 r58 ∧ (Ext H_8 H_57 ∨ (∃ v111 : Int, cell H_57 (Addr.add ⟨b2, 0, none⟩ (Int.toNat (0 : Int) * 1)) = some (Value.int .i64 v111) ∧ Value.int .i64 v111 = Value.int .i64 v55) ∧ (∃ v112 : Int, cell H_57 (Addr.add ⟨b2, 0, none⟩ (Int.toNat (2 : Int) * 1)) = some (Value.int .i64 v112) ∧ Value.int .i64 v112 = Value.int .i64 v54) ∧ (∃ v113 : Int, cell H_57 (Addr.add ⟨b2, 0, none⟩ (Int.toNat (1 : Int) * 1)) = some (Value.int .i64 v113) ∧ Value.int .i64 v113 = Value.int .i64 v53)) ∧ (CallsH Try.prog 102 #[Value.int .i64 (shlI .i64 (IntKind.wrap .i64 (0 - v53)) (32 : Int)), Value.int .i64 (IntKind.wrap .i64 ((IntKind.wrap .i64 (v12 * v13)) - (IntKind.wrap .i64 (v14 * v15))))] H_57 fun r59 H_60 => ∃ r61 : Int, r59 = Value.int .i64 r61 ∧ (Ext H_57 H_60 ∨ (∃ v91 : Int, cell H_60 (Addr.add ⟨b2, 0, none⟩ (Int.toNat (0 : Int) * 1)) = some (Value.int .i64 v91) ∧ Value.int .i64 v91 = Value.int .i64 v55) ∧ (∃ v92 : Int, cell H_60 (Addr.add ⟨b2, 0, none⟩ (Int.toNat (2 : Int) * 1)) = some (Value.int .i64 v92) ∧ Value.int .i64 v92 = Value.int .i64 v54)) ∧ (CallsH Try.prog 102 #[Value.int .i64 (shlI .i64 (IntKind.wrap .i64 (0 - v54)) (32 : Int)), Value.int .i64 (IntKind.wrap .i64 ((IntKind.wrap .i64 (v12 * v13)) - (IntKind.wrap .i64 (v14 * v15))))] H_60 fun r62 H_63 => ∃ r64 : Int, r62 = Value.int .i64 r64 ∧ (Ext H_60 H_63 ∨ (∃ v78 : Int, cell H_63 (Addr.add ⟨b2, 0, none⟩ (Int.toNat (0 : Int) * 1)) = some (Value.int .i64 v78) ∧ Value.int .i64 v78 = Value.int .i64 v55)) ∧ (CallsH Try.prog 102 #[Value.int .i64 (shlI .i64 v55 (32 : Int)), Value.int .i64 (IntKind.wrap .i64 ((IntKind.wrap .i64 (v12 * v13)) - (IntKind.wrap .i64 (v14 * v15))))] H_63 fun r65 H_66 => ∃ r67 : Int, r65 = Value.int .i64 r67 ∧ alc H_66 (.cells #[Value.int .i64 0, Value.int .i64 0, Value.int .i64 0, Value.int .i64 0, Value.int .i64 0, Value.int .i64 0] 41) fun b68 H_69 => #[Value.int .i64 r58, Value.int .i64 r61, Value.int .i64 r64, Value.int .i64 r67, Value.int .i64 0, Value.int .i64 0].size = 6 ∧ stAt H_69 ⟨b68, 0, none⟩ (Array.toList #[Value.int .i64 r58, Value.int .i64 r61, Value.int .i64 r64, Value.int .i64 r67, Value.int .i64 0, Value.int .i64 0]) fun H_70 => J_18 [Value.pointer (some ⟨b68, 0, none⟩)] H_70) ∧ (alc H_63 (.cells #[Value.int .i64 0, Value.int .i64 0, Value.int .i64 0, Value.int .i64 0, Value.int .i64 0, Value.int .i64 0] 41) fun b71 H_72 => (Ext H_63 H_72 ∨ (∃ v77 : Int, cell H_72 (Addr.add ⟨b2, 0, none⟩ (Int.toNat (0 : Int) * 1)) = some (Value.int .i64 v77) ∧ Value.int .i64 v77 = Value.int .i64 v55)) ∧ CallsH Try.prog 102 #[Value.int .i64 (shlI .i64 v55 (32 : Int)), Value.int .i64 (IntKind.wrap .i64 ((IntKind.wrap .i64 (v12 * v13)) - (IntKind.wrap .i64 (v14 * v15))))] H_72 fun r73 H_74 => ∃ r75 : Int, r73 = Value.int .i64 r75 ∧ #[Value.int .i64 r58, Value.int .i64 r61, Value.int .i64 r64, Value.int .i64 r75, Value.int .i64 0, Value.int .i64 0].size = 6 ∧ stAt H_74 ⟨b71, 0, none⟩ (Array.toList #[Value.int .i64 r58, Value.int .i64 r61, Value.int .i64 r64, Value.int .i64 r75, Value.int .i64 0, Value.int .i64 0]) fun H_76 => J_18 [Value.pointer (some ⟨b71, 0, none⟩)] H_76)) ∧ (alc H_60 (.cells #[Value.int .i64 0, Value.int .i64 0, Value.int .i64 0, Value.int .i64 0, Value.int .i64 0, Value.int .i64 0] 41) fun b79 H_80 => (Ext H_60 H_80 ∨ (∃ v89 : Int, cell H_80 (Addr.add ⟨b2, 0, none⟩ (Int.toNat (0 : Int) * 1)) = some (Value.int .i64 v89) ∧ Value.int .i64 v89 = Value.int .i64 v55) ∧ (∃ v90 : Int, cell H_80 (Addr.add ⟨b2, 0, none⟩ (Int.toNat (2 : Int) * 1)) = some (Value.int .i64 v90) ∧ Value.int .i64 v90 = Value.int .i64 v54)) ∧ CallsH Try.prog 102 #[Value.int .i64 (shlI .i64 (IntKind.wrap .i64 (0 - v54)) (32 : Int)), Value.int .i64 (IntKind.wrap .i64 ((IntKind.wrap .i64 (v12 * v13)) - (IntKind.wrap .i64 (v14 * v15))))] H_80 fun r81 H_82 => ∃ r83 : Int, r81 = Value.int .i64 r83 ∧ (Ext H_80 H_82 ∨ (∃ v88 : Int, cell H_82 (Addr.add ⟨b2, 0, none⟩ (Int.toNat (0 : Int) * 1)) = some (Value.int .i64 v88) ∧ Value.int .i64 v88 = Value.int .i64 v55)) ∧ CallsH Try.prog 102 #[Value.int .i64 (shlI .i64 v55 (32 : Int)), Value.int .i64 (IntKind.wrap .i64 ((IntKind.wrap .i64 (v12 * v13)) - (IntKind.wrap .i64 (v14 * v15))))] H_82 fun r84 H_85 => ∃ r86 : Int, r84 = Value.int .i64 r86 ∧ #[Value.int .i64 r58, Value.int .i64 r61, Value.int .i64 r83, Value.int .i64 r86, Value.int .i64 0, Value.int .i64 0].size = 6 ∧ stAt H_85 ⟨b79, 0, none⟩ (Array.toList #[Value.int .i64 r58, Value.int .i64 r61, Value.int .i64 r83, Value.int .i64 r86, Value.int .i64 0, Value.int .i64 0]) fun H_87 => J_18 [Value.pointer (some ⟨b79, 0, none⟩)] H_87)) ∧ (alc H_57 (.cells #[Value.int .i64 0, Value.int .i64 0, Value.int .i64 0, Value.int .i64 0, Value.int .i64 0, Value.int .i64 0] 41) fun b93 H_94 => (Ext H_57 H_94 ∨ (∃ v108 : Int, cell H_94 (Addr.add ⟨b2, 0, none⟩ (Int.toNat (0 : Int) * 1)) = some (Value.int .i64 v108) ∧ Value.int .i64 v108 = Value.int .i64 v55) ∧ (∃ v109 : Int, cell H_94 (Addr.add ⟨b2, 0, none⟩ (Int.toNat (2 : Int) * 1)) = some (Value.int .i64 v109) ∧ Value.int .i64 v109 = Value.int .i64 v54) ∧ (∃ v110 : Int, cell H_94 (Addr.add ⟨b2, 0, none⟩ (Int.toNat (1 : Int) * 1)) = some (Value.int .i64 v110) ∧ Value.int .i64 v110 = Value.int .i64 v53)) ∧ CallsH Try.prog 102 #[Value.int .i64 (shlI .i64 (IntKind.wrap .i64 (0 - v53)) (32 : Int)), Value.int .i64 (IntKind.wrap .i64 ((IntKind.wrap .i64 (v12 * v13)) - (IntKind.wrap .i64 (v14 * v15))))] H_94 fun r95 H_96 => ∃ r97 : Int, r95 = Value.int .i64 r97 ∧ (Ext H_94 H_96 ∨ (∃ v106 : Int, cell H_96 (Addr.add ⟨b2, 0, none⟩ (Int.toNat (0 : Int) * 1)) = some (Value.int .i64 v106) ∧ Value.int .i64 v106 = Value.int .i64 v55) ∧ (∃ v107 : Int, cell H_96 (Addr.add ⟨b2, 0, none⟩ (Int.toNat (2 : Int) * 1)) = some (Value.int .i64 v107) ∧ Value.int .i64 v107 = Value.int .i64 v54)) ∧ CallsH Try.prog 102 #[Value.int .i64 (shlI .i64 (IntKind.wrap .i64 (0 - v54)) (32 : Int)), Value.int .i64 (IntKind.wrap .i64 ((IntKind.wrap .i64 (v12 * v13)) - (IntKind.wrap .i64 (v14 * v15))))] H_96 fun r98 H_99 => ∃ r100 : Int, r98 = Value.int .i64 r100 ∧ (Ext H_96 H_99 ∨ (∃ v105 : Int, cell H_99 (Addr.add ⟨b2, 0, none⟩ (Int.toNat (0 : Int) * 1)) = some (Value.int .i64 v105) ∧ Value.int .i64 v105 = Value.int .i64 v55)) ∧ CallsH Try.prog 102 #[Value.int .i64 (shlI .i64 v55 (32 : Int)), Value.int .i64 (IntKind.wrap .i64 ((IntKind.wrap .i64 (v12 * v13)) - (IntKind.wrap .i64 (v14 * v15))))] H_99 fun r101 H_102 => ∃ r103 : Int, r101 = Value.int .i64 r103 ∧ #[Value.int .i64 r58, Value.int .i64 r97, Value.int .i64 r100, Value.int .i64 r103, Value.int .i64 0, Value.int .i64 0].size = 6 ∧ stAt H_102 ⟨b93, 0, none⟩ (Array.toList #[Value.int .i64 r58, Value.int .i64 r97, Value.int .i64 r100, Value.int .i64 r103, Value.int .i64 0, Value.int .i64 0]) fun H_104 => J_18 [Value.pointer (some ⟨b93, 0, none⟩)] H_104)) ∧ (alc H_8 (.cells #[Value.int .i64 0, Value.int .i64 0, Value.int .i64 0, Value.int .i64 0, Value.int .i64 0, Value.int .i64 0] 41) fun b114 H_115 => (Ext H_8 H_115 ∨ (∃ v135 : Int, cell H_115 (Addr.add ⟨b2, 0, none⟩ (Int.toNat (0 : Int) * 1)) = some (Value.int .i64 v135) ∧ Value.int .i64 v135 = Value.int .i64 v55) ∧ (∃ v136 : Int, cell H_115 (Addr.add ⟨b2, 0, none⟩ (Int.toNat (2 : Int) * 1)) = some (Value.int .i64 v136) ∧ Value.int .i64 v136 = Value.int .i64 v54) ∧ (∃ v137 : Int, cell H_115 (Addr.add ⟨b2, 0, none⟩ (Int.toNat (1 : Int) * 1)) = some (Value.int .i64 v137) ∧ Value.int .i64 v137 = Value.int .i64 v53) ∧ (∃ v138 : Int, cell H_115 (Addr.add ⟨b2, 0, none⟩ (Int.toNat (3 : Int) * 1)) = some (Value.int .i64 v138) ∧ Value.int .i64 v138 = Value.int .i64 v52)) ∧ CallsH Try.prog 102 #[Value.int .i64 (shlI .i64 v52 (32 : Int)), Value.int .i64 (IntKind.wrap .i64 ((IntKind.wrap .i64 (v12 * v13)) - (IntKind.wrap .i64 (v14 * v15))))] H_115 fun r116 H_117 => ∃ r118 : Int, r116 = Value.int .i64 r118 ∧ (Ext H_115 H_117 ∨ (∃ v132 : Int, cell H_117 (Addr.add ⟨b2, 0, none⟩ (Int.toNat (0 : Int) * 1)) = some (Value.int .i64 v132) ∧ Value.int .i64 v132 = Value.int .i64 v55) ∧ (∃ v133 : Int, cell H_117 (Addr.add ⟨b2, 0, none⟩ (Int.toNat (2 : Int) * 1)) = some (Value.int .i64 v133) ∧ Value.int .i64 v133 = Value.int .i64 v54) ∧ (∃ v134 : Int, cell H_117 (Addr.add ⟨b2, 0, none⟩ (Int.toNat (1 : Int) * 1)) = some (Value.int .i64 v134) ∧ Value.int .i64 v134 = Value.int .i64 v53)) ∧ CallsH Try.prog 102 #[Value.int .i64 (shlI .i64 (IntKind.wrap .i64 (0 - v53)) (32 : Int)), Value.int .i64 (IntKind.wrap .i64 ((IntKind.wrap .i64 (v12 * v13)) - (IntKind.wrap .i64 (v14 * v15))))] H_117 fun r119 H_120 => ∃ r121 : Int, r119 = Value.int .i64 r121 ∧ (Ext H_117 H_120 ∨ (∃ v130 : Int, cell H_120 (Addr.add ⟨b2, 0, none⟩ (Int.toNat (0 : Int) * 1)) = some (Value.int .i64 v130) ∧ Value.int .i64 v130 = Value.int .i64 v55) ∧ (∃ v131 : Int, cell H_120 (Addr.add ⟨b2, 0, none⟩ (Int.toNat (2 : Int) * 1)) = some (Value.int .i64 v131) ∧ Value.int .i64 v131 = Value.int .i64 v54)) ∧ CallsH Try.prog 102 #[Value.int .i64 (shlI .i64 (IntKind.wrap .i64 (0 - v54)) (32 : Int)), Value.int .i64 (IntKind.wrap .i64 ((IntKind.wrap .i64 (v12 * v13)) - (IntKind.wrap .i64 (v14 * v15))))] H_120 fun r122 H_123 => ∃ r124 : Int, r122 = Value.int .i64 r124 ∧ (Ext H_120 H_123 ∨ (∃ v129 : Int, cell H_123 (Addr.add ⟨b2, 0, none⟩ (Int.toNat (0 : Int) * 1)) = some (Value.int .i64 v129) ∧ Value.int .i64 v129 = Value.int .i64 v55)) ∧ CallsH Try.prog 102 #[Value.int .i64 (shlI .i64 v55 (32 : Int)), Value.int .i64 (IntKind.wrap .i64 ((IntKind.wrap .i64 (v12 * v13)) - (IntKind.wrap .i64 (v14 * v15))))] H_123 fun r125 H_126 => ∃ r127 : Int, r125 = Value.int .i64 r127 ∧ #[Value.int .i64 r118, Value.int .i64 r121, Value.int .i64 r124, Value.int .i64 r127, Value.int .i64 0, Value.int .i64 0].size = 6 ∧ stAt H_126 ⟨b114, 0, none⟩ (Array.toList #[Value.int .i64 r118, Value.int .i64 r121, Value.int .i64 r124, Value.int .i64 r127, Value.int .i64 0, Value.int .i64 0]) fun H_128 => J_18 [Value.pointer (some ⟨b114, 0, none⟩)] H_128)))
def Try.p80 : Plan := (Plan.two Plan.leaf (Plan.two (Plan.two Plan.leaf (Plan.two (Plan.two Plan.leaf Plan.leaf) Plan.leaf)) (Plan.two Plan.leaf (Plan.two (Plan.two Plan.leaf (Plan.two (Plan.two Plan.leaf Plan.leaf) Plan.leaf)) (Plan.two (Plan.join [(5, 999999)] [1, 2] Plan.leaf) (Plan.two (Plan.two Plan.leaf (Plan.two (Plan.two Plan.leaf Plan.leaf) Plan.leaf)) (Plan.two Plan.leaf (Plan.two Plan.leaf (Plan.two (Plan.two Plan.leaf (Plan.two (Plan.two Plan.leaf Plan.leaf) Plan.leaf)) (Plan.two Plan.leaf Plan.leaf))))))))))
theorem Try.s80 {m1 : Array Value} {H : Heap} {R : Value → Heap → Prop} (h : Try.S80 m1 H R) : CallsH Try.prog 80 #[Value.agg m1] H R :=
  vcFun_sound Try.tab_ok Try.mixed Try.func80 Try.cal80 (p := Try.p80) (args := [Value.agg m1]) (Eq.mp (by kernel_rfl : Try.S80 m1 H R = vcFun Try.prog Try.tab Try.f80 Try.p80 [Value.agg m1] H R) h)

/-- scumble/pix.Table -/
def Try.S81 (kind1 : Int) (params2p : Option Addr) (params2l : Nat) (params2c : Nat) (H : Heap) (R : Value → Heap → Prop) : Prop :=
 CallsH Try.prog 104 #[Value.int .i64 kind1, Value.slice params2p params2l params2c] H fun r3 H_4 => ∃ r5 : Bool, r3 = Value.bool r5 ∧ br (!r5)
 (R (Value.tuple #[Value.slice none 0 0, Value.bool false]) H_4)
 (br ((kind1 : Int) == (1 : Int))
 (CallsH Try.prog 105 #[Value.slice params2p params2l params2c] H_4 fun r6 H_7 => ∃ r8p : Option Addr, ∃ r8l : Nat, ∃ r8c : Nat, r6 = Value.slice r8p r8l r8c ∧ R (Value.tuple #[Value.slice r8p r8l r8c, Value.bool true]) H_7)
 (0 ≤ (256 : Int) ∧ (256 : Int) ≤ (256 : Int) ∧ ((8 : Nat) : Int) * (256 : Int) ≤ 281474976710656 ∧ (256 : Int) ≤ 281474976710656 ∧ alc H_4 (.cells (List.toArray (reps (Int.toNat (256 : Int)) (Array.toList #[Value.int .i64 0]))) 3) fun b9 H_10 => ∀ X_11 : List Value → Heap → Prop, (∀ v12 : Int, ∀ H_13 : Heap, (br (decide ((v12 : Int) < (((Int.toNat (256 : Int)) : Nat) : Int)))
 (∀ J_14 : List Value → Heap → Prop, (∀ H_15 : Heap, (X_11 [Value.int .i64 (IntKind.wrap .i64 (v12 + (1 : Int)))] H_15) → J_14 [] H_15) →
 br ((kind1 : Int) == (0 : Int))
 (∃ a16 : Addr, params2p = some a16 ∧ 0 ≤ (1 : Int) ∧ (1 : Int) < ((params2l : Nat) : Int) ∧ ∃ v17 : Int, cell H_13 (Addr.add a16 (Int.toNat (1 : Int) * 1)) = some (Value.int .i64 v17) ∧ ∃ a18 : Addr, params2p = some a18 ∧ 0 ≤ (0 : Int) ∧ (0 : Int) < ((params2l : Nat) : Int) ∧ ∃ v19 : Int, cell H_13 (Addr.add a18 (Int.toNat (0 : Int) * 1)) = some (Value.int .i64 v19) ∧ ∃ a20 : Addr, params2p = some a20 ∧ 0 ≤ (0 : Int) ∧ (0 : Int) < ((params2l : Nat) : Int) ∧ ∃ v21 : Int, cell H_13 (Addr.add a20 (Int.toNat (0 : Int) * 1)) = some (Value.int .i64 v21) ∧ (2 : Int) ≠ 0 ∧ (IntKind.wrap .i64 (v17 - v19)) ≠ 0 ∧ ∃ a22 : Addr, (some ⟨b9, 0, none⟩) = some a22 ∧ 0 ≤ v12 ∧ v12 < (((Int.toNat (256 : Int)) : Nat) : Int) ∧ stAt H_13 (Addr.add a22 (Int.toNat v12 * 1)) [Value.int .i64 (min (255 : Int) (IntKind.wrap .i64 (Int.tdiv (IntKind.wrap .i64 ((IntKind.wrap .i64 ((255 : Int) * (max (0 : Int) (IntKind.wrap .i64 (v12 - v21))))) + (IntKind.wrap .i64 (Int.tdiv (IntKind.wrap .i64 (v17 - v19)) (2 : Int))))) (IntKind.wrap .i64 (v17 - v19)))))] fun H_23 => J_14 [] H_23)
 (br ((kind1 : Int) == (2 : Int))
 (∃ a24 : Addr, (some ⟨b9, 0, none⟩) = some a24 ∧ 0 ≤ v12 ∧ v12 < (((Int.toNat (256 : Int)) : Nat) : Int) ∧ stAt H_13 (Addr.add a24 (Int.toNat v12 * 1)) [Value.int .i64 (IntKind.wrap .i64 ((255 : Int) - v12))] fun H_25 => J_14 [] H_25)
 (br ((kind1 : Int) == (3 : Int))
 (∃ a26 : Addr, params2p = some a26 ∧ 0 ≤ (0 : Int) ∧ (0 : Int) < ((params2l : Nat) : Int) ∧ ∃ v27 : Int, cell H_13 (Addr.add a26 (Int.toNat (0 : Int) * 1)) = some (Value.int .i64 v27) ∧ br (decide ((v12 : Int) ≥ v27))
 (∃ a28 : Addr, (some ⟨b9, 0, none⟩) = some a28 ∧ 0 ≤ v12 ∧ v12 < (((Int.toNat (256 : Int)) : Nat) : Int) ∧ stAt H_13 (Addr.add a28 (Int.toNat v12 * 1)) [Value.int .i64 (255 : Int)] fun H_29 => J_14 [] H_29)
 (J_14 [] H_13))
 (J_14 [] H_13))))
 (R (Value.tuple #[Value.slice (some ⟨b9, 0, none⟩) (Int.toNat (256 : Int)) (Int.toNat (256 : Int)), Value.bool true]) H_13)) → X_11 [Value.int .i64 v12] H_13) → X_11 [Value.int .i64 (0 : Int)] H_10))
def Try.p81 : Plan := (Plan.two Plan.leaf (Plan.two (Plan.two Plan.leaf (Plan.two (Plan.two Plan.leaf Plan.leaf) Plan.leaf)) (Plan.two (Plan.two Plan.leaf (Plan.two (Plan.two Plan.leaf Plan.leaf) Plan.leaf)) (Plan.two Plan.leaf (Plan.two (Plan.two Plan.leaf (Plan.one (Plan.loop [(20, 3)] [0, 1, 6, 19] (Plan.two Plan.leaf (Plan.two (Plan.two Plan.leaf Plan.leaf) (Plan.two (Plan.join [] [0, 1, 6, 19, 20] (Plan.one (Plan.two Plan.leaf (Plan.two Plan.leaf (Plan.one (Plan.two Plan.leaf (Plan.two (Plan.two Plan.leaf Plan.leaf) (Plan.two Plan.leaf (Plan.two Plan.leaf (Plan.two Plan.leaf (Plan.two (Plan.two Plan.leaf (Plan.two Plan.leaf Plan.leaf)) Plan.leaf))))))))))) Plan.leaf)))))) (Plan.two Plan.leaf Plan.leaf))))))
theorem Try.s81 {kind1 : Int} {params2p : Option Addr} {params2l : Nat} {params2c : Nat} {H : Heap} {R : Value → Heap → Prop} (h : Try.S81 kind1 params2p params2l params2c H R) : CallsH Try.prog 81 #[Value.int .i64 kind1, Value.slice params2p params2l params2c] H R :=
  vcFun_sound Try.tab_ok Try.mixed Try.func81 Try.cal81 (p := Try.p81) (args := [Value.int .i64 kind1, Value.slice params2p params2l params2c]) (Eq.mp (by kernel_rfl : Try.S81 kind1 params2p params2l params2c H R = vcFun Try.prog Try.tab Try.f81 Try.p81 [Value.int .i64 kind1, Value.slice params2p params2l params2c] H R) h)

/-- slices.Clone[[]int,int] -/
def Try.S82 (s1p : Option Addr) (s1l : Nat) (s1c : Nat) (H : Heap) (R : Value → Heap → Prop) : Prop :=
 br (Option.isNone s1p)
 (R (Value.slice none 0 0) H)
 (alc H (.cells #[] 3) fun b2 H_3 => appQ 1 8 #[Value.int .i64 0] H_3 (some ⟨b2, 0, none⟩) 0 0 s1p s1l 3 fun app4p app4l app4c H_5 => R (Value.slice app4p app4l app4c) H_5)
def Try.p82 : Plan := (Plan.two Plan.leaf (Plan.two (Plan.two Plan.leaf (Plan.two (Plan.two Plan.leaf Plan.leaf) Plan.leaf)) (Plan.two Plan.leaf Plan.leaf)))
theorem Try.s82 {s1p : Option Addr} {s1l : Nat} {s1c : Nat} {H : Heap} {R : Value → Heap → Prop} (h : Try.S82 s1p s1l s1c H R) : CallsH Try.prog 82 #[Value.slice s1p s1l s1c] H R :=
  vcFun_sound Try.tab_ok Try.mixed Try.func82 Try.cal82 (p := Try.p82) (args := [Value.slice s1p s1l s1c]) (Eq.mp (by kernel_rfl : Try.S82 s1p s1l s1c H R = vcFun Try.prog Try.tab Try.f82 Try.p82 [Value.slice s1p s1l s1c] H R) h)

/-- slices.Clone[[]byte,byte] -/
def Try.S83 (s1p : Option Addr) (s1l : Nat) (s1c : Nat) (H : Heap) (R : Value → Heap → Prop) : Prop :=
 br (Option.isNone s1p)
 (R (Value.slice none 0 0) H)
 (alc H (.cells #[] 5) fun b2 H_3 => appQ 1 1 #[Value.int .u8 0] H_3 (some ⟨b2, 0, none⟩) 0 0 s1p s1l 5 fun app4p app4l app4c H_5 => R (Value.slice app4p app4l app4c) H_5)
def Try.p83 : Plan := (Plan.two Plan.leaf (Plan.two (Plan.two Plan.leaf (Plan.two (Plan.two Plan.leaf Plan.leaf) Plan.leaf)) (Plan.two Plan.leaf Plan.leaf)))
theorem Try.s83 {s1p : Option Addr} {s1l : Nat} {s1c : Nat} {H : Heap} {R : Value → Heap → Prop} (h : Try.S83 s1p s1l s1c H R) : CallsH Try.prog 83 #[Value.slice s1p s1l s1c] H R :=
  vcFun_sound Try.tab_ok Try.mixed Try.func83 Try.cal83 (p := Try.p83) (args := [Value.slice s1p s1l s1c]) (Eq.mp (by kernel_rfl : Try.S83 s1p s1l s1c H R = vcFun Try.prog Try.tab Try.f83 Try.p83 [Value.slice s1p s1l s1c] H R) h)

/-- slices.Equal[[]int,int] -/
def Try.S84 (s11p : Option Addr) (s11l : Nat) (s11c : Nat) (s22p : Option Addr) (s22l : Nat) (s22c : Nat) (H : Heap) (R : Value → Heap → Prop) : Prop :=
 br ((((s11l : Nat) : Int) : Int) != ((s22l : Nat) : Int))
 (R (Value.bool false) H)
 (∀ X_3 : List Value → Heap → Prop, (∀ i4 : Int, ∀ H_5 : Heap, (br (decide ((i4 : Int) < ((s11l : Nat) : Int)))
 (∃ a6 : Addr, s11p = some a6 ∧ 0 ≤ i4 ∧ i4 < ((s11l : Nat) : Int) ∧ ∃ v7 : Int, cell H_5 (Addr.add a6 (Int.toNat i4 * 1)) = some (Value.int .i64 v7) ∧ ∃ a8 : Addr, s22p = some a8 ∧ 0 ≤ i4 ∧ i4 < ((s22l : Nat) : Int) ∧ ∃ v9 : Int, cell H_5 (Addr.add a8 (Int.toNat i4 * 1)) = some (Value.int .i64 v9) ∧ br ((v7 : Int) != v9)
 (R (Value.bool false) H_5)
 (X_3 [Value.int .i64 (IntKind.wrap .i64 (i4 + (1 : Int)))] H_5))
 (R (Value.bool true) H_5)) → X_3 [Value.int .i64 i4] H_5) → X_3 [Value.int .i64 (0 : Int)] H)
def Try.p84 : Plan := (Plan.two Plan.leaf (Plan.two (Plan.two Plan.leaf (Plan.two (Plan.two Plan.leaf Plan.leaf) Plan.leaf)) (Plan.two (Plan.two Plan.leaf (Plan.one (Plan.loop [(13, 3)] [0, 1, 12] (Plan.two Plan.leaf (Plan.two (Plan.two Plan.leaf Plan.leaf) (Plan.two (Plan.one (Plan.two Plan.leaf (Plan.two Plan.leaf (Plan.two (Plan.two Plan.leaf Plan.leaf) Plan.leaf)))) Plan.leaf)))))) (Plan.two Plan.leaf Plan.leaf))))
theorem Try.s84 {s11p : Option Addr} {s11l : Nat} {s11c : Nat} {s22p : Option Addr} {s22l : Nat} {s22c : Nat} {H : Heap} {R : Value → Heap → Prop} (h : Try.S84 s11p s11l s11c s22p s22l s22c H R) : CallsH Try.prog 84 #[Value.slice s11p s11l s11c, Value.slice s22p s22l s22c] H R :=
  vcFun_sound Try.tab_ok Try.mixed Try.func84 Try.cal84 (p := Try.p84) (args := [Value.slice s11p s11l s11c, Value.slice s22p s22l s22c]) (Eq.mp (by kernel_rfl : Try.S84 s11p s11l s11c s22p s22l s22c H R = vcFun Try.prog Try.tab Try.f84 Try.p84 [Value.slice s11p s11l s11c, Value.slice s22p s22l s22c] H R) h)

/-- slices.Equal[[]byte,byte] -/
def Try.S85 (s11p : Option Addr) (s11l : Nat) (s11c : Nat) (s22p : Option Addr) (s22l : Nat) (s22c : Nat) (H : Heap) (R : Value → Heap → Prop) : Prop :=
 br ((((s11l : Nat) : Int) : Int) != ((s22l : Nat) : Int))
 (R (Value.bool false) H)
 (∀ X_3 : List Value → Heap → Prop, (∀ i4 : Int, ∀ H_5 : Heap, (br (decide ((i4 : Int) < ((s11l : Nat) : Int)))
 (∃ a6 : Addr, s11p = some a6 ∧ 0 ≤ i4 ∧ i4 < ((s11l : Nat) : Int) ∧ ∃ v7 : Int, cell H_5 (Addr.add a6 (Int.toNat i4 * 1)) = some (Value.int .u8 v7) ∧ ∃ a8 : Addr, s22p = some a8 ∧ 0 ≤ i4 ∧ i4 < ((s22l : Nat) : Int) ∧ ∃ v9 : Int, cell H_5 (Addr.add a8 (Int.toNat i4 * 1)) = some (Value.int .u8 v9) ∧ br ((v7 : Int) != v9)
 (R (Value.bool false) H_5)
 (X_3 [Value.int .i64 (IntKind.wrap .i64 (i4 + (1 : Int)))] H_5))
 (R (Value.bool true) H_5)) → X_3 [Value.int .i64 i4] H_5) → X_3 [Value.int .i64 (0 : Int)] H)
def Try.p85 : Plan := (Plan.two Plan.leaf (Plan.two (Plan.two Plan.leaf (Plan.two (Plan.two Plan.leaf Plan.leaf) Plan.leaf)) (Plan.two (Plan.two Plan.leaf (Plan.one (Plan.loop [(13, 3)] [0, 1, 12] (Plan.two Plan.leaf (Plan.two (Plan.two Plan.leaf Plan.leaf) (Plan.two (Plan.one (Plan.two Plan.leaf (Plan.two Plan.leaf (Plan.two (Plan.two Plan.leaf Plan.leaf) Plan.leaf)))) Plan.leaf)))))) (Plan.two Plan.leaf Plan.leaf))))
theorem Try.s85 {s11p : Option Addr} {s11l : Nat} {s11c : Nat} {s22p : Option Addr} {s22l : Nat} {s22c : Nat} {H : Heap} {R : Value → Heap → Prop} (h : Try.S85 s11p s11l s11c s22p s22l s22c H R) : CallsH Try.prog 85 #[Value.slice s11p s11l s11c, Value.slice s22p s22l s22c] H R :=
  vcFun_sound Try.tab_ok Try.mixed Try.func85 Try.cal85 (p := Try.p85) (args := [Value.slice s11p s11l s11c, Value.slice s22p s22l s22c]) (Eq.mp (by kernel_rfl : Try.S85 s11p s11l s11c s22p s22l s22c H R = vcFun Try.prog Try.tab Try.f85 Try.p85 [Value.slice s11p s11l s11c, Value.slice s22p s22l s22c] H R) h)

end Go.Proofs

/-
  Printed by a program of mine (gen.py): each function, over heaps; and that what is said of it is said of its call.
-/
set_option linter.unusedVariables false
set_option maxRecDepth 100000
namespace Go.Proofs
open Go.Sh

/-- slices.IndexFunc[[]scumble/tree.Layer,scumble/tree.Layer] -/
def Try.S86 (s1p : Option Addr) (s1l : Nat) (s1c : Nat) (f2g : Nat) (f2x : Array Value) (f2y : Array Value) (H : Heap) (R : Value → Heap → Prop) : Prop :=
 ∀ X_3 : List Value → Heap → Prop, (∀ i4 : Int, ∀ H_5 : Heap, (br (decide ((i4 : Int) < ((s1l : Nat) : Int)))
 (∃ a6 : Addr, s1p = some a6 ∧ 0 ≤ i4 ∧ i4 < ((s1l : Nat) : Int) ∧ ∃ v7 : Array Value, v7.size = 19 ∧ rowIn H_5 (Addr.add a6 (Int.toNat i4 * 19)) v7 ∧ CallsH Try.prog f2g (List.toArray (Array.toList f2x ++ [Value.agg v7] ++ Array.toList f2y)) H_5 fun r8 H_9 => ∃ r10 : Bool, r8 = Value.bool r10 ∧ br r10
 (R (Value.int .i64 i4) H_9)
 (X_3 [Value.int .i64 (IntKind.wrap .i64 (i4 + (1 : Int)))] H_9))
 (R (Value.int .i64 (-1 : Int)) H_5)) → X_3 [Value.int .i64 i4] H_5) → X_3 [Value.int .i64 (0 : Int)] H
def Try.p86 : Plan := (Plan.two Plan.leaf (Plan.two (Plan.two Plan.leaf (Plan.one (Plan.loop [(8, 3)] [0, 1, 7] (Plan.two Plan.leaf (Plan.two (Plan.two Plan.leaf Plan.leaf) (Plan.two (Plan.one (Plan.two Plan.leaf (Plan.two Plan.leaf (Plan.two (Plan.two Plan.leaf Plan.leaf) Plan.leaf)))) Plan.leaf)))))) (Plan.two Plan.leaf Plan.leaf)))
theorem Try.s86 {s1p : Option Addr} {s1l : Nat} {s1c : Nat} {f2g : Nat} {f2x : Array Value} {f2y : Array Value} {H : Heap} {R : Value → Heap → Prop} (h : Try.S86 s1p s1l s1c f2g f2x f2y H R) : CallsH Try.prog 86 #[Value.slice s1p s1l s1c, Value.func (.func f2g) f2x f2y] H R :=
  vcFun_sound Try.tab_ok Try.mixed Try.func86 Try.cal86 (p := Try.p86) (args := [Value.slice s1p s1l s1c, Value.func (.func f2g) f2x f2y]) (Eq.mp (by kernel_rfl : Try.S86 s1p s1l s1c f2g f2x f2y H R = vcFun Try.prog Try.tab Try.f86 Try.p86 [Value.slice s1p s1l s1c, Value.func (.func f2g) f2x f2y] H R) h)

/-- scumble/tree.right$1 -/
def Try.S87 (v1 : Int) (H : Heap) (R : Value → Heap → Prop) : Prop :=
 CallsH Try.prog 78 #[Value.int .i64 v1] H fun r2 H_3 => ∃ r4 : Bool, r2 = Value.bool r4 ∧ R (Value.bool (!r4)) H_3
def Try.p87 : Plan := (Plan.two Plan.leaf (Plan.two Plan.leaf Plan.leaf))
theorem Try.s87 {v1 : Int} {H : Heap} {R : Value → Heap → Prop} (h : Try.S87 v1 H R) : CallsH Try.prog 87 #[Value.int .i64 v1] H R :=
  vcFun_sound Try.tab_ok Try.mixed Try.func87 Try.cal87 (p := Try.p87) (args := [Value.int .i64 v1]) (Eq.mp (by kernel_rfl : Try.S87 v1 H R = vcFun Try.prog Try.tab Try.f87 Try.p87 [Value.int .i64 v1] H R) h)

/-- scumble/tree.right$2 -/
def Try.S88 (k1 : Array Value) (ad2 : Addr) (ad3 : Addr) (H : Heap) (R : Value → Heap → Prop) : Prop :=
 alc H (.cells k1 58) fun b4 H_5 => ∃ v6 : Array Value, v6.size = 19 ∧ rowIn H_5 ⟨b4, 0, none⟩ v6 ∧ ∃ v7 : Array Value, v7.size = 4 ∧ rowIn H_5 ad2 v7 ∧ ∃ v8 : Option Nat, cell H_5 ad3 = some (Value.map v8) ∧ CallsH Try.prog 62 #[Value.agg v6, Value.agg v7, Value.map v8] H_5 fun r9 H_10 => ∃ r11 : Bool, r9 = Value.bool r11 ∧ R (Value.bool (!r11)) H_10
def Try.p88 : Plan := (Plan.two Plan.leaf (Plan.two Plan.leaf Plan.leaf))
theorem Try.s88 {k1 : Array Value} {ad2 : Addr} {ad3 : Addr} {H : Heap} {R : Value → Heap → Prop} (h : Try.S88 k1 ad2 ad3 H R) : CallsH Try.prog 88 #[Value.agg k1, Value.pointer (some ad2), Value.pointer (some ad3)] H R :=
  vcFun_sound Try.tab_ok Try.mixed Try.func88 Try.cal88 (p := Try.p88) (args := [Value.agg k1, Value.pointer (some ad2), Value.pointer (some ad3)]) (Eq.mp (by kernel_rfl : Try.S88 k1 ad2 ad3 H R = vcFun Try.prog Try.tab Try.f88 Try.p88 [Value.agg k1, Value.pointer (some ad2), Value.pointer (some ad3)] H R) h)

/-- scumble/scumbleref10.Pixel -/
def Try.S89 (v1 : Int) (H : Heap) (R : Value → Heap → Prop) : Prop :=
 ∀ X_2 : List Value → Heap → Prop, (∀ c3 : Int, ∀ H_4 : Heap, (br (decide ((c3 : Int) < (3 : Int)))
 (CallsH Try.prog 106 #[Value.int .i64 v1, Value.int .i64 c3] H_4 fun r5 H_6 => ∃ r7 : Int, r5 = Value.int .i64 r7 ∧ CallsH Try.prog 106 #[Value.int .i64 v1, Value.int .i64 (3 : Int)] H_6 fun r8 H_9 => ∃ r10 : Int, r8 = Value.int .i64 r10 ∧ br (decide ((r7 : Int) > r10))
 (R (Value.bool false) H_9)
 (X_2 [Value.int .i64 (IntKind.wrap .i64 (c3 + (1 : Int)))] H_9))
 (br (decide ((v1 : Int) ≥ (0 : Int))) (R (Value.bool (decide ((v1 : Int) < (4294967296 : Int)))) H_4) (R (Value.bool false) H_4))) → X_2 [Value.int .i64 c3] H_4) → X_2 [Value.int .i64 (0 : Int)] H
def Try.p89 : Plan := (Plan.two Plan.leaf (Plan.two (Plan.two Plan.leaf (Plan.one (Plan.loop [(3, 3)] [0] (Plan.two (Plan.two Plan.leaf (Plan.two Plan.leaf Plan.leaf)) (Plan.two (Plan.one (Plan.two Plan.leaf (Plan.two (Plan.two Plan.leaf Plan.leaf) Plan.leaf))) Plan.leaf))))) (Plan.two Plan.leaf Plan.leaf)))
theorem Try.s89 {v1 : Int} {H : Heap} {R : Value → Heap → Prop} (h : Try.S89 v1 H R) : CallsH Try.prog 89 #[Value.int .i64 v1] H R :=
  vcFun_sound Try.tab_ok Try.mixed Try.func89 Try.cal89 (p := Try.p89) (args := [Value.int .i64 v1]) (Eq.mp (by kernel_rfl : Try.S89 v1 H R = vcFun Try.prog Try.tab Try.f89 Try.p89 [Value.int .i64 v1] H R) h)

/-- (scumble/scumbleref10.Map).Right -/
def Try.S92 (m1 : Array Value) (H : Heap) (R : Value → Heap → Prop) : Prop :=
 alc H (.cells m1 46) fun b2 H_3 => ∀ X_4 : List Value → Heap → Prop, (∀ i5 : Int, ∀ H_6 : Heap, (br (decide ((i5 : Int) < (4 : Int)))
 (0 ≤ i5 ∧ i5 < ((6 : Nat) : Int) ∧ ∃ v7 : Int, cell H_6 (Addr.add ⟨b2, 0, none⟩ (Int.toNat i5 * 1)) = some (Value.int .i64 v7) ∧ br (decide ((v7 : Int) < (-16777216 : Int))) (R (Value.bool false) H_6) (0 ≤ i5 ∧ i5 < ((6 : Nat) : Int) ∧ ∃ v8 : Int, cell H_6 (Addr.add ⟨b2, 0, none⟩ (Int.toNat i5 * 1)) = some (Value.int .i64 v8) ∧ br (decide ((v8 : Int) > (16777216 : Int)))
 (R (Value.bool false) H_6)
 (X_4 [Value.int .i64 (IntKind.wrap .i64 (i5 + (1 : Int)))] H_6)))
 (∀ X_9 : List Value → Heap → Prop, (∀ i10 : Int, ∀ H_11 : Heap, (br (decide ((i10 : Int) < (6 : Int)))
 (0 ≤ i10 ∧ i10 < ((6 : Nat) : Int) ∧ ∃ v12 : Int, cell H_11 (Addr.add ⟨b2, 0, none⟩ (Int.toNat i10 * 1)) = some (Value.int .i64 v12) ∧ br (decide ((v12 : Int) < (-68719476736 : Int))) (R (Value.bool false) H_11) (0 ≤ i10 ∧ i10 < ((6 : Nat) : Int) ∧ ∃ v13 : Int, cell H_11 (Addr.add ⟨b2, 0, none⟩ (Int.toNat i10 * 1)) = some (Value.int .i64 v13) ∧ br (decide ((v13 : Int) > (68719476736 : Int)))
 (R (Value.bool false) H_11)
 (X_9 [Value.int .i64 (IntKind.wrap .i64 (i10 + (1 : Int)))] H_11)))
 (R (Value.bool true) H_11)) → X_9 [Value.int .i64 i10] H_11) → X_9 [Value.int .i64 (4 : Int)] H_6)) → X_4 [Value.int .i64 i5] H_6) → X_4 [Value.int .i64 (0 : Int)] H_3
def Try.p92 : Plan := (Plan.two Plan.leaf (Plan.two (Plan.two Plan.leaf (Plan.one (Plan.loop [(3, 3)] [1] (Plan.two (Plan.two Plan.leaf (Plan.two Plan.leaf Plan.leaf)) (Plan.two (Plan.one (Plan.two Plan.leaf (Plan.two (Plan.two Plan.leaf Plan.leaf) Plan.leaf))) Plan.leaf))))) (Plan.two (Plan.two Plan.leaf (Plan.one (Plan.loop [(4, 3)] [1] (Plan.two (Plan.two Plan.leaf (Plan.two Plan.leaf Plan.leaf)) (Plan.two (Plan.one (Plan.two Plan.leaf (Plan.two (Plan.two Plan.leaf Plan.leaf) Plan.leaf))) Plan.leaf))))) (Plan.two Plan.leaf Plan.leaf))))
theorem Try.s92 {m1 : Array Value} {H : Heap} {R : Value → Heap → Prop} (h : Try.S92 m1 H R) : CallsH Try.prog 92 #[Value.agg m1] H R :=
  vcFun_sound Try.tab_ok Try.mixed Try.func92 Try.cal92 (p := Try.p92) (args := [Value.agg m1]) (Eq.mp (by kernel_rfl : Try.S92 m1 H R = vcFun Try.prog Try.tab Try.f92 Try.p92 [Value.agg m1] H R) h)

/-- scumble/scumbleref10.round -/
def Try.S93 (n1 : Int) (m2 : Int) (H : Heap) (R : Value → Heap → Prop) : Prop :=
 br (decide ((m2 : Int) < (0 : Int)))
 (CallsH Try.prog 109 #[Value.int .i64 (IntKind.wrap .i64 ((IntKind.wrap .i64 ((-2 : Int) * n1)) - m2)), Value.int .i64 (IntKind.wrap .i64 ((-2 : Int) * m2))] H fun r3 H_4 => ∃ r5 : Int, r3 = Value.int .i64 r5 ∧ R (Value.int .i64 r5) H_4)
 (CallsH Try.prog 109 #[Value.int .i64 (IntKind.wrap .i64 ((IntKind.wrap .i64 ((2 : Int) * n1)) + m2)), Value.int .i64 (IntKind.wrap .i64 ((2 : Int) * m2))] H fun r6 H_7 => ∃ r8 : Int, r6 = Value.int .i64 r8 ∧ R (Value.int .i64 r8) H_7)
def Try.p93 : Plan := (Plan.two Plan.leaf (Plan.two (Plan.two Plan.leaf (Plan.two (Plan.two Plan.leaf Plan.leaf) Plan.leaf)) (Plan.two Plan.leaf Plan.leaf)))
theorem Try.s93 {n1 : Int} {m2 : Int} {H : Heap} {R : Value → Heap → Prop} (h : Try.S93 n1 m2 H R) : CallsH Try.prog 93 #[Value.int .i64 n1, Value.int .i64 m2] H R :=
  vcFun_sound Try.tab_ok Try.mixed Try.func93 Try.cal93 (p := Try.p93) (args := [Value.int .i64 n1, Value.int .i64 m2]) (Eq.mp (by kernel_rfl : Try.S93 n1 m2 H R = vcFun Try.prog Try.tab Try.f93 Try.p93 [Value.int .i64 n1, Value.int .i64 m2] H R) h)

/-- scumble/scumbleref10.near -/
def Try.S94 (n1 : Int) (H : Heap) (R : Value → Heap → Prop) : Prop :=
 CallsH Try.prog 109 #[Value.int .i64 (IntKind.wrap .i64 (n1 + (32768 : Int))), Value.int .i64 (65536 : Int)] H fun r2 H_3 => ∃ r4 : Int, r2 = Value.int .i64 r4 ∧ R (Value.int .i64 r4) H_3
def Try.p94 : Plan := (Plan.two Plan.leaf (Plan.two Plan.leaf Plan.leaf))
theorem Try.s94 {n1 : Int} {H : Heap} {R : Value → Heap → Prop} (h : Try.S94 n1 H R) : CallsH Try.prog 94 #[Value.int .i64 n1] H R :=
  vcFun_sound Try.tab_ok Try.mixed Try.func94 Try.cal94 (p := Try.p94) (args := [Value.int .i64 n1]) (Eq.mp (by kernel_rfl : Try.S94 n1 H R = vcFun Try.prog Try.tab Try.f94 Try.p94 [Value.int .i64 n1] H R) h)

/-- scumble/scumbleref08.Curve -/
def Try.S95 (p1p : Option Addr) (p1l : Nat) (p1c : Nat) (v2 : Int) (H : Heap) (R : Value → Heap → Prop) : Prop :=
 ∃ a3 : Addr, p1p = some a3 ∧ 0 ≤ (0 : Int) ∧ (0 : Int) < ((p1l : Nat) : Int) ∧ ∃ v4 : Int, cell H (Addr.add a3 (Int.toNat (0 : Int) * 1)) = some (Value.int .i64 v4) ∧ br (decide ((v2 : Int) ≤ v4))
 (∃ a5 : Addr, p1p = some a5 ∧ 0 ≤ (1 : Int) ∧ (1 : Int) < ((p1l : Nat) : Int) ∧ ∃ v6 : Int, cell H (Addr.add a5 (Int.toNat (1 : Int) * 1)) = some (Value.int .i64 v6) ∧ R (Value.int .i64 v6) H)
 (∀ X_7 : List Value → Heap → Prop, (∀ i8 : Int, ∀ H_9 : Heap, (br (decide ((i8 : Int) < ((p1l : Nat) : Int)))
 (∃ a10 : Addr, p1p = some a10 ∧ 0 ≤ i8 ∧ i8 < ((p1l : Nat) : Int) ∧ ∃ v11 : Int, cell H_9 (Addr.add a10 (Int.toNat i8 * 1)) = some (Value.int .i64 v11) ∧ br (decide ((v2 : Int) < v11))
 (∃ a12 : Addr, p1p = some a12 ∧ 0 ≤ (IntKind.wrap .i64 (i8 - (1 : Int))) ∧ (IntKind.wrap .i64 (i8 - (1 : Int))) < ((p1l : Nat) : Int) ∧ ∃ v13 : Int, cell H_9 (Addr.add a12 (Int.toNat (IntKind.wrap .i64 (i8 - (1 : Int))) * 1)) = some (Value.int .i64 v13) ∧ ∃ a14 : Addr, p1p = some a14 ∧ 0 ≤ (IntKind.wrap .i64 (i8 + (1 : Int))) ∧ (IntKind.wrap .i64 (i8 + (1 : Int))) < ((p1l : Nat) : Int) ∧ ∃ v15 : Int, cell H_9 (Addr.add a14 (Int.toNat (IntKind.wrap .i64 (i8 + (1 : Int))) * 1)) = some (Value.int .i64 v15) ∧ ∃ a16 : Addr, p1p = some a16 ∧ 0 ≤ (IntKind.wrap .i64 (i8 - (1 : Int))) ∧ (IntKind.wrap .i64 (i8 - (1 : Int))) < ((p1l : Nat) : Int) ∧ ∃ v17 : Int, cell H_9 (Addr.add a16 (Int.toNat (IntKind.wrap .i64 (i8 - (1 : Int))) * 1)) = some (Value.int .i64 v17) ∧ ∃ a18 : Addr, p1p = some a18 ∧ 0 ≤ (IntKind.wrap .i64 (i8 - (2 : Int))) ∧ (IntKind.wrap .i64 (i8 - (2 : Int))) < ((p1l : Nat) : Int) ∧ ∃ v19 : Int, cell H_9 (Addr.add a18 (Int.toNat (IntKind.wrap .i64 (i8 - (2 : Int))) * 1)) = some (Value.int .i64 v19) ∧ ∃ a20 : Addr, p1p = some a20 ∧ 0 ≤ i8 ∧ i8 < ((p1l : Nat) : Int) ∧ ∃ v21 : Int, cell H_9 (Addr.add a20 (Int.toNat i8 * 1)) = some (Value.int .i64 v21) ∧ ∃ a22 : Addr, p1p = some a22 ∧ 0 ≤ (IntKind.wrap .i64 (i8 - (2 : Int))) ∧ (IntKind.wrap .i64 (i8 - (2 : Int))) < ((p1l : Nat) : Int) ∧ ∃ v23 : Int, cell H_9 (Addr.add a22 (Int.toNat (IntKind.wrap .i64 (i8 - (2 : Int))) * 1)) = some (Value.int .i64 v23) ∧ (IntKind.wrap .i64 (v21 - v23)) ≠ 0 ∧ R (Value.int .i64 (IntKind.wrap .i64 (v13 + (IntKind.wrap .i64 (Int.tdiv (IntKind.wrap .i64 ((IntKind.wrap .i64 (v15 - v17)) * (IntKind.wrap .i64 (v2 - v19)))) (IntKind.wrap .i64 (v21 - v23))))))) H_9)
 (X_7 [Value.int .i64 (IntKind.wrap .i64 (i8 + (2 : Int)))] H_9))
 (∃ a24 : Addr, p1p = some a24 ∧ 0 ≤ (IntKind.wrap .i64 (((p1l : Nat) : Int) - (1 : Int))) ∧ (IntKind.wrap .i64 (((p1l : Nat) : Int) - (1 : Int))) < ((p1l : Nat) : Int) ∧ ∃ v25 : Int, cell H_9 (Addr.add a24 (Int.toNat (IntKind.wrap .i64 (((p1l : Nat) : Int) - (1 : Int))) * 1)) = some (Value.int .i64 v25) ∧ R (Value.int .i64 v25) H_9)) → X_7 [Value.int .i64 i8] H_9) → X_7 [Value.int .i64 (2 : Int)] H)
def Try.p95 : Plan := (Plan.two Plan.leaf (Plan.two (Plan.two Plan.leaf (Plan.two (Plan.two Plan.leaf Plan.leaf) Plan.leaf)) (Plan.two (Plan.two Plan.leaf (Plan.one (Plan.loop [(5, 3)] [0, 1] (Plan.two (Plan.two Plan.leaf (Plan.two Plan.leaf Plan.leaf)) (Plan.two (Plan.one (Plan.two Plan.leaf (Plan.two (Plan.two Plan.leaf Plan.leaf) Plan.leaf))) Plan.leaf))))) (Plan.two Plan.leaf Plan.leaf))))
theorem Try.s95 {p1p : Option Addr} {p1l : Nat} {p1c : Nat} {v2 : Int} {H : Heap} {R : Value → Heap → Prop} (h : Try.S95 p1p p1l p1c v2 H R) : CallsH Try.prog 95 #[Value.slice p1p p1l p1c, Value.int .i64 v2] H R :=
  vcFun_sound Try.tab_ok Try.mixed Try.func95 Try.cal95 (p := Try.p95) (args := [Value.slice p1p p1l p1c, Value.int .i64 v2]) (Eq.mp (by kernel_rfl : Try.S95 p1p p1l p1c v2 H R = vcFun Try.prog Try.tab Try.f95 Try.p95 [Value.slice p1p p1l p1c, Value.int .i64 v2] H R) h)

/-- slices.Insert[[]scumble/tree.Layer,scumble/tree.Layer] -/
def Try.S96 (s1p : Option Addr) (s1l : Nat) (s1c : Nat) (i2 : Int) (v3p : Option Addr) (v3l : Nat) (v3c : Nat) (H : Heap) (R : Value → Heap → Prop) : Prop :=
 0 ≤ i2 ∧ i2 ≤ ((s1l : Nat) : Int) ∧ br ((((v3l : Nat) : Int) : Int) == (0 : Int))
 (R (Value.slice s1p s1l s1c) H)
 (br ((i2 : Int) == ((s1l : Nat) : Int))
 (appQ 19 216 #[Value.int .i64 0, Value.int .i64 0, Value.bool false, Value.int .i64 0, Value.int .i64 0, Value.int .i64 0, Value.int .i64 0, Value.slice none 0 0, Value.slice none 0 0, Value.int .i64 0, Value.int .i64 0, Value.int .i64 0, Value.int .i64 0, Value.int .i64 0, Value.int .i64 0, Value.bool false, Value.int .i64 0, Value.slice none 0 0, Value.slice none 0 0] H s1p s1l s1c v3p v3l 58 fun app4p app4l app4c H_5 => R (Value.slice app4p app4l app4c) H_5)
 (br (decide (((IntKind.wrap .i64 (((s1l : Nat) : Int) + ((v3l : Nat) : Int))) : Int) > ((s1c : Nat) : Int)))
 (0 ≤ i2 ∧ i2 ≤ ((s1c : Nat) : Int) ∧ appZ 19 216 #[Value.int .i64 0, Value.int .i64 0, Value.bool false, Value.int .i64 0, Value.int .i64 0, Value.int .i64 0, Value.int .i64 0, Value.slice none 0 0, Value.slice none 0 0, Value.int .i64 0, Value.int .i64 0, Value.int .i64 0, Value.int .i64 0, Value.int .i64 0, Value.int .i64 0, Value.bool false, Value.int .i64 0, Value.slice none 0 0, Value.slice none 0 0] H (if s1c = 0 then s1p else Option.map (fun x => Addr.add x (0 * 19)) s1p) ((Int.toNat i2) - 0) (s1c - 0) (IntKind.wrap .i64 ((IntKind.wrap .i64 (((s1l : Nat) : Int) + ((v3l : Nat) : Int))) - i2)) 58 fun s26p s26l s26c H_7 => 0 ≤ i2 ∧ i2 ≤ ((s26l : Nat) : Int) ∧ ∃ xs8 : Array Value, rowOf H_7 v3p (min v3l (s26l - (Int.toNat i2)) * 19) xs8 ∧ copQ H_7 (if s26c = (Int.toNat i2) then s26p else Option.map (fun x => Addr.add x ((Int.toNat i2) * 19)) s26p) xs8 fun H_9 => 0 ≤ (IntKind.wrap .i64 (i2 + ((v3l : Nat) : Int))) ∧ (IntKind.wrap .i64 (i2 + ((v3l : Nat) : Int))) ≤ ((s26l : Nat) : Int) ∧ 0 ≤ i2 ∧ i2 ≤ ((s1l : Nat) : Int) ∧ ∃ xs10 : Array Value, rowOf H_9 (if s1c = (Int.toNat i2) then s1p else Option.map (fun x => Addr.add x ((Int.toNat i2) * 19)) s1p) (min (s1l - (Int.toNat i2)) (s26l - (Int.toNat (IntKind.wrap .i64 (i2 + ((v3l : Nat) : Int))))) * 19) xs10 ∧ copQ H_9 (if s26c = (Int.toNat (IntKind.wrap .i64 (i2 + ((v3l : Nat) : Int)))) then s26p else Option.map (fun x => Addr.add x ((Int.toNat (IntKind.wrap .i64 (i2 + ((v3l : Nat) : Int)))) * 19)) s26p) xs10 fun H_11 => R (Value.slice s26p s26l s26c) H_11)
 (0 ≤ (IntKind.wrap .i64 (((s1l : Nat) : Int) + ((v3l : Nat) : Int))) ∧ (IntKind.wrap .i64 (((s1l : Nat) : Int) + ((v3l : Nat) : Int))) ≤ ((s1c : Nat) : Int) ∧ 0 ≤ (IntKind.wrap .i64 (i2 + ((v3l : Nat) : Int))) ∧ (IntKind.wrap .i64 (i2 + ((v3l : Nat) : Int))) ≤ ((((Int.toNat (IntKind.wrap .i64 (((s1l : Nat) : Int) + ((v3l : Nat) : Int)))) - 0) : Nat) : Int) ∧ CallsH Try.prog 110 #[Value.slice v3p v3l v3c, Value.slice (if (s1c - 0) = (Int.toNat (IntKind.wrap .i64 (i2 + ((v3l : Nat) : Int)))) then (if s1c = 0 then s1p else Option.map (fun x => Addr.add x (0 * 19)) s1p) else Option.map (fun x => Addr.add x ((Int.toNat (IntKind.wrap .i64 (i2 + ((v3l : Nat) : Int)))) * 19)) (if s1c = 0 then s1p else Option.map (fun x => Addr.add x (0 * 19)) s1p)) (((Int.toNat (IntKind.wrap .i64 (((s1l : Nat) : Int) + ((v3l : Nat) : Int)))) - 0) - (Int.toNat (IntKind.wrap .i64 (i2 + ((v3l : Nat) : Int))))) ((s1c - 0) - (Int.toNat (IntKind.wrap .i64 (i2 + ((v3l : Nat) : Int)))))] H fun r12 H_13 => ∃ r14 : Bool, r12 = Value.bool r14 ∧ br (!r14)
 (0 ≤ (IntKind.wrap .i64 (i2 + ((v3l : Nat) : Int))) ∧ (IntKind.wrap .i64 (i2 + ((v3l : Nat) : Int))) ≤ ((((Int.toNat (IntKind.wrap .i64 (((s1l : Nat) : Int) + ((v3l : Nat) : Int)))) - 0) : Nat) : Int) ∧ 0 ≤ i2 ∧ i2 ≤ ((((Int.toNat (IntKind.wrap .i64 (((s1l : Nat) : Int) + ((v3l : Nat) : Int)))) - 0) : Nat) : Int) ∧ ∃ xs15 : Array Value, rowOf H_13 (if (s1c - 0) = (Int.toNat i2) then (if s1c = 0 then s1p else Option.map (fun x => Addr.add x (0 * 19)) s1p) else Option.map (fun x => Addr.add x ((Int.toNat i2) * 19)) (if s1c = 0 then s1p else Option.map (fun x => Addr.add x (0 * 19)) s1p)) (min (((Int.toNat (IntKind.wrap .i64 (((s1l : Nat) : Int) + ((v3l : Nat) : Int)))) - 0) - (Int.toNat i2)) (((Int.toNat (IntKind.wrap .i64 (((s1l : Nat) : Int) + ((v3l : Nat) : Int)))) - 0) - (Int.toNat (IntKind.wrap .i64 (i2 + ((v3l : Nat) : Int))))) * 19) xs15 ∧ copQ H_13 (if (s1c - 0) = (Int.toNat (IntKind.wrap .i64 (i2 + ((v3l : Nat) : Int)))) then (if s1c = 0 then s1p else Option.map (fun x => Addr.add x (0 * 19)) s1p) else Option.map (fun x => Addr.add x ((Int.toNat (IntKind.wrap .i64 (i2 + ((v3l : Nat) : Int)))) * 19)) (if s1c = 0 then s1p else Option.map (fun x => Addr.add x (0 * 19)) s1p)) xs15 fun H_16 => 0 ≤ i2 ∧ i2 ≤ ((((Int.toNat (IntKind.wrap .i64 (((s1l : Nat) : Int) + ((v3l : Nat) : Int)))) - 0) : Nat) : Int) ∧ ∃ xs17 : Array Value, rowOf H_16 v3p (min v3l (((Int.toNat (IntKind.wrap .i64 (((s1l : Nat) : Int) + ((v3l : Nat) : Int)))) - 0) - (Int.toNat i2)) * 19) xs17 ∧ copQ H_16 (if (s1c - 0) = (Int.toNat i2) then (if s1c = 0 then s1p else Option.map (fun x => Addr.add x (0 * 19)) s1p) else Option.map (fun x => Addr.add x ((Int.toNat i2) * 19)) (if s1c = 0 then s1p else Option.map (fun x => Addr.add x (0 * 19)) s1p)) xs17 fun H_18 => R (Value.slice (if s1c = 0 then s1p else Option.map (fun x => Addr.add x (0 * 19)) s1p) ((Int.toNat (IntKind.wrap .i64 (((s1l : Nat) : Int) + ((v3l : Nat) : Int)))) - 0) (s1c - 0)) H_18)
 (0 ≤ ((s1l : Nat) : Int) ∧ ((s1l : Nat) : Int) ≤ ((((Int.toNat (IntKind.wrap .i64 (((s1l : Nat) : Int) + ((v3l : Nat) : Int)))) - 0) : Nat) : Int) ∧ ∃ xs19 : Array Value, rowOf H_13 v3p (min v3l (((Int.toNat (IntKind.wrap .i64 (((s1l : Nat) : Int) + ((v3l : Nat) : Int)))) - 0) - (Int.toNat ((s1l : Nat) : Int))) * 19) xs19 ∧ copQ H_13 (if (s1c - 0) = (Int.toNat ((s1l : Nat) : Int)) then (if s1c = 0 then s1p else Option.map (fun x => Addr.add x (0 * 19)) s1p) else Option.map (fun x => Addr.add x ((Int.toNat ((s1l : Nat) : Int)) * 19)) (if s1c = 0 then s1p else Option.map (fun x => Addr.add x (0 * 19)) s1p)) xs19 fun H_20 => 0 ≤ i2 ∧ i2 ≤ ((((Int.toNat (IntKind.wrap .i64 (((s1l : Nat) : Int) + ((v3l : Nat) : Int)))) - 0) : Nat) : Int) ∧ CallsH Try.prog 111 #[Value.slice (if (s1c - 0) = (Int.toNat i2) then (if s1c = 0 then s1p else Option.map (fun x => Addr.add x (0 * 19)) s1p) else Option.map (fun x => Addr.add x ((Int.toNat i2) * 19)) (if s1c = 0 then s1p else Option.map (fun x => Addr.add x (0 * 19)) s1p)) (((Int.toNat (IntKind.wrap .i64 (((s1l : Nat) : Int) + ((v3l : Nat) : Int)))) - 0) - (Int.toNat i2)) ((s1c - 0) - (Int.toNat i2)), Value.int .i64 ((v3l : Nat) : Int)] H_20 fun r21 H_22 => r21 = Value.tuple #[] ∧ R (Value.slice (if s1c = 0 then s1p else Option.map (fun x => Addr.add x (0 * 19)) s1p) ((Int.toNat (IntKind.wrap .i64 (((s1l : Nat) : Int) + ((v3l : Nat) : Int)))) - 0) (s1c - 0)) H_22))))
def Try.p96 : Plan := (Plan.two Plan.leaf (Plan.two Plan.leaf (Plan.two Plan.leaf (Plan.two (Plan.two Plan.leaf (Plan.two (Plan.two Plan.leaf Plan.leaf) Plan.leaf)) (Plan.two Plan.leaf (Plan.two (Plan.two Plan.leaf (Plan.two (Plan.two Plan.leaf Plan.leaf) Plan.leaf)) (Plan.two (Plan.two Plan.leaf (Plan.two (Plan.two Plan.leaf (Plan.two Plan.leaf (Plan.two Plan.leaf (Plan.two Plan.leaf Plan.leaf)))) Plan.leaf)) (Plan.two Plan.leaf (Plan.two (Plan.two Plan.leaf (Plan.two (Plan.two Plan.leaf (Plan.two Plan.leaf (Plan.two Plan.leaf Plan.leaf))) Plan.leaf)) (Plan.two Plan.leaf (Plan.two Plan.leaf (Plan.two Plan.leaf Plan.leaf))))))))))))
theorem Try.s96 {s1p : Option Addr} {s1l : Nat} {s1c : Nat} {i2 : Int} {v3p : Option Addr} {v3l : Nat} {v3c : Nat} {H : Heap} {R : Value → Heap → Prop} (h : Try.S96 s1p s1l s1c i2 v3p v3l v3c H R) : CallsH Try.prog 96 #[Value.slice s1p s1l s1c, Value.int .i64 i2, Value.slice v3p v3l v3c] H R :=
  vcFun_sound Try.tab_ok Try.mixed Try.func96 Try.cal96 (p := Try.p96) (args := [Value.slice s1p s1l s1c, Value.int .i64 i2, Value.slice v3p v3l v3c]) (Eq.mp (by kernel_rfl : Try.S96 s1p s1l s1c i2 v3p v3l v3c H R = vcFun Try.prog Try.tab Try.f96 Try.p96 [Value.slice s1p s1l s1c, Value.int .i64 i2, Value.slice v3p v3l v3c] H R) h)

/-- slices.IndexFunc[[]int,int] -/
def Try.S97 (s1p : Option Addr) (s1l : Nat) (s1c : Nat) (f2g : Nat) (f2x : Array Value) (f2y : Array Value) (H : Heap) (R : Value → Heap → Prop) : Prop :=
 ∀ X_3 : List Value → Heap → Prop, (∀ i4 : Int, ∀ H_5 : Heap, (br (decide ((i4 : Int) < ((s1l : Nat) : Int)))
 (∃ a6 : Addr, s1p = some a6 ∧ 0 ≤ i4 ∧ i4 < ((s1l : Nat) : Int) ∧ ∃ v7 : Int, cell H_5 (Addr.add a6 (Int.toNat i4 * 1)) = some (Value.int .i64 v7) ∧ CallsH Try.prog f2g (List.toArray (Array.toList f2x ++ [Value.int .i64 v7] ++ Array.toList f2y)) H_5 fun r8 H_9 => ∃ r10 : Bool, r8 = Value.bool r10 ∧ br r10
 (R (Value.int .i64 i4) H_9)
 (X_3 [Value.int .i64 (IntKind.wrap .i64 (i4 + (1 : Int)))] H_9))
 (R (Value.int .i64 (-1 : Int)) H_5)) → X_3 [Value.int .i64 i4] H_5) → X_3 [Value.int .i64 (0 : Int)] H
def Try.p97 : Plan := (Plan.two Plan.leaf (Plan.two (Plan.two Plan.leaf (Plan.one (Plan.loop [(8, 3)] [0, 1, 7] (Plan.two Plan.leaf (Plan.two (Plan.two Plan.leaf Plan.leaf) (Plan.two (Plan.one (Plan.two Plan.leaf (Plan.two Plan.leaf (Plan.two (Plan.two Plan.leaf Plan.leaf) Plan.leaf)))) Plan.leaf)))))) (Plan.two Plan.leaf Plan.leaf)))
theorem Try.s97 {s1p : Option Addr} {s1l : Nat} {s1c : Nat} {f2g : Nat} {f2x : Array Value} {f2y : Array Value} {H : Heap} {R : Value → Heap → Prop} (h : Try.S97 s1p s1l s1c f2g f2x f2y H R) : CallsH Try.prog 97 #[Value.slice s1p s1l s1c, Value.func (.func f2g) f2x f2y] H R :=
  vcFun_sound Try.tab_ok Try.mixed Try.func97 Try.cal97 (p := Try.p97) (args := [Value.slice s1p s1l s1c, Value.func (.func f2g) f2x f2y]) (Eq.mp (by kernel_rfl : Try.S97 s1p s1l s1c f2g f2x f2y H R = vcFun Try.prog Try.tab Try.f97 Try.p97 [Value.slice s1p s1l s1c, Value.func (.func f2g) f2x f2y] H R) h)

/-- scumble/pix.Split -/
def Try.S98 (p1 : Int) (H : Heap) (R : Value → Heap → Prop) : Prop :=
 alc H (.cells #[Value.int .i64 0, Value.int .i64 0, Value.int .i64 0, Value.int .i64 0] 131) fun b2 H_3 => 0 ≤ (24 : Int) ∧ 0 ≤ (16 : Int) ∧ 0 ≤ (8 : Int) ∧ #[Value.int .i64 (andI .i64 (shrI .i64 p1 (24 : Int)) (255 : Int)), Value.int .i64 (andI .i64 (shrI .i64 p1 (16 : Int)) (255 : Int)), Value.int .i64 (andI .i64 (shrI .i64 p1 (8 : Int)) (255 : Int)), Value.int .i64 (andI .i64 p1 (255 : Int))].size = 4 ∧ stAt H_3 ⟨b2, 0, none⟩ (Array.toList #[Value.int .i64 (andI .i64 (shrI .i64 p1 (24 : Int)) (255 : Int)), Value.int .i64 (andI .i64 (shrI .i64 p1 (16 : Int)) (255 : Int)), Value.int .i64 (andI .i64 (shrI .i64 p1 (8 : Int)) (255 : Int)), Value.int .i64 (andI .i64 p1 (255 : Int))]) fun H_4 => ∃ res5 : Array Value, res5.size = 4 ∧ rowIn H_4 ⟨b2, 0, none⟩ res5 ∧ R (Value.agg res5) H_4
def Try.p98 : Plan := (Plan.two Plan.leaf (Plan.two Plan.leaf Plan.leaf))
theorem Try.s98 {p1 : Int} {H : Heap} {R : Value → Heap → Prop} (h : Try.S98 p1 H R) : CallsH Try.prog 98 #[Value.int .i64 p1] H R :=
  vcFun_sound Try.tab_ok Try.mixed Try.func98 Try.cal98 (p := Try.p98) (args := [Value.int .i64 p1]) (Eq.mp (by kernel_rfl : Try.S98 p1 H R = vcFun Try.prog Try.tab Try.f98 Try.p98 [Value.int .i64 p1] H R) h)

/-- scumble/lasso.check -/
def Try.S99 (shape1p : Option Addr) (shape1l : Nat) (shape1c : Nat) (more2p : Option Addr) (more2l : Nat) (more2c : Nat) (H : Heap) (R : Value → Heap → Prop) : Prop :=
 ∀ J_3 : List Value → Heap → Prop, (∀ H_4 : Heap, (alc H_4 (.cells #[Value.slice shape1p shape1l shape1c, Value.slice more2p more2l more2c] 39) fun b5 H_6 => ∀ X_7 : List Value → Heap → Prop, (∀ t8 : Int, ∀ H_9 : Heap, (br (decide ((t8 : Int) < ((2 : Nat) : Int)))
 (∃ a10 : Addr, (some ⟨b5, 0, none⟩) = some a10 ∧ 0 ≤ t8 ∧ t8 < ((2 : Nat) : Int) ∧ ∃ l11p : Option Addr, ∃ l11l : Nat, ∃ l11c : Nat, cell H_9 (Addr.add a10 (Int.toNat t8 * 1)) = some (Value.slice l11p l11l l11c) ∧ ∀ X_12 : List Value → Heap → Prop, (∀ t13 : Int, ∀ H_14 : Heap, (br (decide ((t13 : Int) < ((l11l : Nat) : Int)))
 (∃ a15 : Addr, l11p = some a15 ∧ 0 ≤ t13 ∧ t13 < ((l11l : Nat) : Int) ∧ ∃ v16 : Array Value, v16.size = 2 ∧ rowIn H_14 (Addr.add a15 (Int.toNat t13 * 2)) v16 ∧ alc H_14 (.cells #[Value.int .i64 0, Value.int .i64 0] 79) fun b17 H_18 => v16.size = 2 ∧ stAt H_18 ⟨b17, 0, none⟩ (Array.toList v16) fun H_19 => ∃ v20 : Array Value, v20.size = 2 ∧ rowIn H_19 ⟨b17, 0, none⟩ v20 ∧ CallsH Try.prog 112 #[Value.agg v20] H_19 fun r21 H_22 => ∃ r23 : Bool, r21 = Value.bool r23 ∧ br (!r23)
 (R (Value.int .i64 (31 : Int)) H_22)
 (X_12 [Value.int .i64 (IntKind.wrap .i64 (t13 + (1 : Int)))] H_22))
 (X_7 [Value.int .i64 (IntKind.wrap .i64 (t8 + (1 : Int)))] H_14)) → X_12 [Value.int .i64 t13] H_14) → X_12 [Value.int .i64 (0 : Int)] H_9)
 (R (Value.int .i64 (0 : Int)) H_9)) → X_7 [Value.int .i64 t8] H_9) → X_7 [Value.int .i64 (0 : Int)] H_6) → J_3 [] H_4) →
 br (decide ((((shape1l : Nat) : Int) : Int) < (3 : Int))) (R (Value.int .i64 (31 : Int)) H) (br (decide ((((shape1l : Nat) : Int) : Int) > (256 : Int)))
 (R (Value.int .i64 (31 : Int)) H)
 (J_3 [] H))
def Try.p99 : Plan := (Plan.two Plan.leaf (Plan.two (Plan.join [] [0, 1] (Plan.two Plan.leaf (Plan.two (Plan.two Plan.leaf Plan.leaf) Plan.leaf))) (Plan.two (Plan.two Plan.leaf (Plan.one (Plan.loop [(21, 3)] [19, 20] (Plan.two Plan.leaf (Plan.two (Plan.two Plan.leaf Plan.leaf) (Plan.two (Plan.one (Plan.two Plan.leaf (Plan.two Plan.leaf (Plan.one (Plan.loop [(27, 3)] [19, 20, 21, 25, 26] (Plan.two Plan.leaf (Plan.two (Plan.two Plan.leaf Plan.leaf) (Plan.two (Plan.one (Plan.two Plan.leaf (Plan.two Plan.leaf (Plan.two (Plan.two Plan.leaf Plan.leaf) Plan.leaf)))) Plan.leaf)))))))) Plan.leaf)))))) (Plan.two Plan.leaf Plan.leaf))))
theorem Try.s99 {shape1p : Option Addr} {shape1l : Nat} {shape1c : Nat} {more2p : Option Addr} {more2l : Nat} {more2c : Nat} {H : Heap} {R : Value → Heap → Prop} (h : Try.S99 shape1p shape1l shape1c more2p more2l more2c H R) : CallsH Try.prog 99 #[Value.slice shape1p shape1l shape1c, Value.slice more2p more2l more2c] H R :=
  vcFun_sound Try.tab_ok Try.mixed Try.func99 Try.cal99 (p := Try.p99) (args := [Value.slice shape1p shape1l shape1c, Value.slice more2p more2l more2c]) (Eq.mp (by kernel_rfl : Try.S99 shape1p shape1l shape1c more2p more2l more2c H R = vcFun Try.prog Try.tab Try.f99 Try.p99 [Value.slice shape1p shape1l shape1c, Value.slice more2p more2l more2c] H R) h)

/-- scumble/lasso.within -/
def Try.S100 (shape1p : Option Addr) (shape1l : Nat) (shape1c : Nat) (x2 : Int) (y3 : Int) (H : Heap) (R : Value → Heap → Prop) : Prop :=
 (FloatKind.f64 = FloatKind.f64 ∧ ∃ a4 : Addr, shape1p = some a4 ∧ 0 ≤ (IntKind.wrap .i64 (((shape1l : Nat) : Int) - (1 : Int))) ∧ (IntKind.wrap .i64 (((shape1l : Nat) : Int) - (1 : Int))) < ((shape1l : Nat) : Int) ∧ ∃ v5 : Array Value, v5.size = 2 ∧ rowIn H (Addr.add a4 (Int.toNat (IntKind.wrap .i64 (((shape1l : Nat) : Int) - (1 : Int))) * 2)) v5 ∧ alc H (.cells #[Value.int .i64 0, Value.int .i64 0] 79) fun b6 H_7 => v5.size = 2 ∧ stAt H_7 ⟨b6, 0, none⟩ (Array.toList v5) fun H_8 => ∀ X_9 : List Value → Heap → Prop, (∀ odd10 : Bool, ∀ t11 : Int, ∀ H_12 : Heap, (br (decide ((t11 : Int) < ((shape1l : Nat) : Int)))
 (∃ a13 : Addr, shape1p = some a13 ∧ 0 ≤ t11 ∧ t11 < ((shape1l : Nat) : Int) ∧ ∃ v14 : Array Value, v14.size = 2 ∧ rowIn H_12 (Addr.add a13 (Int.toNat t11 * 2)) v14 ∧ alc H_12 (.cells #[Value.int .i64 0, Value.int .i64 0] 79) fun b15 H_16 => v14.size = 2 ∧ stAt H_16 ⟨b15, 0, none⟩ (Array.toList v14) fun H_17 => ∃ v18 : Array Value, v18.size = 2 ∧ rowIn H_17 ⟨b6, 0, none⟩ v18 ∧ ∃ v19 : Array Value, v19.size = 2 ∧ rowIn H_17 ⟨b15, 0, none⟩ v19 ∧ CallsH Try.prog 113 #[Value.agg v18] H_17 fun r20 H_21 => ∃ r22r : Nat, ∃ r22i : Nat, r20 = Value.complex .f64 r22r r22i ∧ (Ext H_17 H_21 ∨ (∃ v47 : Array Value, v47.size = 2 ∧ rowIn H_21 ⟨b15, 0, none⟩ v47 ∧ Value.agg v47 = Value.agg v19)) ∧ (FloatKind.f64 = FloatKind.f64 ∧ FloatKind.f64 = FloatKind.f64 ∧ ∃ a23 im24 : Nat, cMulBits (4611686018427387904 : Nat) (0 : Nat) r22r r22i = some (a23, im24) ∧ CallsH Try.prog 113 #[Value.agg v19] H_21 fun r25 H_26 => ∃ r27r : Nat, ∃ r27i : Nat, r25 = Value.complex .f64 r27r r27i ∧ (FloatKind.f64 = FloatKind.f64 ∧ FloatKind.f64 = FloatKind.f64 ∧ ∃ b28 im29 : Nat, cMulBits (4611686018427387904 : Nat) (0 : Nat) r27r r27i = some (b28, im29) ∧ (FloatKind.f64 = FloatKind.f64 ∧ (FloatKind.f64 = FloatKind.f64 ∧ br (!((Ieee.Format.order (FloatKind.format .f64) im24 (floatOfInt .f64 (IntKind.wrap .i64 ((IntKind.wrap .i64 ((2 : Int) * y3)) + (1 : Int)))) == some Ordering.gt) == (Ieee.Format.order (FloatKind.format .f64) im29 (floatOfInt .f64 (IntKind.wrap .i64 ((IntKind.wrap .i64 ((2 : Int) * y3)) + (1 : Int)))) == some Ordering.gt)))
 (∀ J_30 : List Value → Heap → Prop, (∀ a31r : Nat, ∀ a31i : Nat, ∀ b32r : Nat, ∀ b32i : Nat, ∀ H_33 : Heap, ((FloatKind.f64 = FloatKind.f64 ∧ ∃ re34 im35 : Nat, cSumBits .sub .f64 a31r a31i b32r b32i = some (re34, im35) ∧ (FloatKind.f64 = FloatKind.f64 ∧ ∃ re36 im37 : Nat, cSumBits .sub .f64 (floatOfInt .f64 (IntKind.wrap .i64 ((IntKind.wrap .i64 ((2 : Int) * x2)) + (1 : Int)))) (floatOfInt .f64 (IntKind.wrap .i64 ((IntKind.wrap .i64 ((2 : Int) * y3)) + (1 : Int)))) b32r b32i = some (re36, im37) ∧ CallsH Try.prog 114 #[Value.complex .f64 re34 im35, Value.complex .f64 re36 im37] H_33 fun r38 H_39 => ∃ r40 : Nat, r38 = Value.float .f64 r40 ∧ (FloatKind.f64 = FloatKind.f64 ∧ br (Ieee.Format.order (FloatKind.format .f64) r40 (0 : Nat) == some Ordering.gt)
 (∃ v41 : Array Value, v41.size = 2 ∧ rowIn H_39 ⟨b15, 0, none⟩ v41 ∧ v41.size = 2 ∧ stAt H_39 ⟨b6, 0, none⟩ (Array.toList v41) fun H_42 => X_9 [Value.bool (!odd10), Value.int .i64 (IntKind.wrap .i64 (t11 + (1 : Int)))] H_42)
 (∃ v43 : Array Value, v43.size = 2 ∧ rowIn H_39 ⟨b15, 0, none⟩ v43 ∧ v43.size = 2 ∧ stAt H_39 ⟨b6, 0, none⟩ (Array.toList v43) fun H_44 => X_9 [Value.bool odd10, Value.int .i64 (IntKind.wrap .i64 (t11 + (1 : Int)))] H_44))))) → J_30 [Value.complex .f64 a31r a31i, Value.complex .f64 b32r b32i] H_33) →
 br (Ieee.Format.order (FloatKind.format .f64) im29 (floatOfInt .f64 (IntKind.wrap .i64 ((IntKind.wrap .i64 ((2 : Int) * y3)) + (1 : Int)))) == some Ordering.gt)
 (J_30 [Value.complex .f64 b28 im29, Value.complex .f64 a23 im24] H_26)
 (J_30 [Value.complex .f64 a23 im24, Value.complex .f64 b28 im29] H_26))
 (∃ v45 : Array Value, v45.size = 2 ∧ rowIn H_26 ⟨b15, 0, none⟩ v45 ∧ v45.size = 2 ∧ stAt H_26 ⟨b6, 0, none⟩ (Array.toList v45) fun H_46 => X_9 [Value.bool odd10, Value.int .i64 (IntKind.wrap .i64 (t11 + (1 : Int)))] H_46))))))
 (R (Value.bool odd10) H_12)) → X_9 [Value.bool odd10, Value.int .i64 t11] H_12) → X_9 [Value.bool false, Value.int .i64 (0 : Int)] H_8)
def Try.p100 : Plan := (Plan.two Plan.leaf (Plan.two Plan.leaf (Plan.two Plan.leaf (Plan.two Plan.leaf (Plan.two (Plan.two Plan.leaf (Plan.one (Plan.loop [(8, 4), (33, 3)] [7, 9, 31, 32] (Plan.two Plan.leaf (Plan.two (Plan.two Plan.leaf Plan.leaf) (Plan.two (Plan.one (Plan.two Plan.leaf (Plan.two Plan.leaf (Plan.two (Plan.two Plan.leaf (Plan.two Plan.leaf (Plan.two (Plan.two (Plan.join [(12, 141), (13, 141)] [7, 8, 9, 11, 31, 32, 33] (Plan.two Plan.leaf (Plan.two Plan.leaf Plan.leaf))) (Plan.two Plan.leaf (Plan.two Plan.leaf Plan.leaf))) Plan.leaf))) Plan.leaf)))) Plan.leaf)))))) (Plan.two Plan.leaf Plan.leaf))))))
theorem Try.s100 {shape1p : Option Addr} {shape1l : Nat} {shape1c : Nat} {x2 : Int} {y3 : Int} {H : Heap} {R : Value → Heap → Prop} (h : Try.S100 shape1p shape1l shape1c x2 y3 H R) : CallsH Try.prog 100 #[Value.slice shape1p shape1l shape1c, Value.int .i64 x2, Value.int .i64 y3] H R :=
  vcFun_sound Try.tab_ok Try.mixed Try.func100 Try.cal100 (p := Try.p100) (args := [Value.slice shape1p shape1l shape1c, Value.int .i64 x2, Value.int .i64 y3]) (Eq.mp (by kernel_rfl : Try.S100 shape1p shape1l shape1c x2 y3 H R = vcFun Try.prog Try.tab Try.f100 Try.p100 [Value.slice shape1p shape1l shape1c, Value.int .i64 x2, Value.int .i64 y3] H R) h)

/-- (scumble/affine.Map).Right -/
def Try.S101 (m1 : Array Value) (H : Heap) (R : Value → Heap → Prop) : Prop :=
 alc H (.cells m1 41) fun b2 H_3 => ∃ v4 : Array Value, v4.size = 6 ∧ rowIn H_3 ⟨b2, 0, none⟩ v4 ∧ ∀ X_5 : List Value → Heap → Prop, (∀ i6 : Int, ∀ H_7 : Heap, (br (decide ((i6 : Int) < (6 : Int)))
 (0 ≤ i6 ∧ i6 < ((6 : Nat) : Int) ∧ ∃ v8 : Int, v4[(Int.toNat i6 * 1)]? = some (Value.int .i64 v8) ∧ ∀ J_9 : List Value → Heap → Prop, (∀ most10 : Int, ∀ H_11 : Heap, (br (decide ((v8 : Int) < (IntKind.wrap .i64 (0 - most10)))) (R (Value.bool false) H_11) (br (decide ((v8 : Int) > most10))
 (R (Value.bool false) H_11)
 (X_5 [Value.int .i64 (IntKind.wrap .i64 (i6 + (1 : Int)))] H_11))) → J_9 [Value.int .i64 most10] H_11) →
 br (decide ((i6 : Int) ≥ (4 : Int)))
 (J_9 [Value.int .i64 (68719476736 : Int)] H_7)
 (J_9 [Value.int .i64 (16777216 : Int)] H_7))
 (R (Value.bool true) H_7)) → X_5 [Value.int .i64 i6] H_7) → X_5 [Value.int .i64 (0 : Int)] H_3
def Try.p101 : Plan := (Plan.two Plan.leaf (Plan.two (Plan.two Plan.leaf (Plan.one (Plan.loop [(7, 3)] [6] (Plan.two Plan.leaf (Plan.two (Plan.two Plan.leaf Plan.leaf) (Plan.two (Plan.one (Plan.two Plan.leaf (Plan.two Plan.leaf (Plan.two (Plan.join [(5, 3)] [4, 6, 7] (Plan.two Plan.leaf (Plan.two Plan.leaf Plan.leaf))) (Plan.two Plan.leaf (Plan.two (Plan.two Plan.leaf Plan.leaf) Plan.leaf)))))) Plan.leaf)))))) (Plan.two Plan.leaf Plan.leaf)))
theorem Try.s101 {m1 : Array Value} {H : Heap} {R : Value → Heap → Prop} (h : Try.S101 m1 H R) : CallsH Try.prog 101 #[Value.agg m1] H R :=
  vcFun_sound Try.tab_ok Try.mixed Try.func101 Try.cal101 (p := Try.p101) (args := [Value.agg m1]) (Eq.mp (by kernel_rfl : Try.S101 m1 H R = vcFun Try.prog Try.tab Try.f101 Try.p101 [Value.agg m1] H R) h)

/-- scumble/affine.round -/
def Try.S102 (n1 : Int) (m2 : Int) (H : Heap) (R : Value → Heap → Prop) : Prop :=
 ∀ J_3 : List Value → Heap → Prop, (∀ n4 : Int, ∀ m5 : Int, ∀ H_6 : Heap, (CallsH Try.prog 115 #[Value.int .i64 (IntKind.wrap .i64 ((IntKind.wrap .i64 ((2 : Int) * n4)) + m5)), Value.int .i64 (IntKind.wrap .i64 ((2 : Int) * m5))] H_6 fun r7 H_8 => ∃ r9 : Int, r7 = Value.int .i64 r9 ∧ R (Value.int .i64 r9) H_8) → J_3 [Value.int .i64 n4, Value.int .i64 m5] H_6) →
 br (decide ((m2 : Int) < (0 : Int)))
 (J_3 [Value.int .i64 (IntKind.wrap .i64 (0 - n1)), Value.int .i64 (IntKind.wrap .i64 (0 - m2))] H)
 (J_3 [Value.int .i64 n1, Value.int .i64 m2] H)
def Try.p102 : Plan := (Plan.two Plan.leaf (Plan.two (Plan.join [(0, 3), (1, 3)] [] (Plan.two Plan.leaf (Plan.two Plan.leaf Plan.leaf))) (Plan.two Plan.leaf Plan.leaf)))
theorem Try.s102 {n1 : Int} {m2 : Int} {H : Heap} {R : Value → Heap → Prop} (h : Try.S102 n1 m2 H R) : CallsH Try.prog 102 #[Value.int .i64 n1, Value.int .i64 m2] H R :=
  vcFun_sound Try.tab_ok Try.mixed Try.func102 Try.cal102 (p := Try.p102) (args := [Value.int .i64 n1, Value.int .i64 m2]) (Eq.mp (by kernel_rfl : Try.S102 n1 m2 H R = vcFun Try.prog Try.tab Try.f102 Try.p102 [Value.int .i64 n1, Value.int .i64 m2] H R) h)

/-- scumble/affine.near -/
def Try.S103 (n1 : Int) (H : Heap) (R : Value → Heap → Prop) : Prop :=
 0 ≤ (16 : Int) ∧ R (Value.int .i64 (shrI .i64 (IntKind.wrap .i64 (n1 + (32768 : Int))) (16 : Int))) H
def Try.p103 : Plan := (Plan.two Plan.leaf (Plan.two Plan.leaf Plan.leaf))
theorem Try.s103 {n1 : Int} {H : Heap} {R : Value → Heap → Prop} (h : Try.S103 n1 H R) : CallsH Try.prog 103 #[Value.int .i64 n1] H R :=
  vcFun_sound Try.tab_ok Try.mixed Try.func103 Try.cal103 (p := Try.p103) (args := [Value.int .i64 n1]) (Eq.mp (by kernel_rfl : Try.S103 n1 H R = vcFun Try.prog Try.tab Try.f103 Try.p103 [Value.int .i64 n1] H R) h)

/-- scumble/pix.right -/
def Try.S104 (kind1 : Int) (params2p : Option Addr) (params2l : Nat) (params2c : Nat) (H : Heap) (R : Value → Heap → Prop) : Prop :=
 ∀ X_3 : List Value → Heap → Prop, (∀ i4 : Int, ∀ H_5 : Heap, (br (decide ((i4 : Int) < ((params2l : Nat) : Int)))
 (∀ J_6 : List Value → Heap → Prop, (∀ H_7 : Heap, (X_3 [Value.int .i64 (IntKind.wrap .i64 (i4 + (1 : Int)))] H_7) → J_6 [] H_7) →
 ∃ a8 : Addr, params2p = some a8 ∧ 0 ≤ i4 ∧ i4 < ((params2l : Nat) : Int) ∧ ∃ p9 : Int, cell H_5 (Addr.add a8 (Int.toNat i4 * 1)) = some (Value.int .i64 p9) ∧ br (decide ((p9 : Int) < (0 : Int))) (R (Value.bool false) H_5) (br (decide ((p9 : Int) > (255 : Int))) (R (Value.bool false) H_5) (br ((kind1 : Int) == (1 : Int)) ((2 : Int) ≠ 0 ∧ br (((Int.tmod i4 (2 : Int)) : Int) == (0 : Int)) (br (decide ((i4 : Int) > (0 : Int))) (∃ a10 : Addr, params2p = some a10 ∧ 0 ≤ (IntKind.wrap .i64 (i4 - (2 : Int))) ∧ (IntKind.wrap .i64 (i4 - (2 : Int))) < ((params2l : Nat) : Int) ∧ ∃ v11 : Int, cell H_5 (Addr.add a10 (Int.toNat (IntKind.wrap .i64 (i4 - (2 : Int))) * 1)) = some (Value.int .i64 v11) ∧ br (decide ((p9 : Int) ≤ v11))
 (R (Value.bool false) H_5)
 (J_6 [] H_5)) (J_6 [] H_5)) (J_6 [] H_5)) (J_6 [] H_5))))
 (br ((kind1 : Int) == (0 : Int))
 (br ((((params2l : Nat) : Int) : Int) == (2 : Int)) (∃ a12 : Addr, params2p = some a12 ∧ 0 ≤ (0 : Int) ∧ (0 : Int) < ((params2l : Nat) : Int) ∧ ∃ v13 : Int, cell H_5 (Addr.add a12 (Int.toNat (0 : Int) * 1)) = some (Value.int .i64 v13) ∧ ∃ a14 : Addr, params2p = some a14 ∧ 0 ≤ (1 : Int) ∧ (1 : Int) < ((params2l : Nat) : Int) ∧ ∃ v15 : Int, cell H_5 (Addr.add a14 (Int.toNat (1 : Int) * 1)) = some (Value.int .i64 v15) ∧ R (Value.bool (decide ((v13 : Int) < v15))) H_5) (R (Value.bool false) H_5))
 (br ((kind1 : Int) == (1 : Int))
 (br (decide ((((params2l : Nat) : Int) : Int) ≥ (2 : Int))) (br (decide ((((params2l : Nat) : Int) : Int) ≤ (32 : Int))) ((2 : Int) ≠ 0 ∧ R (Value.bool (((Int.tmod ((params2l : Nat) : Int) (2 : Int)) : Int) == (0 : Int))) H_5) (R (Value.bool false) H_5)) (R (Value.bool false) H_5))
 (br ((kind1 : Int) == (2 : Int))
 (R (Value.bool ((((params2l : Nat) : Int) : Int) == (0 : Int))) H_5)
 (br ((kind1 : Int) == (3 : Int))
 (R (Value.bool ((((params2l : Nat) : Int) : Int) == (1 : Int))) H_5)
 (R (Value.bool false) H_5)))))) → X_3 [Value.int .i64 i4] H_5) → X_3 [Value.int .i64 (0 : Int)] H
def Try.p104 : Plan := (Plan.two Plan.leaf (Plan.two Plan.leaf (Plan.two (Plan.two Plan.leaf (Plan.one (Plan.loop [(12, 3)] [0, 1, 5, 10, 11] (Plan.two Plan.leaf (Plan.two (Plan.two Plan.leaf Plan.leaf) (Plan.two (Plan.join [] [0, 1, 5, 10, 11, 12] (Plan.one (Plan.two Plan.leaf (Plan.two Plan.leaf (Plan.two (Plan.two Plan.leaf Plan.leaf) Plan.leaf))))) Plan.leaf)))))) (Plan.two (Plan.two Plan.leaf (Plan.one (Plan.two Plan.leaf (Plan.two (Plan.two Plan.leaf Plan.leaf) (Plan.two Plan.leaf (Plan.two (Plan.two Plan.leaf Plan.leaf) (Plan.two Plan.leaf (Plan.two (Plan.two Plan.leaf Plan.leaf) (Plan.two Plan.leaf (Plan.two (Plan.two Plan.leaf Plan.leaf) Plan.leaf)))))))))) (Plan.two Plan.leaf Plan.leaf)))))
theorem Try.s104 {kind1 : Int} {params2p : Option Addr} {params2l : Nat} {params2c : Nat} {H : Heap} {R : Value → Heap → Prop} (h : Try.S104 kind1 params2p params2l params2c H R) : CallsH Try.prog 104 #[Value.int .i64 kind1, Value.slice params2p params2l params2c] H R :=
  vcFun_sound Try.tab_ok Try.mixed Try.func104 Try.cal104 (p := Try.p104) (args := [Value.int .i64 kind1, Value.slice params2p params2l params2c]) (Eq.mp (by kernel_rfl : Try.S104 kind1 params2p params2l params2c H R = vcFun Try.prog Try.tab Try.f104 Try.p104 [Value.int .i64 kind1, Value.slice params2p params2l params2c] H R) h)

/-- scumble/pix.curve -/
def Try.S105 (params1p : Option Addr) (params1l : Nat) (params1c : Nat) (H : Heap) (R : Value → Heap → Prop) : Prop :=
 0 ≤ (256 : Int) ∧ (256 : Int) ≤ (256 : Int) ∧ ((8 : Nat) : Int) * (256 : Int) ≤ 281474976710656 ∧ (256 : Int) ≤ 281474976710656 ∧ alc H (.cells (List.toArray (reps (Int.toNat (256 : Int)) (Array.toList #[Value.int .i64 0]))) 3) fun b2 H_3 => ∀ X_4 : List Value → Heap → Prop, (∀ v5 : Int, ∀ H_6 : Heap, (br (decide ((v5 : Int) < (((Int.toNat (256 : Int)) : Nat) : Int)))
 (∃ a7 : Addr, params1p = some a7 ∧ 0 ≤ (0 : Int) ∧ (0 : Int) < ((params1l : Nat) : Int) ∧ ∃ v8 : Int, cell H_6 (Addr.add a7 (Int.toNat (0 : Int) * 1)) = some (Value.int .i64 v8) ∧ br (decide ((v5 : Int) ≤ v8))
 (∃ a9 : Addr, params1p = some a9 ∧ 0 ≤ (1 : Int) ∧ (1 : Int) < ((params1l : Nat) : Int) ∧ ∃ v10 : Int, cell H_6 (Addr.add a9 (Int.toNat (1 : Int) * 1)) = some (Value.int .i64 v10) ∧ ∃ a11 : Addr, (some ⟨b2, 0, none⟩) = some a11 ∧ 0 ≤ v5 ∧ v5 < (((Int.toNat (256 : Int)) : Nat) : Int) ∧ stAt H_6 (Addr.add a11 (Int.toNat v5 * 1)) [Value.int .i64 v10] fun H_12 => X_4 [Value.int .i64 (IntKind.wrap .i64 (v5 + (1 : Int)))] H_12)
 (∃ a13 : Addr, params1p = some a13 ∧ 0 ≤ (IntKind.wrap .i64 (((params1l : Nat) : Int) - (2 : Int))) ∧ (IntKind.wrap .i64 (((params1l : Nat) : Int) - (2 : Int))) < ((params1l : Nat) : Int) ∧ ∃ v14 : Int, cell H_6 (Addr.add a13 (Int.toNat (IntKind.wrap .i64 (((params1l : Nat) : Int) - (2 : Int))) * 1)) = some (Value.int .i64 v14) ∧ br (decide ((v5 : Int) ≥ v14))
 (∃ a15 : Addr, params1p = some a15 ∧ 0 ≤ (IntKind.wrap .i64 (((params1l : Nat) : Int) - (1 : Int))) ∧ (IntKind.wrap .i64 (((params1l : Nat) : Int) - (1 : Int))) < ((params1l : Nat) : Int) ∧ ∃ v16 : Int, cell H_6 (Addr.add a15 (Int.toNat (IntKind.wrap .i64 (((params1l : Nat) : Int) - (1 : Int))) * 1)) = some (Value.int .i64 v16) ∧ ∃ a17 : Addr, (some ⟨b2, 0, none⟩) = some a17 ∧ 0 ≤ v5 ∧ v5 < (((Int.toNat (256 : Int)) : Nat) : Int) ∧ stAt H_6 (Addr.add a17 (Int.toNat v5 * 1)) [Value.int .i64 v16] fun H_18 => X_4 [Value.int .i64 (IntKind.wrap .i64 (v5 + (1 : Int)))] H_18)
 (∀ X_19 : List Value → Heap → Prop, (∀ i20 : Int, ∀ H_21 : Heap, (∃ a22 : Addr, params1p = some a22 ∧ 0 ≤ (IntKind.wrap .i64 (i20 + (2 : Int))) ∧ (IntKind.wrap .i64 (i20 + (2 : Int))) < ((params1l : Nat) : Int) ∧ ∃ v23 : Int, cell H_21 (Addr.add a22 (Int.toNat (IntKind.wrap .i64 (i20 + (2 : Int))) * 1)) = some (Value.int .i64 v23) ∧ br (decide ((v23 : Int) ≤ v5))
 (X_19 [Value.int .i64 (IntKind.wrap .i64 (i20 + (2 : Int)))] H_21)
 (∃ a24 : Addr, params1p = some a24 ∧ 0 ≤ (IntKind.wrap .i64 (i20 + (1 : Int))) ∧ (IntKind.wrap .i64 (i20 + (1 : Int))) < ((params1l : Nat) : Int) ∧ ∃ v25 : Int, cell H_21 (Addr.add a24 (Int.toNat (IntKind.wrap .i64 (i20 + (1 : Int))) * 1)) = some (Value.int .i64 v25) ∧ ∃ a26 : Addr, params1p = some a26 ∧ 0 ≤ (IntKind.wrap .i64 (i20 + (3 : Int))) ∧ (IntKind.wrap .i64 (i20 + (3 : Int))) < ((params1l : Nat) : Int) ∧ ∃ v27 : Int, cell H_21 (Addr.add a26 (Int.toNat (IntKind.wrap .i64 (i20 + (3 : Int))) * 1)) = some (Value.int .i64 v27) ∧ ∃ a28 : Addr, params1p = some a28 ∧ 0 ≤ (IntKind.wrap .i64 (i20 + (1 : Int))) ∧ (IntKind.wrap .i64 (i20 + (1 : Int))) < ((params1l : Nat) : Int) ∧ ∃ v29 : Int, cell H_21 (Addr.add a28 (Int.toNat (IntKind.wrap .i64 (i20 + (1 : Int))) * 1)) = some (Value.int .i64 v29) ∧ ∃ a30 : Addr, params1p = some a30 ∧ 0 ≤ i20 ∧ i20 < ((params1l : Nat) : Int) ∧ ∃ v31 : Int, cell H_21 (Addr.add a30 (Int.toNat i20 * 1)) = some (Value.int .i64 v31) ∧ ∃ a32 : Addr, params1p = some a32 ∧ 0 ≤ (IntKind.wrap .i64 (i20 + (2 : Int))) ∧ (IntKind.wrap .i64 (i20 + (2 : Int))) < ((params1l : Nat) : Int) ∧ ∃ v33 : Int, cell H_21 (Addr.add a32 (Int.toNat (IntKind.wrap .i64 (i20 + (2 : Int))) * 1)) = some (Value.int .i64 v33) ∧ ∃ a34 : Addr, params1p = some a34 ∧ 0 ≤ i20 ∧ i20 < ((params1l : Nat) : Int) ∧ ∃ v35 : Int, cell H_21 (Addr.add a34 (Int.toNat i20 * 1)) = some (Value.int .i64 v35) ∧ (IntKind.wrap .i64 (v33 - v35)) ≠ 0 ∧ ∃ a36 : Addr, (some ⟨b2, 0, none⟩) = some a36 ∧ 0 ≤ v5 ∧ v5 < (((Int.toNat (256 : Int)) : Nat) : Int) ∧ stAt H_21 (Addr.add a36 (Int.toNat v5 * 1)) [Value.int .i64 (IntKind.wrap .i64 (v25 + (IntKind.wrap .i64 (Int.tdiv (IntKind.wrap .i64 ((IntKind.wrap .i64 (v27 - v29)) * (IntKind.wrap .i64 (v5 - v31)))) (IntKind.wrap .i64 (v33 - v35))))))] fun H_37 => X_4 [Value.int .i64 (IntKind.wrap .i64 (v5 + (1 : Int)))] H_37)) → X_19 [Value.int .i64 i20] H_21) → X_19 [Value.int .i64 (0 : Int)] H_6)))
 (R (Value.slice (some ⟨b2, 0, none⟩) (Int.toNat (256 : Int)) (Int.toNat (256 : Int))) H_6)) → X_4 [Value.int .i64 v5] H_6) → X_4 [Value.int .i64 (0 : Int)] H_3
def Try.p105 : Plan := (Plan.two Plan.leaf (Plan.two Plan.leaf (Plan.two Plan.leaf (Plan.two (Plan.two Plan.leaf (Plan.one (Plan.loop [(12, 3)] [0, 3, 4, 11] (Plan.two Plan.leaf (Plan.two (Plan.two Plan.leaf Plan.leaf) (Plan.two (Plan.one (Plan.two Plan.leaf (Plan.two (Plan.one (Plan.two Plan.leaf (Plan.two (Plan.two Plan.leaf Plan.leaf) (Plan.two Plan.leaf (Plan.two (Plan.two Plan.leaf Plan.leaf) Plan.leaf))))) (Plan.two Plan.leaf (Plan.two (Plan.one (Plan.loop [(6, 3)] [0, 3, 4, 5, 11, 12] (Plan.two (Plan.two Plan.leaf (Plan.two Plan.leaf Plan.leaf)) (Plan.one Plan.leaf)))) Plan.leaf))))) Plan.leaf)))))) (Plan.two Plan.leaf Plan.leaf)))))
theorem Try.s105 {params1p : Option Addr} {params1l : Nat} {params1c : Nat} {H : Heap} {R : Value → Heap → Prop} (h : Try.S105 params1p params1l params1c H R) : CallsH Try.prog 105 #[Value.slice params1p params1l params1c] H R :=
  vcFun_sound Try.tab_ok Try.mixed Try.func105 Try.cal105 (p := Try.p105) (args := [Value.slice params1p params1l params1c]) (Eq.mp (by kernel_rfl : Try.S105 params1p params1l params1c H R = vcFun Try.prog Try.tab Try.f105 Try.p105 [Value.slice params1p params1l params1c] H R) h)

/-- scumble/scumbleref10.part -/
def Try.S106 (v1 : Int) (c2 : Int) (H : Heap) (R : Value → Heap → Prop) : Prop :=
 0 ≤ (IntKind.wrap .i64 ((24 : Int) - (IntKind.wrap .i64 ((8 : Int) * c2)))) ∧ (256 : Int) ≠ 0 ∧ R (Value.int .i64 (Int.tmod (shrI .i64 v1 (IntKind.wrap .i64 ((24 : Int) - (IntKind.wrap .i64 ((8 : Int) * c2))))) (256 : Int))) H
def Try.p106 : Plan := (Plan.two Plan.leaf (Plan.two Plan.leaf Plan.leaf))
theorem Try.s106 {v1 : Int} {c2 : Int} {H : Heap} {R : Value → Heap → Prop} (h : Try.S106 v1 c2 H R) : CallsH Try.prog 106 #[Value.int .i64 v1, Value.int .i64 c2] H R :=
  vcFun_sound Try.tab_ok Try.mixed Try.func106 Try.cal106 (p := Try.p106) (args := [Value.int .i64 v1, Value.int .i64 c2]) (Eq.mp (by kernel_rfl : Try.S106 v1 c2 H R = vcFun Try.prog Try.tab Try.f106 Try.p106 [Value.int .i64 v1, Value.int .i64 c2] H R) h)

/-- scumble/scumbleref10.Down -/
def Try.S109 (n1 : Int) (m2 : Int) (H : Heap) (R : Value → Heap → Prop) : Prop :=
 m2 ≠ 0 ∧ ∀ J_3 : List Value → Heap → Prop, (∀ r4 : Int, ∀ H_5 : Heap, (m2 ≠ 0 ∧ R (Value.int .i64 (IntKind.wrap .i64 (Int.tdiv (IntKind.wrap .i64 (n1 - r4)) m2))) H_5) → J_3 [Value.int .i64 r4] H_5) →
 br (decide (((Int.tmod n1 m2) : Int) < (0 : Int)))
 (J_3 [Value.int .i64 (IntKind.wrap .i64 ((Int.tmod n1 m2) + m2))] H)
 (J_3 [Value.int .i64 (Int.tmod n1 m2)] H)
def Try.p109 : Plan := (Plan.two Plan.leaf (Plan.two Plan.leaf (Plan.two (Plan.join [(5, 3)] [0, 1] (Plan.two Plan.leaf (Plan.two Plan.leaf Plan.leaf))) (Plan.two Plan.leaf Plan.leaf))))
theorem Try.s109 {n1 : Int} {m2 : Int} {H : Heap} {R : Value → Heap → Prop} (h : Try.S109 n1 m2 H R) : CallsH Try.prog 109 #[Value.int .i64 n1, Value.int .i64 m2] H R :=
  vcFun_sound Try.tab_ok Try.mixed Try.func109 Try.cal109 (p := Try.p109) (args := [Value.int .i64 n1, Value.int .i64 m2]) (Eq.mp (by kernel_rfl : Try.S109 n1 m2 H R = vcFun Try.prog Try.tab Try.f109 Try.p109 [Value.int .i64 n1, Value.int .i64 m2] H R) h)

/-- (scumble/lasso.Point).right -/
def Try.S112 (p1 : Array Value) (H : Heap) (R : Value → Heap → Prop) : Prop :=
 alc H (.cells p1 79) fun b2 H_3 => ∃ X_4 : Int, cell H_3 (Addr.add ⟨b2, 0, none⟩ 0) = some (Value.int .i64 X_4) ∧ br (decide ((X_4 : Int) ≥ (-1048576 : Int))) (∃ X_5 : Int, cell H_3 (Addr.add ⟨b2, 0, none⟩ 0) = some (Value.int .i64 X_5) ∧ br (decide ((X_5 : Int) ≤ (1048576 : Int))) (∃ Y6 : Int, cell H_3 (Addr.add ⟨b2, 0, none⟩ 1) = some (Value.int .i64 Y6) ∧ br (decide ((Y6 : Int) ≥ (-1048576 : Int))) (∃ Y7 : Int, cell H_3 (Addr.add ⟨b2, 0, none⟩ 1) = some (Value.int .i64 Y7) ∧ R (Value.bool (decide ((Y7 : Int) ≤ (1048576 : Int)))) H_3) (R (Value.bool false) H_3)) (R (Value.bool false) H_3)) (R (Value.bool false) H_3)
def Try.p112 : Plan := (Plan.two Plan.leaf (Plan.two Plan.leaf Plan.leaf))
theorem Try.s112 {p1 : Array Value} {H : Heap} {R : Value → Heap → Prop} (h : Try.S112 p1 H R) : CallsH Try.prog 112 #[Value.agg p1] H R :=
  vcFun_sound Try.tab_ok Try.mixed Try.func112 Try.cal112 (p := Try.p112) (args := [Value.agg p1]) (Eq.mp (by kernel_rfl : Try.S112 p1 H R = vcFun Try.prog Try.tab Try.f112 Try.p112 [Value.agg p1] H R) h)

/-- (scumble/lasso.Point).number -/
def Try.S113 (p1 : Array Value) (H : Heap) (R : Value → Heap → Prop) : Prop :=
 alc H (.cells p1 79) fun b2 H_3 => ∃ X_4 : Int, cell H_3 (Addr.add ⟨b2, 0, none⟩ 0) = some (Value.int .i64 X_4) ∧ ∃ Y5 : Int, cell H_3 (Addr.add ⟨b2, 0, none⟩ 1) = some (Value.int .i64 Y5) ∧ (FloatKind.f64 = FloatKind.f64 ∧ R (Value.complex .f64 (floatOfInt .f64 X_4) (floatOfInt .f64 Y5)) H_3)
def Try.p113 : Plan := (Plan.two Plan.leaf (Plan.two Plan.leaf Plan.leaf))
theorem Try.s113 {p1 : Array Value} {H : Heap} {R : Value → Heap → Prop} (h : Try.S113 p1 H R) : CallsH Try.prog 113 #[Value.agg p1] H R :=
  vcFun_sound Try.tab_ok Try.mixed Try.func113 Try.cal113 (p := Try.p113) (args := [Value.agg p1]) (Eq.mp (by kernel_rfl : Try.S113 p1 H R = vcFun Try.prog Try.tab Try.f113 Try.p113 [Value.agg p1] H R) h)

/-- scumble/lasso.cross -/
def Try.S114 (a1r : Nat) (a1i : Nat) (b2r : Nat) (b2i : Nat) (H : Heap) (R : Value → Heap → Prop) : Prop :=
 (FloatKind.f64 = FloatKind.f64 ∧ (FloatKind.f64 = FloatKind.f64 ∧ FloatKind.f64 = FloatKind.f64 ∧ ∃ re3 im4 : Nat, cMulBits a1r (Op.negFloat .f64 a1i) b2r b2i = some (re3, im4) ∧ R (Value.float .f64 im4) H))
def Try.p114 : Plan := (Plan.two Plan.leaf (Plan.two Plan.leaf Plan.leaf))
theorem Try.s114 {a1r : Nat} {a1i : Nat} {b2r : Nat} {b2i : Nat} {H : Heap} {R : Value → Heap → Prop} (h : Try.S114 a1r a1i b2r b2i H R) : CallsH Try.prog 114 #[Value.complex .f64 a1r a1i, Value.complex .f64 b2r b2i] H R :=
  vcFun_sound Try.tab_ok Try.mixed Try.func114 Try.cal114 (p := Try.p114) (args := [Value.complex .f64 a1r a1i, Value.complex .f64 b2r b2i]) (Eq.mp (by kernel_rfl : Try.S114 a1r a1i b2r b2i H R = vcFun Try.prog Try.tab Try.f114 Try.p114 [Value.complex .f64 a1r a1i, Value.complex .f64 b2r b2i] H R) h)

/-- scumble/affine.floor -/
def Try.S115 (n1 : Int) (m2 : Int) (H : Heap) (R : Value → Heap → Prop) : Prop :=
 m2 ≠ 0 ∧ ∀ J_3 : List Value → Heap → Prop, (∀ q4 : Int, ∀ H_5 : Heap, (R (Value.int .i64 q4) H_5) → J_3 [Value.int .i64 q4] H_5) →
 m2 ≠ 0 ∧ br (((Int.tmod n1 m2) : Int) != (0 : Int)) (br (!((decide ((n1 : Int) < (0 : Int))) == (decide ((m2 : Int) < (0 : Int)))))
 (J_3 [Value.int .i64 (IntKind.wrap .i64 ((IntKind.wrap .i64 (Int.tdiv n1 m2)) - (1 : Int)))] H)
 (J_3 [Value.int .i64 (IntKind.wrap .i64 (Int.tdiv n1 m2))] H)) (J_3 [Value.int .i64 (IntKind.wrap .i64 (Int.tdiv n1 m2))] H)
def Try.p115 : Plan := (Plan.two Plan.leaf (Plan.two Plan.leaf (Plan.two (Plan.join [(5, 3)] [] (Plan.two Plan.leaf (Plan.two Plan.leaf Plan.leaf))) (Plan.two Plan.leaf Plan.leaf))))
theorem Try.s115 {n1 : Int} {m2 : Int} {H : Heap} {R : Value → Heap → Prop} (h : Try.S115 n1 m2 H R) : CallsH Try.prog 115 #[Value.int .i64 n1, Value.int .i64 m2] H R :=
  vcFun_sound Try.tab_ok Try.mixed Try.func115 Try.cal115 (p := Try.p115) (args := [Value.int .i64 n1, Value.int .i64 m2]) (Eq.mp (by kernel_rfl : Try.S115 n1 m2 H R = vcFun Try.prog Try.tab Try.f115 Try.p115 [Value.int .i64 n1, Value.int .i64 m2] H R) h)

end Go.Proofs

/-
  The functions, all.
-/

/-
  OWN WORK. Layers are copied, counted; how deep they stand.
-/
set_option linter.unusedVariables false
set_option linter.unusedSimpArgs false
set_option maxRecDepth 10000
namespace Go.Proofs
open Go.Sh

mutual
def okL : Lay → Prop
  | .mk f ks => f.p.length ≤ 1000000000 ∧ f.mask.length ≤ 1000000000 ∧ f.params.length ≤ 1000000000 ∧ ks.length ≤ 1000000000 ∧ okKs ks
def okKs : List Lay → Prop
  | [] => True
  | t :: ts => okL t ∧ okKs ts
end
mutual
def cntL : Lay → Nat
  | .mk _ ks => 1 + cntKs ks
def cntKs : List Lay → Nat
  | [] => 0
  | t :: ts => cntL t + cntKs ts
end
mutual
def depL : Lay → Nat
  | .mk _ ks => 1 + depKs ks
def depKs : List Lay → Nat
  | [] => 0
  | t :: ts => max (depL t) (depKs ts)
end
theorem okKs_iff : ∀ {ts : List Lay}, okKs ts ↔ ∀ t ∈ ts, okL t
  | [] => ⟨fun _ _ h => (by cases h), fun _ => trivial⟩
  | t :: ts => by
    rw [okKs, okKs_iff]
    simp only [List.forall_mem_cons]
theorem okL.kids {t : Lay} (h : okL t) : okKs t.kids ∧ t.kids.length ≤ 1000000000 := by
  cases t; rw [okL] at h; exact ⟨h.2.2.2.2, h.2.2.2.1⟩

theorem cntL_pos (t : Lay) : 1 ≤ cntL t := by cases t; rw [cntL]; omega
theorem len_cnt : ∀ ts : List Lay, ts.length ≤ cntKs ts
  | [] => Nat.le_refl _
  | t :: ts => by have := len_cnt ts; have := cntL_pos t; rw [cntKs, List.length_cons]; omega
theorem dep_cntKs : ∀ {ts : List Lay}, (∀ t ∈ ts, depL t ≤ cntL t) → depKs ts ≤ cntKs ts
  | [], _ => Nat.le_refl _
  | t :: ts, h => by
    have h1 := h t List.mem_cons_self
    have h2 := dep_cntKs fun u hu => h u (List.mem_cons_of_mem _ hu)
    rw [depKs, cntKs]; omega
theorem dep_cntL : ∀ t, depL t ≤ cntL t := Lay.ind fun f ks ih => by
  have := dep_cntKs ih
  rw [depL, cntL]; omega
theorem dep_cnt (ts : List Lay) : depKs ts ≤ cntKs ts := dep_cntKs fun t _ => dep_cntL t
theorem cnt_mem : ∀ {ts : List Lay} {t : Lay}, t ∈ ts → cntL t ≤ cntKs ts
  | u :: ts, t, h => by
    rw [cntKs]
    rcases List.mem_cons.1 h with rfl | h
    · omega
    · have := cnt_mem h; omega
theorem cntKs_app (a b : List Lay) : cntKs (a ++ b) = cntKs a + cntKs b := by
  induction a with
  | nil => simp [cntKs]
  | cons t a ih => rw [List.cons_append, cntKs, ih, cntKs]; omega
theorem depKs_app (a b : List Lay) : depKs (a ++ b) = max (depKs a) (depKs b) := by
  induction a with
  | nil => simp [depKs]
  | cons t a ih => rw [List.cons_append, depKs, ih, depKs]; omega

theorem setL_all {cs l : List Value} (h : l.length = cs.length) : setL cs 0 l = l := by simp [setL, h]

variable {H0 H : Heap} {R : Value → Heap → Prop}

theorem c82 {p : Option Addr} {l c : Nat} {xs : List Int} (h : IS H p l (ints xs)) (hl : xs.length ≤ 1000000000) (hR : ∀ (q : Sl3) H', St H H' [.sl q.p q.l q.c 3 1 (ints xs)] → R q.v H') :
    CallsH Try.prog 82 #[.slice p l c] H R := by
  have hlen := h.length
  refine Try.s82 (br_none (fun hp => ?_) fun a hp => ?_)
  · subst hp
    have : xs = [] := List.eq_nil_iff_forall_not_mem.2 fun v hv => by
      obtain ⟨i, hi⟩ := List.getElem?_of_mem hv
      obtain ⟨a, h1, _⟩ := h.get i _ (ints_get hi)
      cases h1
    subst this
    exact hR .nil H ((St.nil H).nilSl _ _)
  · refine (St.nil H).alcE fun b2 H3 he hs => ?_
    have hs := hs.toSl 0 (l := 0) (k := 1) (fs := []) rfl rfl rfl (by simp)
    refine hs.appI 0 rfl (h.ext he) (ints_one xs) rfl (by omega) (by omega) fun p' c' H' hs' => ?_
    rw [Nat.zero_add] at hs' ⊢
    exact hR ⟨p', l, c'⟩ H' hs'

theorem c83 {p : Option Addr} {l c : Nat} {xs : List Int} (h : IS H p l (kints .u8 xs)) (hl : xs.length ≤ 1000000000) (hR : ∀ (q : Sl3) H', St H H' [.sl q.p q.l q.c 5 1 (kints .u8 xs)] → R q.v H') :
    CallsH Try.prog 83 #[.slice p l c] H R := by
  have hlen := h.length
  refine Try.s83 (br_none (fun hp => ?_) fun a hp => ?_)
  · subst hp
    have : xs = [] := List.eq_nil_iff_forall_not_mem.2 fun v hv => by
      obtain ⟨i, hi⟩ := List.getElem?_of_mem hv
      obtain ⟨a, h1, _⟩ := h.get i _ (kints_get hi)
      cases h1
    subst this
    exact hR .nil H ((St.nil H).nilSl _ _)
  · refine (St.nil H).alcE fun b2 H3 he hs => ?_
    have hs := hs.toSl 0 (l := 0) (k := 1) (fs := []) rfl rfl rfl (by simp)
    refine hs.appI 0 rfl (h.ext he) (kints_one .u8 xs) rfl (by omega) (by omega) fun p' c' H' hs' => ?_
    rw [Nat.zero_add] at hs' ⊢
    exact hR ⟨p', l, c'⟩ H' hs'

def CopyOk (t : T) : Prop := ∀ {H : Heap} {R : Value → Heap → Prop}, rdT H t → okL (layT t) → (∀ t' H', layT t' = layT t → St H H' (resT t') → R (.agg (cellsT t').toArray) H') → CallsH Try.prog 52 #[.agg (cellsT t).toArray] H R

theorem all_of {ks : List T} (ih : ∀ t ∈ ks, CopyOk t) {K : Sl3} (hg : grp H K ks) (ho : okKs (layKs ks)) (hl : ks.length ≤ 1000000000) (hR : ∀ (K' : Sl3) ks' H', layKs ks' = layKs ks → St H H' (resG K' ks') → R K'.v H') :
    CallsH Try.prog 39 #[K.v] H R := by
  show CallsH Try.prog 39 #[.slice K.p K.l K.c] H R
  refine Try.s39 ?_
  unfold Try.S39
  intro X hX
  have hKl := hg.1.1
  have go : ∀ k, k ≤ ks.length → ∀ p c H1 (built : List T), layKs built = (layKs ks).take k → St H H1 (.sl p k c 58 19 (cellsKs built) :: resKs built) → X [.slice p k c, .int .i64 k] H1 := by
    refine upto fun k hk ihk p c H1 built hb hs => hX _ _ _ _ _ (br_dec (fun hlt => ?_) fun hge => ?_)
    · have hk' : k < ks.length := by omega
      have ht := List.getElem?_eq_getElem hk'
      obtain ⟨a, h1, h2, h3⟩ := (hg.ext hs.ext).get ht
      refine ⟨a, h1, by omega, hlt, (cellsT ks[k]).toArray, by simp [cellsT_len], h2, hs.alcE fun b8 H9 he9 hs9 => ⟨by simp [cellsT_len], hs9.putAll 0 rfl (by simp [cellsT_len]) (by simpa using cellsT_one _) fun H10 hs10 => ?_⟩⟩
      refine ⟨_, ?_, rowIn_whole (hs10.block 0 rfl), ?_⟩
      · simp [cellsT_len]
      refine ih ks[k] (List.getElem_mem hk') (rdT.ext (hs10.ext) _ (rdKs_iff.1 hg.2 _ (List.getElem_mem hk'))) (okKs_iff.1 ho _ (by rw [layKs_map]; exact List.mem_map_of_mem (List.getElem_mem hk'))) fun t' H13 hlay hs13 => ?_
      refine ⟨_, rfl, by simp [cellsT_len], by decide, ?_⟩
      rw [setL_all (by simp [cellsT_len])]
      refine (hs10.callR hs13).alc fun b15 H16 hs16 => ?_
      refine hs16.appC 2 0 rfl rfl (by simp [cellsT_len]) (by simpa using cellsT_one _) (by decide) rfl (by omega) (by omega) fun p' c' H18 hs18 => ?_
      rw [wrap_id (by omega) (by omega)]
      refine ihk hk' p' c' H18 (built ++ [t']) ?_ ?_
      · rw [layKs_app, hb, layKs_map [t'], List.take_add_one]
        have : (layKs ks)[k]? = some (layT ks[k]) := by rw [layKs_map, List.getElem?_map, ht]; rfl
        rw [this, ← hlay]; rfl
      · rw [cellsKs_app, cellsKs_one, resKs_app, resKs_one]
        exact hs18.drop 2
    · have : k = ks.length := by omega
      subst this
      rw [List.take_of_length_le (by rw [layKs_len]; exact Nat.le_refl _)] at hb
      exact hR ⟨p, ks.length, c⟩ built H1 hb hs
  exact go 0 (by omega) none 0 H [] rfl ((St.nil H).nilSl _ _)

theorem c52 : ∀ t, CopyOk t := by
  refine T.ind fun f P M A K ks ih => ?_
  intro H R hr ho hR
  rw [rdT] at hr
  obtain ⟨hP, hM, hA, hK, hks⟩ := hr
  have ho' := ho
  rw [layT, okL] at ho'
  obtain ⟨o1, o2, o3, o4, o5⟩ := ho'
  refine Try.s52 ?_
  unfold Try.S52
  refine (St.nil H).alcE fun b2 H1 he1 hs1 => hs1.alcE fun b4 H2 he2 hs2 => ?_
  refine ⟨_, _, _, hs2.get 1 rfl rfl, _, _, _, hs2.get 1 rfl rfl, _, _, _, hs2.get 1 rfl rfl, ?_⟩
  refine c82 (hP.ext hs2.ext) o1 fun P' H3 hp3 => ⟨_, _, _, rfl, .inl hp3.ext, ?_⟩
  have hs3 := hs2.callR hp3
  refine c83 (hM.ext hs3.ext) o2 fun M' H4 hp4 => ⟨_, _, _, rfl, .inl hp4.ext, ?_⟩
  have hs4 := hs3.callR hp4
  refine c82 (hA.ext hs4.ext) o3 fun A' H5 hp5 => ⟨_, _, _, rfl, ?_⟩
  have hs5 := hs4.callR hp5
  refine hs5.put 1 rfl (j := 7) (Nat.le_of_ble_eq_true rfl) rfl fun H6 hs6 => hs6.put 1 rfl (j := 8) (Nat.le_of_ble_eq_true rfl) rfl fun H7 hs7 => hs7.put 1 rfl (j := 17) (Nat.le_of_ble_eq_true rfl) rfl fun H8 hs8 => ?_
  refine ⟨_, _, _, hs8.get 1 rfl (j := 18) rfl, ?_⟩
  refine all_of ih (K := K) (grp.ext ⟨hK, hks⟩ hs8.ext) o5 (by rw [layKs_len] at o4; exact o4) fun K' ks' H9 hlay hp9 => ⟨_, _, _, rfl, ?_⟩
  have hs9 := hs8.callR hp9
  refine hs9.put 1 rfl (j := 18) (Nat.le_of_ble_eq_true rfl) rfl fun H10 hs10 => ?_
  refine ⟨_, ?_, rowIn_whole (hs10.block 1 rfl), ?_, ?_⟩
  · rfl
  · rfl
  refine hs10.putAll 0 rfl rfl (cellsL_one f P' M' A' K') fun H11 hs11 => ⟨_, rfl, rowIn_whole (hs11.block 0 rfl), ?_⟩
  refine hR (.mk f P' M' A' K' ks') H11 (by rw [layT, layT, hlay]) ?_
  rw [resT_mk]
  exact hs11.drop 2
theorem c39 {K : Sl3} {ks : List T} (hg : grp H K ks) (ho : okKs (layKs ks)) (hl : ks.length ≤ 1000000000) (hR : ∀ (K' : Sl3) ks' H', layKs ks' = layKs ks → St H H' (resG K' ks') → R K'.v H') :
    CallsH Try.prog 39 #[K.v] H R := all_of (fun t _ => c52 t) hg ho hl hR

end Go.Proofs

/-
  OWN WORK. Layers are counted; how deep they stand; a layer is found.
-/
set_option linter.unusedVariables false
set_option linter.unusedSimpArgs false
set_option maxRecDepth 10000
namespace Go.Proofs
open Go.Sh
variable {H0 H : Heap} {R : Value → Heap → Prop}

theorem cellsT_0 (t : T) : (cellsT t).toArray[0]? = some (.int .i64 t.f.id) := by cases t; rfl
theorem cellsT_18 (t : T) : (cellsT t).toArray[18]? = some (.slice t.K.p t.K.l t.K.c) := by cases t; rfl
def CntOk (t : T) : Prop := ∀ {H : Heap} {R : Value → Heap → Prop}, rdT H t → cntKs (layKs t.kids) ≤ 1000000000000 → (∀ H', Ext H H' → R (.int .i64 (cntKs (layKs t.kids))) H') → CallsH Try.prog 53 #[t.K.v] H R

theorem take_succ {α : Type} {l : List α} {k : Nat} {x : α} (h : l[k]? = some x) : l.take (k + 1) = l.take k ++ [x] := by rw [List.take_add_one, h]; rfl
theorem layKs_get {ks : List T} {k : Nat} {t : T} (h : ks[k]? = some t) : (layKs ks)[k]? = some (layT t) := by rw [layKs_map, List.getElem?_map, h]; rfl
theorem cntL_T (t : T) : cntL (layT t) = 1 + cntKs (layKs t.kids) := by cases t; rfl
theorem depL_T (t : T) : depL (layT t) = 1 + depKs (layKs t.kids) := by cases t; rfl
theorem cnt_take (ts : List Lay) (k : Nat) : cntKs (ts.take k) ≤ cntKs ts := by
  have := cntKs_app (ts.take k) (ts.drop k)
  rw [List.take_append_drop] at this; omega
theorem cnt_of {ks : List T} (ih : ∀ t ∈ ks, CntOk t) {K : Sl3} (hg : grp H K ks) (ho : cntKs (layKs ks) ≤ 1000000000000) (hR : ∀ H', Ext H H' → R (.int .i64 (cntKs (layKs ks))) H') :
    CallsH Try.prog 53 #[K.v] H R := by
  show CallsH Try.prog 53 #[.slice K.p K.l K.c] H R
  refine Try.s53 ?_
  unfold Try.S53
  intro X hX
  have hKl := hg.1.1
  have hlc := len_cnt (layKs ks)
  rw [layKs_len] at hlc
  have go : ∀ k, k ≤ ks.length → ∀ (n : Int) H1, n + k = ks.length + cntKs ((layKs ks).take k) → Ext H H1 → X [.int .i64 n, .int .i64 k] H1 := by
    refine upto fun k hk ihk n H1 hn he => hX _ _ _ (br_dec (fun hlt => ?_) fun hge => ?_)
    · have hk' : k < ks.length := by omega
      have ht := List.getElem?_eq_getElem hk'
      have htm := List.getElem_mem hk'
      generalize ks[k] = t at ht htm
      obtain ⟨a, h1, h2, h3⟩ := (hg.ext he).get ht
      have hcm := cnt_mem (List.mem_of_getElem? (layKs_get ht))
      rw [cntL_T] at hcm
      refine ⟨a, h1, by omega, hlt, (cellsT t).toArray, by simp [cellsT_len], h2, (St.nil H1).alc fun b8 H9 hs9 => ⟨by simp [cellsT_len], hs9.putAll 0 rfl (by simp [cellsT_len]) (by simpa using cellsT_one _) fun H10 hs10 => ?_⟩⟩
      refine ⟨_, _, _, hs10.get 0 rfl (j := 18) (cellsT_18 t), ?_⟩
      refine ih t htm (rdT.ext (he.trans hs10.ext) _ (rdKs_iff.1 hg.2 _ htm)) (by omega) fun H13 he13 => ⟨_, rfl, ?_⟩
      have hts := cntKs_app ((layKs ks).take k) [layT t]
      rw [← take_succ (layKs_get ht), cntKs, cntKs, Nat.add_zero, cntL_T] at hts
      have hle := cnt_take (layKs ks) (k + 1)
      rw [wrap_id (n := n + _) (by omega) (by omega), wrap_id (n := (k : Int) + 1) (by omega) (by omega)]
      exact ihk hk' _ _ (by omega) (he.trans (hs10.ext.trans he13))
    · have : k = ks.length := by omega
      subst this
      rw [List.take_of_length_le (by rw [layKs_len]; exact Nat.le_refl _)] at hn
      have : n = cntKs (layKs ks) := by omega
      subst this
      exact hR H1 he
  have h0 := go 0 (by omega) ks.length H (by simp [cntKs]) (Ext.refl H)
  rw [← hKl] at h0
  exact h0
theorem cnt_all : ∀ t, CntOk t := T.ind fun f P M A K ks ih => fun {H R} hr ho hR => cnt_of ih (rdT.grp hr) ho hR
theorem c53 {K : Sl3} {ks : List T} (hg : grp H K ks) (ho : cntKs (layKs ks) ≤ 1000000000000) (hR : ∀ H', Ext H H' → R (.int .i64 (cntKs (layKs ks))) H') :
    CallsH Try.prog 53 #[K.v] H R := cnt_of (fun t _ => cnt_all t) hg ho hR

def DepOk (t : T) : Prop := ∀ {H : Heap} {R : Value → Heap → Prop}, rdT H t → cntKs (layKs t.kids) ≤ 1000000000000 → (∀ H', Ext H H' → R (.int .i64 (depKs (layKs t.kids))) H') → CallsH Try.prog 54 #[t.K.v] H R
theorem dep_of {ks : List T} (ih : ∀ t ∈ ks, DepOk t) {K : Sl3} (hg : grp H K ks) (ho : cntKs (layKs ks) ≤ 1000000000000) (hR : ∀ H', Ext H H' → R (.int .i64 (depKs (layKs ks))) H') :
    CallsH Try.prog 54 #[K.v] H R := by
  show CallsH Try.prog 54 #[.slice K.p K.l K.c] H R
  refine Try.s54 ?_
  unfold Try.S54
  intro X hX
  have hKl := hg.1.1
  have hlc := len_cnt (layKs ks)
  rw [layKs_len] at hlc
  have go : ∀ k, k ≤ ks.length → ∀ H1, Ext H H1 → X [.int .i64 (depKs ((layKs ks).take k)), .int .i64 k] H1 := by
    refine upto fun k hk ihk H1 he => hX _ _ _ (br_dec (fun hlt => ?_) fun hge => ?_)
    · have hk' : k < ks.length := by omega
      have ht := List.getElem?_eq_getElem hk'
      have htm := List.getElem_mem hk'
      generalize ks[k] = t at ht htm
      obtain ⟨a, h1, h2, h3⟩ := (hg.ext he).get ht
      have hcm := cnt_mem (List.mem_of_getElem? (layKs_get ht))
      rw [cntL_T] at hcm
      refine ⟨a, h1, by omega, hlt, (cellsT t).toArray, by simp [cellsT_len], h2, (St.nil H1).alc fun b8 H9 hs9 => ⟨by simp [cellsT_len], hs9.putAll 0 rfl (by simp [cellsT_len]) (by simpa using cellsT_one _) fun H10 hs10 => ?_⟩⟩
      refine ⟨_, _, _, hs10.get 0 rfl (j := 18) (cellsT_18 t), ?_⟩
      refine ih t htm (rdT.ext (he.trans hs10.ext) _ (rdKs_iff.1 hg.2 _ htm)) (by omega) fun H13 he13 => ⟨_, rfl, ?_⟩
      have hts := depKs_app ((layKs ks).take k) [layT t]
      rw [← take_succ (layKs_get ht), depKs, depKs, depL_T] at hts
      have hd := dep_cnt (layKs t.kids)
      rw [wrap_id (n := 1 + _) (by omega) (by omega), wrap_id (n := (k : Int) + 1) (by omega) (by omega)]
      have := ihk hk' _ (he.trans (hs10.ext.trans he13))
      rw [hts] at this
      have e : ((max (depKs ((layKs ks).take k)) (max (1 + depKs (layKs t.kids)) 0) : Nat) : Int) = max (depKs ((layKs ks).take k) : Int) (1 + (depKs (layKs t.kids) : Int)) := by omega
      rw [e] at this
      exact this
    · have : k = ks.length := by omega
      subst this
      rw [List.take_of_length_le (by rw [layKs_len]; exact Nat.le_refl _)]
      exact hR H1 he
  exact go 0 (by omega) H (Ext.refl H)
theorem dep_all : ∀ t, DepOk t := T.ind fun f P M A K ks ih => fun {H R} hr ho hR => dep_of ih (rdT.grp hr) ho hR
theorem c54 {K : Sl3} {ks : List T} (hg : grp H K ks) (ho : cntKs (layKs ks) ≤ 1000000000000) (hR : ∀ H', Ext H H' → R (.int .i64 (depKs (layKs ks))) H') :
    CallsH Try.prog 54 #[K.v] H R := dep_of (fun t _ => dep_all t) hg ho hR

def sizedB (w h : Int) : Bool := decide (1 ≤ w ∧ 1 ≤ h ∧ w ≤ 32768 ∧ h ≤ 32768 ∧ w * h ≤ 4194304)
def docA (w h next : Int) (K : Sl3) : Array Value := #[.int .i64 w, .int .i64 h, .int .i64 next, K.v]
theorem wrap_area {w h : Int} (h1 : 1 ≤ w) (h2 : 1 ≤ h) (h3 : w ≤ 32768) (h4 : h ≤ 32768) : IntKind.wrap .i64 (w * h) = w * h := by
  have := mul_bd (x := w) (y := h) (A := 32768) (B := 32768) (by omega) (by omega)
  exact wrap_id (by omega) (by omega)
theorem c13 {w h : Int} (hR1 : sizedB w h = true → ∀ H', Ext H H' → R (.tuple #[.agg (docA w h 1 .nil), .int .i64 0]) H') (hR2 : sizedB w h = false → ∀ H', Ext H H' → R (.tuple #[.agg (docA 0 0 0 .nil), .int .i64 31]) H') :
    CallsH Try.prog 13 #[.int .i64 w, .int .i64 h] H R := by
  refine Try.s13 ?_
  unfold Try.S13
  refine (St.nil H).alc fun b3 H4 hs4 => ?_
  intro J hJ
  have bad : sizedB w h = false → (#[Value.int .i64 0, Value.int .i64 0, Value.int .i64 0, Value.slice none 0 0].size = 4 ∧ stAt H4 ⟨b3, 0, none⟩ (Array.toList #[Value.int .i64 0, Value.int .i64 0, Value.int .i64 0, Value.slice none 0 0]) fun H_9 => ∃ res10 : Array Value, res10.size = 4 ∧ rowIn H_9 ⟨b3, 0, none⟩ res10 ∧ R (Value.tuple #[Value.agg res10, Value.int .i64 (31 : Int)]) H_9) := fun hb =>
    ⟨rfl, hs4.putAll 0 rfl rfl (by simp [Value.oneCell']) fun H5 hs5 => ⟨_, rfl, rowIn_whole (hs5.block 0 rfl), hR2 hb H5 hs5.ext⟩⟩
  refine br_dec (fun c1 => bad ?_) fun c1 => br_dec (fun c2 => bad ?_) fun c2 => br_dec (fun c3 => bad ?_) fun c3 => br_dec (fun c4 => bad ?_) fun c4 => ?_
  · exact decide_eq_false (by omega)
  · exact decide_eq_false (by omega)
  · exact decide_eq_false (by omega)
  · exact decide_eq_false (by omega)
  rw [wrap_area (by omega) (by omega) (by omega) (by omega)]
  refine br_dec (fun c5 => bad ?_) fun c5 => hJ _ ?_
  · exact decide_eq_false (by omega)
  refine ⟨rfl, hs4.putAll 0 rfl rfl (by simp [Value.oneCell']) fun H5 hs5 => ⟨_, rfl, rowIn_whole (hs5.block 0 rfl), hR1 ?_ H5 hs5.ext⟩⟩
  exact decide_eq_true ⟨by omega, by omega, by omega, by omega, by omega⟩

/-- A layer's place: the group's slice, what stands ahead, itself, what stands behind. -/
structure Fr where
  hdr : Sl3
  pre : List T
  f : LayF
  P : Sl3
  M : Sl3
  A : Sl3
  post : List T
def Fr.ad (fr : Fr) : Option Addr := fr.hdr.p.map fun a => a.add (fr.pre.length * 19)
abbrev Z := List Fr × Sl3 × List T
mutual
def fzT (up : List Fr) (K : Sl3) (pre post : List T) (id : Int) : T → Option Z
  | .mk f P M A K' ks => if f.id = id then some (⟨K, pre, f, P, M, A, post⟩ :: up, K', ks) else fzK (⟨K, pre, f, P, M, A, post⟩ :: up) K' [] id ks
def fzK (up : List Fr) (K : Sl3) (pre : List T) (id : Int) : List T → Option Z
  | [] => none
  | t :: ts => match fzT up K pre ts id t with
    | some z => some z
    | none => fzK up K (pre ++ [t]) id ts
end
/-- What find answers. -/
def resZ : Option Z → Option Addr × Option Addr × Int
  | some (fr1 :: fr2 :: _, _, _) => (fr1.ad, fr2.ad, fr1.pre.length)
  | _ => (none, none, 0)

def FindOk (id : Int) (t : T) : Prop := ∀ {H : Heap} {R : Value → Heap → Prop} {fr : Fr} {up : List Fr} {a : Addr}, fr.ad = some a → rowIn H a (cellsT t).toArray → rdT H t → cntKs (layKs t.kids) ≤ 1000000000000 →
  (∀ H', Ext H H' → (∀ z, fzK (fr :: up) t.K [] id t.kids = some z → (resZ (some z)).1 ≠ none) →
    R (.tuple #[.pointer (resZ (fzK (fr :: up) t.K [] id t.kids)).1, .pointer (resZ (fzK (fr :: up) t.K [] id t.kids)).2.1, .int .i64 (resZ (fzK (fr :: up) t.K [] id t.kids)).2.2]) H') → CallsH Try.prog 51 #[.pointer (some a), .int .i64 id] H R

theorem c51 {id : Int} : ∀ t, FindOk id t := by
  refine T.ind fun f P M A K ks ih => ?_
  intro H R fr up a hfa hrow hr ho hR
  have hg := rdT.grp hr
  have hKl := hg.1.1
  have hlc := len_cnt (layKs ks)
  rw [layKs_len] at hlc
  simp only [T.K, T.kids] at hg hKl ho hR
  refine Try.s51 ?_
  unfold Try.S51
  have hcell : ∀ {H1 : Heap}, Ext H H1 → Sh.cell H1 (a.add 18) = some (.slice K.p K.l K.c) := fun he => he.cell (hrow 18 _ rfl)
  refine ⟨a, rfl, _, _, _, hcell (Ext.refl H), ?_⟩
  intro X hX
  have go : ∀ k, k ≤ ks.length → ∀ H1, Ext H H1 → fzK (fr :: up) K [] id ks = fzK (fr :: up) K (ks.take k) id (ks.drop k) → X [.int .i64 k] H1 := by
    refine upto fun k hk ihk H1 he hz => hX _ _ (br_dec (fun hlt => ?_) fun hge => ?_)
    · have hk' : k < ks.length := by omega
      have ht := List.getElem?_eq_getElem hk'
      have htm := List.getElem_mem hk'
      rw [List.drop_eq_getElem_cons hk'] at hz
      generalize ks[k] = t at ht htm hz
      obtain ⟨b, h1, h2, h3⟩ := (hg.ext he).get ht
      have hcm := cnt_mem (List.mem_of_getElem? (layKs_get ht))
      rw [cntL_T] at hcm
      have hlen : (ks.take k).length = k := by rw [List.length_take]; omega
      refine ⟨a, rfl, _, _, _, hcell he, b, h1, by omega, hlt, _, rfl, t.f.id, h2 0 _ (cellsT_0 t), br_eq (fun hid => ?_) fun hid => ?_⟩
      · have e : fzK (fr :: up) K [] id ks = some (⟨K, ks.take k, t.f, t.P', t.M', t.A', ks.drop (k + 1)⟩ :: fr :: up, t.K, t.kids) := by
          rw [hz, fzK]
          cases t with | mk f2 P2 M2 A2 K2 ks2 =>
          rw [fzT, if_pos (show f2.id = id from hid)]
          rfl
        have := hR H1 he fun z hz => by rw [e] at hz; cases hz; simp [resZ, Fr.ad, h1]
        rw [e] at this
        simp only [resZ, Fr.ad, h1, hfa, Option.map_some, hlen] at this
        have hfa' := hfa
        unfold Fr.ad at hfa'
        rw [hfa'] at this
        exact this
      · have e : ∀ (o : Option Z), fzK (⟨K, ks.take k, t.f, t.P', t.M', t.A', ks.drop (k + 1)⟩ :: fr :: up) t.K [] id t.kids = o → fzK (fr :: up) K [] id ks = (match o with | some z => some z | none => fzK (fr :: up) K (ks.take (k + 1)) id (ks.drop (k + 1))) := fun o ho => by
          rw [hz, fzK, take_succ ht, ← ho]
          cases t with | mk f2 P2 M2 A2 K2 ks2 =>
          rw [fzT, if_neg (show ¬ f2.id = id from hid)]
          rfl
        refine ih t htm (fr := ⟨K, ks.take k, t.f, t.P', t.M', t.A', ks.drop (k + 1)⟩) (up := fr :: up) (by unfold Fr.ad; rw [h1, hlen]; rfl) h2 h3 (by omega) fun H2 he2 hne => ?_
        refine ⟨_, _, _, rfl, ?_⟩
        cases hq : fzK (⟨K, ks.take k, t.f, t.P', t.M', t.A', ks.drop (k + 1)⟩ :: fr :: up) t.K [] id t.kids with
        | none =>
          refine br_f rfl ?_
          rw [wrap_id (by omega) (by omega)]
          exact ihk hk' H2 (he.trans he2) (e _ hq)
        | some z =>
          have hs : fzK (fr :: up) K [] id ks = some z := e _ hq
          have hn := hne z hq
          have := hR H2 (he.trans he2) fun z' hz' => by rw [hs] at hz'; cases hz'; exact hn
          rw [hs] at this
          refine br_t ?_ this
          cases h4 : (resZ (some z)).1 with
          | none => exact absurd h4 hn
          | some _ => rfl
    · have : k = ks.length := by omega
      subst this
      rw [List.drop_of_length_le (Nat.le_refl _), fzK] at hz
      have := hR H1 he fun z hz' => by rw [hz] at hz'; cases hz'
      rw [hz] at this
      exact this
  exact go 0 (by omega) H (Ext.refl H) rfl

end Go.Proofs

/-
  OWN WORK. A stretch of a slice of one's own is written; slices.Insert and slices.Delete of layers.
-/
set_option linter.unusedVariables false
set_option linter.unusedSimpArgs false
set_option maxRecDepth 10000
namespace Go.Sh
variable {H0 H H' : Heap} {σ τ : List Rs}

/-- A stretch of a slice of one's own is written, within what it may hold; it may be longer or shorter behind. -/
theorem St.slRow (hs : St H0 H σ) (i : Nat) {b l c k j l' : Nat} {el : TypeId} {fs fs' vs : List Value} {f : Heap → Prop} (hi : σ[i]? = some (.sl (some ⟨b, 0, none⟩) l c el k fs)) (hj : j + vs.length ≤ c * k) (ho : ∀ v ∈ vs, v.oneCell' = true)
    (hl' : l' ≤ c) (hlen : fs'.length = l' * k) (hone : ∀ v ∈ fs', v.oneCell' = true) (hget : ∀ (x : Nat) v, fs'[x]? = some v → (if j ≤ x ∧ x < j + vs.length then vs[x - j]? else fs[x]?) = some v)
    (hK : ∀ H', St H0 H' (σ.set i (.sl (some ⟨b, 0, none⟩) l' c el k fs')) → f H') : stAt H ⟨b, j, none⟩ vs f := by
  have hfs := hs.fs i hi
  rcases hfs.at_ with ⟨h1, _⟩ | ⟨blk, cs, h1, h2, h3, h4, h5⟩
  · cases h1
  · cases h1
    refine stAt_some h3 (by omega) ho fun c' hc' hg => hK _ ?_
    refine hs.slSet hi ⟨hlen, hl', hone, .inr ⟨b, c', rfl, Nat.zero_le _, get_set_self h3, by rw [hc', h4], fun x v hv => ?_⟩⟩ (fun b' o ho' hne => get_set_ne (fun he => hne (by rw [he])) ho') (.inl rfl)
    rw [hg]
    have := hget x v hv
    split at this
    · rename_i hc; rw [if_pos hc]; exact this
    · rename_i hc; rw [if_neg hc]; exact h5 x v this

theorem RS.rowPart {H : Heap} {b l k : Nat} {el : TypeId} {fs : List Value} (h : RS H (some ⟨b, 0, none⟩) l el k fs) (j n : Nat) (hj : j + n ≤ fs.length) : Go.Sh.rowOf H (some ⟨b, j, none⟩) n ((fs.drop j).take n).toArray := by
  refine ⟨by simp; omega, fun x v hv => ?_⟩
  rw [add_none]
  rw [List.getElem?_toArray] at hv
  have hx := (List.getElem?_eq_some_iff.1 hv).1
  rw [List.length_take, List.length_drop] at hx
  rw [List.getElem?_take_of_lt (by omega), List.getElem?_drop] at hv
  obtain ⟨blk, h1, h2⟩ := h.cell hv
  cases h1; exact h2

/-- Append of noughts that don't fit: a new block. -/
theorem St.appZnew (hs : St H0 H σ) {p : Option Addr} {l c k bytes : Nat} {n : Int} {el : TypeId} {zero : Array Value} {fs : List Value} (hrow : rowOf H p (l * k) fs.toArray) (hfl : fs.length = l * k) (hfo : ∀ v ∈ fs, v.oneCell' = true) (hk : 0 < k) (hz : zero.size = k) (hzo : ∀ v ∈ zero.toList, v.oneCell' = true)
    (hn : 0 ≤ n) (hb : (l + n.toNat) * bytes ≤ 70368744177664) (hm : l + n.toNat ≤ 1000000000000) (hc : c < l + n.toNat) {K : Option Addr → Nat → Nat → Heap → Prop}
    (hK : ∀ b c' H', St H0 H' (.sl (some ⟨b, 0, none⟩) (l + n.toNat) c' el k (fs ++ reps n.toNat zero.toList) :: σ) → K (some ⟨b, 0, none⟩) (l + n.toNat) c' H') : appZ k bytes zero H p l c n el K := by
  refine ⟨hn, by omega, hb, by omega, fun h => by omega, fun _ => ⟨fs.toArray, hrow, fun c' hc' => ?_⟩⟩
  have hlen : (fs ++ reps n.toNat zero.toList).length = (l + n.toNat) * k := by rw [List.length_append, hfl, reps_length, Array.length_toList, hz, Nat.add_mul]
  have hro : ∀ m, ∀ v ∈ reps m zero.toList, v.oneCell' = true := fun m => by
    induction m with
    | zero => intro v hv; cases hv
    | succ m ih => intro v hv; rw [reps, List.mem_append] at hv; exact hv.elim (hzo v) (ih v)
  refine hK H.size c' _ (hs.newSl (Ext.push _ _) ⟨hlen, hc', fun v hv => (List.mem_append.1 hv).elim (hfo v) (hro _ v), .inr ⟨H.size, _, rfl, Nat.le_refl _, get_push_self _ _, ?_, fun i v hv => ?_⟩⟩)
  · rw [zeroCells_eq _ _ (by omega)]
    simp only [Array.size_append, List.size_toArray, reps_length, Array.length_toList, hz, hfl]
    rw [← Nat.add_mul, ← Nat.add_mul]
    congr 1; omega
  · have hi := (List.getElem?_eq_some_iff.1 hv).1
    rw [Array.getElem?_append_left (by simp [reps_length, hfl, hz]; rw [hlen, Nat.add_mul] at hi; omega)]
    have : (fs.toArray ++ (reps n.toNat zero.toList).toArray).toList = fs ++ reps n.toNat zero.toList := by simp
    rw [← Array.getElem?_toList, this]
    exact hv
end Go.Sh
namespace Go.Proofs
open Go.Sh
variable {H0 H : Heap} {σ : List Rs} {R : Value → Heap → Prop}

theorem c110 {a b : Addr} {la ca lb cb : Nat} (hne : a.block ≠ b.block) {x y : Array Value} {tx ty : TypeId} (hx : H[a.block]? = some (.cells x tx (0, 0))) (hy : H[b.block]? = some (.cells y ty (0, 0))) (hy0 : y.size ≠ 0) (hR : R (.bool false) H) :
    CallsH Try.prog 110 #[.slice (some a) la ca, .slice (some b) lb cb] H R := by
  refine .inr fun w hw => ⟨.bool false, w, ?_, rfl, Out.refl w, by rw [hw]; exact hR⟩
  have hsl : Try.prog.underlying 24 = some (.slice 58) := by kernel_rfl
  have hsa : w.shape? a.block = some (tx, x.size) := by unfold World.shape?; rw [hw, hx]
  have hsb : w.shape? b.block = some (ty, y.size) := by unfold World.shape?; rw [hw, hy]
  have hfa : ∀ o, w.frozen? { block := a.block, off := o } = false := fun o => by unfold World.frozen?; simp only [hw, hx]; simp
  rw [run_callFunc_extern Try.func110 (by kernel_rfl) (by kernel_rfl) (by kernel_rfl) (e := Extern.SlicesOverlaps.overlaps #[24, 24] #[4]) (by kernel_rfl),
    Lib.run_overlaps_apart w 24 4 58 hsl 19 (fun w => (Try.tok58).sizeOf w) a b la ca lb cb hne tx ty x.size y.size hsa hsb hy0 (hfa a.off) (hfa x.size)]
  rfl

end Go.Proofs

/-
  OWN WORK. slices.Insert and slices.Delete of layers.
-/
set_option linter.unusedVariables false
set_option linter.unusedSimpArgs false
set_option maxRecDepth 10000
namespace Go.Proofs
open Go.Sh
variable {H0 H : Heap} {σ : List Rs} {R : Value → Heap → Prop}

theorem setL_app (A B v : List Value) {n : Nat} (h : A.length = n) : setL (A ++ B) n v = A ++ v ++ B.drop v.length := by
  subst h
  simp [setL]
theorem offP {b n c k : Nat} (h : c ≠ n) : (if c = n then some (⟨b, 0, none⟩ : Addr) else Option.map (fun x => Addr.add x (n * k)) (some ⟨b, 0, none⟩)) = some ⟨b, n * k, none⟩ := by
  rw [if_neg h]; simp
theorem offP0 {b c : Nat} : (if c = 0 then some (⟨b, 0, none⟩ : Addr) else Option.map (fun x => Addr.add x 0) (some ⟨b, 0, none⟩)) = some ⟨b, 0, none⟩ := by
  split
  · rfl
  · simp
theorem copS {H : Heap} {a : Addr} {xs : Array Value} {K : Heap → Prop} (h : stAt H a xs.toList K) : copQ H (some a) xs K := h
theorem _root_.Go.Sh.St.slIn (hs : St H0 H σ) (i : Nat) {b l c k j : Nat} {el : TypeId} {fs vs : List Value} {f : Heap → Prop} (hi : σ[i]? = some (.sl (some ⟨b, 0, none⟩) l c el k fs)) (hj : j + vs.length ≤ fs.length) (ho : ∀ v ∈ vs, v.oneCell' = true)
    (hK : ∀ H', St H0 H' (σ.set i (.sl (some ⟨b, 0, none⟩) l c el k (setL fs j vs))) → f H') : stAt H ⟨b, j, none⟩ vs f := by
  have hf := hs.fs i hi
  have hlc := Nat.mul_le_mul_right k hf.le
  have hlen := hf.len
  refine hs.slRow i hi (by omega) ho hf.le (by rw [setL_len hj]; exact hlen) (fun v hv => ?_) (fun x v hv => by rw [setL_get hj] at hv; exact hv) hK
  unfold setL at hv
  simp only [List.mem_append] at hv
  rcases hv with (hv | hv) | hv
  · exact hf.one v (List.mem_of_mem_take hv)
  · exact ho v hv
  · exact hf.one v (List.mem_of_mem_drop hv)

theorem c96 {K : Sl3} {i b : Nat} {cs : Array Value} {fs : List Value} (hs : St H0 H (.sl K.p K.l K.c 58 19 fs :: .cell b cs 58 :: σ)) (hcs : cs.size = 19) (hco : ∀ v ∈ cs.toList, v.oneCell' = true) (hi : i ≤ K.l) (hl : K.l ≤ 1000000000)
    (hR : ∀ (K' : Sl3) H', K'.l = K.l + 1 → St H0 H' (.sl K'.p K'.l K'.c 58 19 (fs.take (i * 19) ++ cs.toList ++ fs.drop (i * 19)) :: .cell b cs 58 :: σ) → R K'.v H') :
    CallsH Try.prog 96 #[K.v, .int .i64 i, .slice (some ⟨b, 0, none⟩) 1 1] H R := by
  obtain ⟨p, l, c⟩ := K
  simp only at hs hi hl hR
  show CallsH Try.prog 96 #[.slice p l c, .int .i64 i, .slice (some ⟨b, 0, none⟩) 1 1] H R
  have hfl := (hs.fs 0 rfl).len
  have hfo := (hs.fs 0 rfl).one
  have hlc := (hs.fs 0 rfl).le
  refine Try.s96 ?_
  unfold Try.S96
  refine ⟨by omega, by omega, br_eq (fun h => absurd h (by decide)) fun _ => br_eq (fun h => ?_) fun h => ?_⟩
  · have : i = l := by omega
    subst this
    refine hs.appC 0 1 rfl rfl (by rw [hcs]) hco (by decide) rfl (by omega) (by omega) fun p' c' H' hs' => ?_
    refine hR ⟨p', i + 1, c'⟩ H' rfl ?_
    rw [List.take_of_length_le (by omega), List.drop_of_length_le (by omega), List.append_nil]
    exact hs'
  · have hil : i < l := by omega
    obtain ⟨b0, rfl⟩ := hs.slSome 0 (j := 0) rfl (by omega)
    rw [wrap_id (n := (l : Int) + ((1 : Nat) : Int)) (by omega) (by omega), wrap_id (n := (l : Int) + ((1 : Nat) : Int) - (i : Int)) (by omega) (by omega), wrap_id (n := (i : Int) + ((1 : Nat) : Int)) (by omega) (by omega)]
    have t1 : Int.toNat ((i : Int) + ((1 : Nat) : Int)) = i + 1 := by omega
    have t2 : Int.toNat (i : Int) = i := rfl
    have t3 : Int.toNat ((l : Int) + ((1 : Nat) : Int)) = l + 1 := by omega
    have t4 : Int.toNat (l : Int) = l := rfl
    simp only [t1, t2, t3, t4, Nat.sub_zero, Nat.zero_mul, offP0]
    have hdl : (fs.drop (i * 19)).length = (l - i) * 19 := by rw [List.length_drop]; omega
    have hdo : ∀ v ∈ fs.drop (i * 19), v.oneCell' = true := fun v hv => hfo v (List.mem_of_mem_drop hv)
    have htl : (fs.take (i * 19)).length = i * 19 := by rw [List.length_take]; omega
    refine br_dec (fun hgrow => ?_) fun hfit => ?_
    · refine ⟨by omega, by omega, ?_⟩
      have hr0 := (hs.rs 0 rfl).rowPart 0 (i * 19) (by omega)
      rw [List.drop_zero] at hr0
      have hn : Int.toNat ((l : Int) + ((1 : Nat) : Int) - (i : Int)) = l + 1 - i := by omega
      refine hs.appZnew (bytes := 216) hr0 htl (fun v hv => hfo v (List.mem_of_mem_take hv)) (by decide) rfl (cellsL_one ⟨0, 0, false, 0, 0, 0, 0, [], [], ⟨0, 0, 0, 0, 0, 0⟩, false, 0, []⟩ .nil .nil .nil .nil) (by omega) (by omega) (by omega) (by omega) fun b' c' H7 hs7 => ?_
      rw [hn] at hs7 ⊢
      have hc7 := (hs7.fs 0 rfl).le
      rw [show i + (l + 1 - i) = l + 1 from by omega] at hs7 hc7 ⊢
      refine ⟨by omega, by omega, cs, ?_, ?_⟩
      · rw [show min 1 (l + 1 - i) = 1 from by omega]
        exact ⟨by rw [hcs], rowIn_whole (hs7.block 2 rfl)⟩
      rw [offP (show c' ≠ i by omega)]
      have hzl : (reps (l + 1 - i) (cellsL ⟨0, 0, false, 0, 0, 0, 0, [], [], ⟨0, 0, 0, 0, 0, 0⟩, false, 0, []⟩ Sl3.nil.v Sl3.nil.v Sl3.nil.v Sl3.nil.v)).length = (l + 1 - i) * 19 := by rw [reps_length]; rfl
      refine copS (hs7.slIn 0 rfl (by
        have h19 : cs.toList.length = 19 := by simpa using hcs
        have e : (fs.take (i * 19) ++ reps (l + 1 - i) (cellsL ⟨0, 0, false, 0, 0, 0, 0, [], [], ⟨0, 0, 0, 0, 0, 0⟩, false, 0, []⟩ Sl3.nil.v Sl3.nil.v Sl3.nil.v Sl3.nil.v)).length = i * 19 + (l + 1 - i) * 19 := by rw [List.length_append, htl, hzl]
        rw [h19]
        refine Nat.le_trans ?_ (Nat.le_of_eq e.symm)
        omega) hco fun H9 hs9 => ⟨by omega, by omega, by omega, by omega, (fs.drop (i * 19)).toArray, ?_, ?_⟩)
      · rw [show min (l - i) (l + 1 - (i + 1)) = l - i from by omega, offP (show c ≠ i by omega)]
        have h1 := (hs9.rs 1 rfl).rowPart (i * 19) ((l - i) * 19) (by omega)
        rw [List.take_of_length_le (by omega)] at h1
        exact h1
      rw [offP (show c' ≠ i + 1 by omega)]
      have h19 : cs.toList.length = 19 := by simpa using hcs
      have e1 : setL (fs.take (i * 19) ++ reps (l + 1 - i) (cellsL ⟨0, 0, false, 0, 0, 0, 0, [], [], ⟨0, 0, 0, 0, 0, 0⟩, false, 0, []⟩ Sl3.nil.v Sl3.nil.v Sl3.nil.v Sl3.nil.v)) (i * 19) cs.toList = fs.take (i * 19) ++ cs.toList ++ (reps (l + 1 - i) (cellsL ⟨0, 0, false, 0, 0, 0, 0, [], [], ⟨0, 0, 0, 0, 0, 0⟩, false, 0, []⟩ Sl3.nil.v Sl3.nil.v Sl3.nil.v Sl3.nil.v)).drop 19 := by rw [setL_app _ _ _ htl, h19]
      have hs9 : St H0 H9 (.sl (some ⟨b', 0, none⟩) (l + 1) c' 58 19 (fs.take (i * 19) ++ cs.toList ++ (reps (l + 1 - i) (cellsL ⟨0, 0, false, 0, 0, 0, 0, [], [], ⟨0, 0, 0, 0, 0, 0⟩, false, 0, []⟩ Sl3.nil.v Sl3.nil.v Sl3.nil.v Sl3.nil.v)).drop 19) :: .sl (some ⟨b0, 0, none⟩) l c 58 19 fs :: .cell b cs 58 :: σ) := by rw [← e1]; exact hs9
      have e3 : ((reps (l + 1 - i) (cellsL ⟨0, 0, false, 0, 0, 0, 0, [], [], ⟨0, 0, 0, 0, 0, 0⟩, false, 0, []⟩ Sl3.nil.v Sl3.nil.v Sl3.nil.v Sl3.nil.v)).drop 19).length = (l - i) * 19 := by rw [List.length_drop, hzl]; omega
      have hacl : (fs.take (i * 19) ++ cs.toList).length = (i + 1) * 19 := by rw [List.length_append, htl, h19]; omega
      refine copS (hs9.slIn 0 rfl (by
        rw [List.length_append, hacl, e3]
        show (i + 1) * 19 + (fs.drop (i * 19)).length ≤ _
        rw [hdl]; exact Nat.le_refl _) (by simpa using hdo) fun H11 hs11 => ?_)
      refine hR ⟨some ⟨b', 0, none⟩, l + 1, c'⟩ H11 rfl ?_
      have e2 : setL (fs.take (i * 19) ++ cs.toList ++ (reps (l + 1 - i) (cellsL ⟨0, 0, false, 0, 0, 0, 0, [], [], ⟨0, 0, 0, 0, 0, 0⟩, false, 0, []⟩ Sl3.nil.v Sl3.nil.v Sl3.nil.v Sl3.nil.v)).drop 19) ((i + 1) * 19) (fs.drop (i * 19)) = fs.take (i * 19) ++ cs.toList ++ fs.drop (i * 19) := by
        rw [setL_app _ _ _ hacl, List.drop_of_length_le (l := (reps (l + 1 - i) (cellsL ⟨0, 0, false, 0, 0, 0, 0, [], [], ⟨0, 0, 0, 0, 0, 0⟩, false, 0, []⟩ Sl3.nil.v Sl3.nil.v Sl3.nil.v Sl3.nil.v)).drop 19) (by rw [e3, hdl]; exact Nat.le_refl _), List.append_nil]
      rw [← e2]
      exact St.del hs11 1
    · refine ⟨by omega, by omega, by omega, by omega, ?_⟩
      rw [offP (show c ≠ i + 1 by omega)]
      have hb0 := (hs.fs 0 rfl).at_
      rcases hb0 with ⟨h1, _⟩ | ⟨blk, cs0, h1, _, h3, h4, h5⟩
      · cases h1
      cases h1
      have hbb := hs.block 1 rfl
      have hne : b ≠ b0 := by
        obtain ⟨_, fps, hl, hn, _⟩ := hs
        match fps, hl with
        | f :: g :: fps, hl =>
          have hf := Rs.sl_at hl.1 rfl
          have hg := hl.2.1.1
          rw [hf, hg] at hn
          simp only [List.flatten_cons, List.cons_append, List.nil_append, List.nodup_cons, List.mem_cons] at hn
          exact fun h => hn.1 (.inl h.symm)
      refine c110 (a := ⟨b, 0, none⟩) (b := ⟨b0, (i + 1) * 19, none⟩) hne hbb h3 (by omega) ⟨false, rfl, br_t rfl ?_⟩
      refine ⟨by omega, by omega, by omega, by omega, (fs.drop (i * 19)).toArray, ?_, ?_⟩
      · rw [show min (l + 1 - i) (l + 1 - (i + 1)) = l - i from by omega, offP (show c ≠ i by omega)]
        have h1 := (hs.rs 0 rfl).rowPart (i * 19) ((l - i) * 19) (by omega)
        rw [List.take_of_length_le (by omega)] at h1
        exact h1
      have htl2 : (fs.take ((i + 1) * 19)).length = (i + 1) * 19 := by rw [List.length_take]; omega
      refine copS (hs.slRow 0 rfl (l' := l + 1) (fs' := fs.take ((i + 1) * 19) ++ fs.drop (i * 19)) (by simp only [List.toList_toArray]; omega) (by simpa using hdo) (by omega) (by rw [List.length_append, htl2, hdl]; omega)
        (fun v hv => (List.mem_append.1 hv).elim (fun h => hfo v (List.mem_of_mem_take h)) (hdo v)) (fun x v hv => ?_) fun H16 hs16 => ?_)
      · simp only [List.toList_toArray]
        rw [List.getElem?_append] at hv
        split at hv
        · rename_i hx
          rw [if_neg (by omega)]
          rw [List.getElem?_take_of_lt (by omega)] at hv
          exact hv
        · rename_i hx
          have := (List.getElem?_eq_some_iff.1 hv).1
          rw [if_pos (by omega)]
          rw [htl2] at hv
          exact hv
      have h19 : cs.toList.length = 19 := by simpa using hcs
      refine ⟨by omega, by omega, cs, ?_, ?_⟩
      · rw [show min 1 (l + 1 - i) = 1 from by omega]
        exact ⟨by rw [hcs], rowIn_whole (hs16.block 1 rfl)⟩
      rw [offP (show c ≠ i by omega)]
      refine copS (hs16.slIn 0 rfl (by rw [List.length_append, htl2, hdl, h19]; omega) hco fun H18 hs18 => ?_)
      refine hR ⟨some ⟨b0, 0, none⟩, l + 1, c⟩ H18 rfl ?_
      have e2 : setL (fs.take ((i + 1) * 19) ++ fs.drop (i * 19)) (i * 19) cs.toList = fs.take (i * 19) ++ cs.toList ++ fs.drop (i * 19) := by
        have e3 : fs.take ((i + 1) * 19) = fs.take (i * 19) ++ (fs.drop (i * 19)).take 19 := by rw [show (i + 1) * 19 = i * 19 + 19 from by omega, List.take_add]
        rw [e3, List.append_assoc, setL_app _ _ _ htl, h19, List.drop_append_of_le_length (by rw [List.length_take]; omega), List.drop_of_length_le (by rw [List.length_take]; omega), List.nil_append]
      rw [← e2]
      exact hs18

theorem c74 {K : Sl3} {i : Nat} {fs : List Value} (hs : St H0 H (.sl K.p K.l K.c 58 19 fs :: σ)) (hi : i < K.l) (hl : K.l ≤ 1000000000)
    (hR : ∀ (K' : Sl3) H', K'.l = K.l - 1 → St H0 H' (.sl K'.p K'.l K'.c 58 19 (fs.take (i * 19) ++ fs.drop ((i + 1) * 19)) :: σ) → R K'.v H') :
    CallsH Try.prog 74 #[K.v, .int .i64 i, .int .i64 ((i : Int) + 1)] H R := by
  obtain ⟨p, l, c⟩ := K
  simp only at hs hi hl hR
  show CallsH Try.prog 74 #[.slice p l c, .int .i64 i, .int .i64 ((i : Int) + 1)] H R
  have hfl := (hs.fs 0 rfl).len
  have hfo := (hs.fs 0 rfl).one
  have hlc := (hs.fs 0 rfl).le
  obtain ⟨b0, rfl⟩ := hs.slSome 0 (j := 0) rfl (by omega)
  refine Try.s74 ?_
  unfold Try.S74
  have t1 : Int.toNat ((i : Int) + 1) = i + 1 := by omega
  have t2 : Int.toNat (i : Int) = i := rfl
  have t4 : Int.toNat (l : Int) = l := rfl
  simp only [t1, t2, t4, Nat.sub_zero, Nat.zero_mul, offP0]
  refine ⟨by omega, by omega, by omega, by omega, by omega, by omega, br_eq (fun h => by omega) fun _ => ⟨by omega, by omega, by omega, by omega, ?_⟩⟩
  have hdl : (fs.drop ((i + 1) * 19)).length = (l - (i + 1)) * 19 := by rw [List.length_drop]; omega
  have hdo : ∀ v ∈ fs.drop ((i + 1) * 19), v.oneCell' = true := fun v hv => hfo v (List.mem_of_mem_drop hv)
  have htl : (fs.take (i * 19)).length = i * 19 := by rw [List.length_take]; omega
  refine ⟨by omega, by omega, (fs.drop ((i + 1) * 19)).toArray, ?_, fun _ => ?_, fun h => by omega⟩
  · have h1 := (hs.rs 0 rfl).rowPart ((i + 1) * 19) ((l - (i + 1)) * 19) (by omega)
    rw [List.take_of_length_le (by omega)] at h1
    by_cases hc : c = i + 1
    · have hn : fs.drop ((i + 1) * 19) = [] := List.drop_of_length_le (by omega)
      have hz : l - (i + 1) = 0 := by omega
      rw [if_pos hc, hn, hz]
      exact ⟨rfl, fun j v hv => by simp at hv⟩
    · rw [offP hc]; exact h1
  show stAt H ((⟨b0, 0, none⟩ : Addr).add (i * 19)) _ _
  rw [add_none, Nat.zero_add]
  -- the row moves down; what was last stays behind
  refine hs.slRow 0 rfl (l' := l) (fs' := fs.take (i * 19) ++ fs.drop ((i + 1) * 19) ++ fs.drop ((l - 1) * 19)) (by simp only [List.toList_toArray]; omega) (by simpa using hdo) (by omega) (by rw [List.length_append, List.length_append, htl, hdl, List.length_drop]; omega)
    (fun v hv => by
      simp only [List.mem_append] at hv
      rcases hv with (hv | hv) | hv
      · exact hfo v (List.mem_of_mem_take hv)
      · exact hdo v hv
      · exact hfo v (List.mem_of_mem_drop hv)) (fun x v hv => ?_) fun H5 hs5 => ?_
  · simp only [List.toList_toArray]
    rw [List.getElem?_append] at hv
    have hab : (fs.take (i * 19) ++ fs.drop ((i + 1) * 19)).length = (l - 1) * 19 := by rw [List.length_append, htl, hdl]; omega
    rw [hab] at hv
    split at hv
    · rename_i hx
      rw [List.getElem?_append] at hv
      split at hv
      · rename_i hx2
        rw [if_neg (by omega)]
        rw [List.getElem?_take_of_lt (by omega)] at hv
        exact hv
      · rename_i hx2
        rw [if_pos (by omega)]
        rw [htl] at hv
        exact hv
    · rename_i hx
      rw [if_neg (by omega)]
      rw [List.getElem?_drop] at hv
      rw [show x = (l - 1) * 19 + (x - (l - 1) * 19) from by omega]
      exact hv
  have t7 : Int.toNat ((l - 1 : Nat) : Int) = l - 1 := rfl
  have t6 : i + (l - (i + 1)) = l - 1 := by omega
  simp only [t6, t7]
  refine ⟨by omega, by omega, by omega, by omega, fun h => by omega, fun _ => ?_⟩
  rw [offP (show c ≠ l - 1 by omega), show l - (l - 1) = 1 from by omega]
  have hab : (fs.take (i * 19) ++ fs.drop ((i + 1) * 19)).length = (l - 1) * 19 := by rw [List.length_append, htl, hdl]; omega
  have hone := cellsL_one ⟨0, 0, false, 0, 0, 0, 0, [], [], ⟨0, 0, 0, 0, 0, 0⟩, false, 0, []⟩ .nil .nil .nil .nil
  refine hs5.slRow 0 rfl (l' := l - 1) (fs' := fs.take (i * 19) ++ fs.drop ((i + 1) * 19)) ?_ ?_ (by omega) hab
    (fun v hv => by
      simp only [List.mem_append] at hv
      rcases hv with hv | hv
      · exact hfo v (List.mem_of_mem_take hv)
      · exact hdo v hv) (fun x v hv => ?_) fun H6 hs6 => ?_
  · show (l - 1) * 19 + 19 ≤ c * 19; omega
  · exact hone
  · have hx := (List.getElem?_eq_some_iff.1 hv).1
    rw [hab] at hx
    rw [if_neg (by omega), List.getElem?_append_left (by rw [hab]; exact hx)]
    exact hv
  exact hR ⟨some ⟨b0, 0, none⟩, l - 1, c⟩ H6 rfl hs6

end Go.Proofs

/-
  OWN WORK. A tree is opened at a layer and closed again; a layer's cells are read and written.
-/
set_option linter.unusedVariables false
set_option linter.unusedSimpArgs false
set_option maxRecDepth 10000
namespace Go.Sh
variable {H0 H H' : Heap} {σ τ : List Rs}

theorem permC {α : Type} {a b : List α} (h : ∀ (_ : DecidableEq α) (x : α), a.count x = b.count x) : a.Perm b := by
  haveI : DecidableEq α := fun a b => Classical.propDecidable (a = b)
  exact List.perm_iff_count.2 (h inferInstance)

theorem perm_front {r : Rs} : ∀ (l : List Rs) (i : Nat), l[i]? = some r → l.Perm (r :: l.eraseIdx i) ∧ ∀ r', (l.set i r').Perm (r' :: l.eraseIdx i)
  | [], i, h => by simp at h
  | x :: l, 0, h => by simp at h; subst h; exact ⟨List.Perm.refl _, fun _ => List.Perm.refl _⟩
  | x :: l, i + 1, h => by
    obtain ⟨h1, h2⟩ := perm_front l i (by simpa using h)
    exact ⟨(h1.cons x).trans (List.Perm.swap _ _ _), fun r' => ((h2 r').cons x).trans (List.Perm.swap _ _ _)⟩

/-- Two resources come to the front; the first goes back, changed. -/
theorem St.two (hs : St H0 H σ) (i m : Nat) {r s : Rs} (hi : σ[i]? = some r) (hm : σ[m]? = some s) (hne : m ≠ i) : ∃ σ2, St H0 H (r :: s :: σ2) ∧ ∀ {H' r'}, St H0 H' (r' :: s :: σ2) → St H0 H' (σ.set i r') := by
  obtain ⟨h1, h2⟩ := perm_front σ i hi
  have hm' : (σ.eraseIdx i)[if m < i then m else m - 1]? = some s := by
    rw [List.getElem?_eraseIdx]
    by_cases h : m < i
    · rw [if_pos h, if_pos h]; exact hm
    · rw [if_neg h, if_neg (by omega), show m - 1 + 1 = m from by omega]; exact hm
  obtain ⟨h3, _⟩ := perm_front _ _ hm'
  exact ⟨_, hs.perm (h1.trans (h3.cons r)), fun hs' => hs'.perm ((h3.symm.cons _).trans (h2 _).symm)⟩
theorem St.one (hs : St H0 H σ) (i : Nat) {r : Rs} (hi : σ[i]? = some r) : ∃ σ2, St H0 H (r :: σ2) ∧ ∀ {H' r'}, St H0 H' (r' :: σ2) → St H0 H' (σ.set i r') := by
  obtain ⟨h1, h2⟩ := perm_front σ i hi
  exact ⟨_, hs.perm h1, fun hs' => hs'.perm (h2 _).symm⟩

/-- A cell of an element is read. -/
theorem St.elCell (hs : St H0 H σ) (i : Nat) {p : Option Addr} {l c n : Nat} {el : TypeId} {A cs B : List Value} (hi : σ[i]? = some (.sl p l c el 19 (A ++ cs ++ B))) (hA : A.length = n * 19) {j : Nat} {v : Value} (hv : cs[j]? = some v) {a : Addr} (ha : p.map (fun a => a.add (n * 19)) = some a) :
    Sh.cell H (a.add j) = some v := by
  have hj := (List.getElem?_eq_some_iff.1 hv).1
  obtain ⟨blk, h1, h2⟩ := (hs.rs i hi).cell (i := n * 19 + j) (v := v) (by
    rw [List.append_assoc, List.getElem?_append_right (by omega), hA, show n * 19 + j - n * 19 = j from by omega, List.getElem?_append_left hj]; exact hv)
  subst h1
  cases ha
  show Sh.cell H (((⟨blk, 0, none⟩ : Addr).add (n * 19)).add j) = some v
  rw [add_none, add_none, Nat.zero_add]
  exact h2
theorem St.elRow (hs : St H0 H σ) (i : Nat) {p : Option Addr} {l c n : Nat} {el : TypeId} {A cs B : List Value} (hi : σ[i]? = some (.sl p l c el 19 (A ++ cs ++ B))) (hA : A.length = n * 19) {a : Addr} (ha : p.map (fun a => a.add (n * 19)) = some a) :
    rowIn H a cs.toArray := fun j v hv => hs.elCell i hi hA (by simpa using hv) ha
theorem St.elAd (hs : St H0 H σ) (i : Nat) {p : Option Addr} {l c n : Nat} {el : TypeId} {A cs B : List Value} (hi : σ[i]? = some (.sl p l c el 19 (A ++ cs ++ B))) (hc : cs.length = 19) : ∃ a, p.map (fun a => a.add (n * 19)) = some a := by
  obtain ⟨b, h⟩ := hs.slSome i (j := 0) hi (by simp; omega)
  rw [h]; exact ⟨_, rfl⟩
/-- A cell of an element is written. -/
theorem St.elPut (hs : St H0 H σ) (i : Nat) {p : Option Addr} {l c n : Nat} {el : TypeId} {A cs B : List Value} (hi : σ[i]? = some (.sl p l c el 19 (A ++ cs ++ B))) (hA : A.length = n * 19) {j : Nat} (hj : j < cs.length) {v : Value} (hv : v.oneCell' = true) {a : Addr} (ha : p.map (fun a => a.add (n * 19)) = some a)
    {f : Heap → Prop} (hK : ∀ H', St H0 H' (σ.set i (.sl p l c el 19 (A ++ cs.set j v ++ B))) → f H') : stAt H (a.add j) [v] f := by
  obtain ⟨b, hb⟩ := hs.slSome i (j := 0) hi (by simp; omega)
  subst hb
  cases ha
  show stAt H (((⟨b, 0, none⟩ : Addr).add (n * 19)).add j) [v] f
  rw [add_none, add_none, Nat.zero_add]
  refine hs.slPut i hi (by simp; omega) hv fun H' hs' => hK H' ?_
  rw [List.append_assoc, List.set_append_right _ _ (by omega), hA, show n * 19 + j - n * 19 = j from by omega, List.set_append_left _ _ hj, ← List.append_assoc] at hs'
  exact hs'
end Go.Sh
namespace Go.Proofs
open Go.Sh
variable {H0 H : Heap} {σ : List Rs} {R : Value → Heap → Prop}

def Fr.cells (fr : Fr) (K : Sl3) : List Value := cellsL fr.f fr.P.v fr.M.v fr.A.v K.v
def Fr.node (fr : Fr) (K : Sl3) (ks : List T) : T := .mk fr.f fr.P fr.M fr.A K ks
/-- The whole, with a layer in its place. -/
def plugZ : List Fr → Sl3 → List T → Sl3 × List T
  | [], K, ks => (K, ks)
  | fr :: up, K, ks => plugZ up fr.hdr (fr.pre ++ fr.node K ks :: fr.post)
def resFr (fr : Fr) (K : Sl3) : List Rs :=
  .sl fr.hdr.p fr.hdr.l fr.hdr.c 58 19 (cellsKs fr.pre ++ fr.cells K ++ cellsKs fr.post) :: .sl fr.P.p fr.P.l fr.P.c 3 1 (ints fr.f.p) :: .sl fr.M.p fr.M.l fr.M.c 5 1 (kints .u8 fr.f.mask) :: .sl fr.A.p fr.A.l fr.A.c 3 1 (ints fr.f.params) :: (resKs fr.pre ++ resKs fr.post)
def resUp : List Fr → Sl3 → List Rs
  | [], _ => []
  | fr :: up, K => resFr fr K ++ resUp up fr.hdr
/-- Opened at a layer. -/
def openR (fr : Fr) (up : List Fr) (K : Sl3) (ks : List T) : List Rs :=
  .sl fr.hdr.p fr.hdr.l fr.hdr.c 58 19 (cellsKs fr.pre ++ fr.cells K ++ cellsKs fr.post) :: .sl fr.P.p fr.P.l fr.P.c 3 1 (ints fr.f.p) :: .sl fr.M.p fr.M.l fr.M.c 5 1 (kints .u8 fr.f.mask) :: .sl fr.A.p fr.A.l fr.A.c 3 1 (ints fr.f.params) ::
    .sl K.p K.l K.c 58 19 (cellsKs ks) :: (resKs ks ++ (resKs fr.pre ++ (resKs fr.post ++ resUp up fr.hdr)))

theorem cells_mid (fr : Fr) (K : Sl3) (ks : List T) : cellsKs (fr.pre ++ fr.node K ks :: fr.post) = cellsKs fr.pre ++ fr.cells K ++ cellsKs fr.post := by
  rw [cellsKs_app, cellsKs_cons, List.append_assoc]; rfl
theorem resKs_mid (fr : Fr) (K : Sl3) (ks : List T) : resKs (fr.pre ++ fr.node K ks :: fr.post) = resKs fr.pre ++ (resT (fr.node K ks) ++ resKs fr.post) := by
  rw [resKs_app, resKs_cons]
theorem plug_res : ∀ (up : List Fr) (K : Sl3) (ks : List T), (resG (plugZ up K ks).1 (plugZ up K ks).2).Perm (resG K ks ++ resUp up K)
  | [], K, ks => by rw [resUp, List.append_nil]; exact List.Perm.refl _
  | fr :: up, K, ks => by
    rw [plugZ]
    refine (plug_res up fr.hdr _).trans ?_
    refine permC fun _ x => ?_
    simp only [resG, cells_mid, resKs_mid]
    simp only [Fr.node, resT_mk, resG, resUp, resFr, List.count_append, List.count_cons]
    ac_rfl
theorem open_perm (fr : Fr) (up : List Fr) (K : Sl3) (ks : List T) : (resG (plugZ (fr :: up) K ks).1 (plugZ (fr :: up) K ks).2).Perm (openR fr up K ks) := by
  refine (plug_res (fr :: up) K ks).trans (permC fun _ x => ?_)
  simp only [resG, resUp, resFr, openR, List.count_append, List.count_cons]
  ac_rfl
theorem _root_.Go.Sh.St.opened {S : Sl3} {ss : List T} (hs : St H0 H (resG S ss ++ σ)) {fr : Fr} {up : List Fr} {K : Sl3} {ks : List T} (h : plugZ (fr :: up) K ks = (S, ss)) : St H0 H (openR fr up K ks ++ σ) := by
  have := open_perm fr up K ks
  rw [h] at this
  exact hs.perm (this.append_right σ)
theorem _root_.Go.Sh.St.closed {fr : Fr} {up : List Fr} {K : Sl3} {ks : List T} (hs : St H0 H (openR fr up K ks ++ σ)) : St H0 H (resG (plugZ (fr :: up) K ks).1 (plugZ (fr :: up) K ks).2 ++ σ) :=
  hs.perm ((open_perm fr up K ks).symm.append_right σ)

theorem fz_plug (id : Int) : (∀ (t : T) (up : List Fr) (K : Sl3) (pre post : List T) (z : Z), fzT up K pre post id t = some z → plugZ z.1 z.2.1 z.2.2 = plugZ up K (pre ++ t :: post)) := by
  refine T.ind fun f P M A K' ks ih up K pre post z hz => ?_
  rw [fzT] at hz
  split at hz
  · cases hz; rfl
  · have : ∀ (ts : List T), (∀ t ∈ ts, t ∈ ks) → ∀ (u : List Fr) (K0 : Sl3) (pre0 : List T), fzK u K0 pre0 id ts = some z → plugZ z.1 z.2.1 z.2.2 = plugZ u K0 (pre0 ++ ts) := by
      intro ts
      induction ts with
      | nil => intro _ u K0 pre0 h; rw [fzK] at h; cases h
      | cons t ts ih2 =>
        intro hm u K0 pre0 h
        rw [fzK] at h
        split at h
        · rename_i z' hz'
          cases h
          exact ih t (hm t List.mem_cons_self) _ _ _ _ _ hz'
        · rw [ih2 (fun t ht => hm t (List.mem_cons_of_mem _ ht)) _ _ _ h, List.append_assoc]; rfl
    rw [this ks (fun _ h => h) _ _ _ hz]
    rfl
theorem fzK_plug {id : Int} : ∀ (ts : List T) (up : List Fr) (K : Sl3) (pre : List T) (z : Z), fzK up K pre id ts = some z → plugZ z.1 z.2.1 z.2.2 = plugZ up K (pre ++ ts)
  | [], up, K, pre, z, h => by rw [fzK] at h; cases h
  | t :: ts, up, K, pre, z, h => by
    rw [fzK] at h
    split at h
    · rename_i z' hz'
      cases h
      exact fz_plug id t _ _ _ _ _ hz'
    · rw [fzK_plug ts _ _ _ _ h, List.append_assoc]; rfl

/-- What is found stands ahead of what was searched, and bears the number. -/
theorem fz_suf (id : Int) : (∀ (t : T) (up : List Fr) (K : Sl3) (pre post : List T) (z : Z), fzT up K pre post id t = some z → ∃ fr u, z.1 = fr :: u ++ up ∧ fr.f.id = id) := by
  refine T.ind fun f P M A K' ks ih up K pre post z hz => ?_
  rw [fzT] at hz
  split at hz
  · rename_i h; cases hz; exact ⟨_, [], rfl, h⟩
  · have : ∀ (ts : List T), (∀ t ∈ ts, t ∈ ks) → ∀ (u : List Fr) (K0 : Sl3) (pre0 : List T), fzK u K0 pre0 id ts = some z → ∃ fr u', z.1 = fr :: u' ++ u ∧ fr.f.id = id := by
      intro ts
      induction ts with
      | nil => intro _ u K0 pre0 h; rw [fzK] at h; cases h
      | cons t ts ih2 =>
        intro hm u K0 pre0 h
        rw [fzK] at h
        split at h
        · rename_i z' hz'
          cases h
          exact ih t (hm t List.mem_cons_self) _ _ _ _ _ hz'
        · exact ih2 (fun t ht => hm t (List.mem_cons_of_mem _ ht)) _ _ _ h
    obtain ⟨fr, u', h1, h2⟩ := this ks (fun _ h => h) _ _ _ hz
    exact ⟨fr, u' ++ [⟨K, pre, f, P, M, A, post⟩], by rw [h1]; simp, h2⟩
theorem fzK_suf {id : Int} : ∀ (ts : List T) (up : List Fr) (K : Sl3) (pre : List T) (z : Z), fzK up K pre id ts = some z → ∃ fr u, z.1 = fr :: u ++ up ∧ fr.f.id = id
  | [], up, K, pre, z, h => by rw [fzK] at h; cases h
  | t :: ts, up, K, pre, z, h => by
    rw [fzK] at h
    split at h
    · rename_i z' hz'
      cases h
      exact fz_suf id t _ _ _ _ _ hz'
    · exact fzK_suf ts _ _ _ _ h

def rootF : LayF := ⟨0, 1, false, 0, 0, 0, 0, [], [], ⟨0, 0, 0, 0, 0, 0⟩, false, 0, []⟩
def rootT (K : Sl3) (ks : List T) : T := .mk rootF .nil .nil .nil K ks
def rootS (b : Nat) : Sl3 := ⟨some ⟨b, 0, none⟩, 1, 1⟩
def rootFr (b : Nat) : Fr := ⟨rootS b, [], rootF, .nil, .nil, .nil, []⟩
theorem root_ad (b : Nat) : (rootFr b).ad = some ⟨b, 0, none⟩ := by unfold Fr.ad rootFr rootS; simp
theorem plug_root (b : Nat) : ∀ (u : List Fr) (K : Sl3) (ks : List T), plugZ (u ++ [rootFr b]) K ks = (rootS b, [rootT (plugZ u K ks).1 (plugZ u K ks).2])
  | [], K, ks => rfl
  | fr :: u, K, ks => by rw [List.cons_append, plugZ, plug_root b u]; rfl
/-- The root and all that is in it. -/
def resRoot (b : Nat) (K : Sl3) (ks : List T) : List Rs := resG (rootS b) [rootT K ks]
theorem found_open {b : Nat} {K : Sl3} {ks : List T} (hs : St H0 H (resRoot b K ks ++ σ)) {id : Int} {fr : Fr} {up : List Fr} {K' : Sl3} {ks' : List T} (h : fzK [rootFr b] K [] id ks = some (fr :: up, K', ks')) : St H0 H (openR fr up K' ks' ++ σ) :=
  hs.opened (by
    have := fzK_plug ks _ _ _ _ h
    rw [this]; rfl)
theorem close_at {b : Nat} {fr : Fr} {u : List Fr} {K : Sl3} {ks : List T} (hs : St H0 H (openR fr (u ++ [rootFr b]) K ks ++ σ)) : St H0 H (resRoot b (plugZ (fr :: u) K ks).1 (plugZ (fr :: u) K ks).2 ++ σ) := by
  have := hs.closed
  rw [← List.cons_append, plug_root] at this
  exact this

end Go.Proofs
