/-
  Printed by a program of mine (gen.py): each function, over heaps; and that what is said of it is said of its call.
-/
import Derived.Test.YtdigjlhobhpfpaaGTab
set_option linter.unusedVariables false
set_option maxRecDepth 100000
namespace Go.Proofs
open Go.Sh

/-- (*scumble/flate.inflater).fail -/
def Try.S28 (f1 : Option Addr) (e2 : Int) (H : Heap) (R : Value → Heap → Prop) : Prop :=
 ∃ a3 : Addr, f1 = some a3 ∧ ∃ e4 : Int, cell H (Addr.add a3 3) = some (Value.int .i64 e4) ∧ br ((e4 : Int) == (0 : Int))
 (∃ a5 : Addr, f1 = some a5 ∧ stAt H (Addr.add a5 3) [Value.int .i64 e2] fun H_6 => R (Value.tuple #[]) H_6)
 (R (Value.tuple #[]) H)
def Try.p28 : Plan := (Plan.two Plan.leaf (Plan.two Plan.leaf Plan.leaf))
theorem Try.s28 {f1 : Option Addr} {e2 : Int} {H : Heap} {R : Value → Heap → Prop} (h : Try.S28 f1 e2 H R) : CallsH Try.prog 28 #[Value.pointer f1, Value.int .i64 e2] H R :=
  vcFun_sound Try.tab_ok Try.mixed Try.func28 Try.cal28 (p := Try.p28) (args := [Value.pointer f1, Value.int .i64 e2]) (Eq.mp (by kernel_rfl : Try.S28 f1 e2 H R = vcFun Try.prog Try.tab Try.f28 Try.p28 [Value.pointer f1, Value.int .i64 e2] H R) h)

/-- (*scumble/bits.Reader).At -/
def Try.S29 (r1 : Option Addr) (H : Heap) (R : Value → Heap → Prop) : Prop :=
 ∃ a2 : Addr, r1 = some a2 ∧ ∃ at_3 : Int, cell H (Addr.add a2 1) = some (Value.int .i64 at_3) ∧ R (Value.int .i64 at_3) H
def Try.p29 : Plan := (Plan.two Plan.leaf (Plan.two Plan.leaf Plan.leaf))
theorem Try.s29 {r1 : Option Addr} {H : Heap} {R : Value → Heap → Prop} (h : Try.S29 r1 H R) : CallsH Try.prog 29 #[Value.pointer r1] H R :=
  vcFun_sound Try.tab_ok Try.mixed Try.func29 Try.cal29 (p := Try.p29) (args := [Value.pointer r1]) (Eq.mp (by kernel_rfl : Try.S29 r1 H R = vcFun Try.prog Try.tab Try.f29 Try.p29 [Value.pointer r1] H R) h)

/-- slices.Clone[[]byte,byte] -/
def Try.S30 (s1p : Option Addr) (s1l : Nat) (s1c : Nat) (H : Heap) (R : Value → Heap → Prop) : Prop :=
 br (Option.isNone s1p)
 (R (Value.slice none 0 0) H)
 (alc H (.cells #[] 5) fun b2 H_3 => appQ 1 1 #[Value.int .u8 0] H_3 (some ⟨b2, 0, none⟩) 0 0 s1p s1l 5 fun app4p app4l app4c H_5 => R (Value.slice app4p app4l app4c) H_5)
def Try.p30 : Plan := (Plan.two Plan.leaf (Plan.two (Plan.two Plan.leaf (Plan.two (Plan.two Plan.leaf Plan.leaf) Plan.leaf)) (Plan.two Plan.leaf Plan.leaf)))
theorem Try.s30 {s1p : Option Addr} {s1l : Nat} {s1c : Nat} {H : Heap} {R : Value → Heap → Prop} (h : Try.S30 s1p s1l s1c H R) : CallsH Try.prog 30 #[Value.slice s1p s1l s1c] H R :=
  vcFun_sound Try.tab_ok Try.mixed Try.func30 Try.cal30 (p := Try.p30) (args := [Value.slice s1p s1l s1c]) (Eq.mp (by kernel_rfl : Try.S30 s1p s1l s1c H R = vcFun Try.prog Try.tab Try.f30 Try.p30 [Value.slice s1p s1l s1c] H R) h)

/-- scumble/sums.Adler -/
def Try.S31 (parts1p : Option Addr) (parts1l : Nat) (parts1c : Nat) (H : Heap) (R : Value → Heap → Prop) : Prop :=
 ∀ X_2 : List Value → Heap → Prop, (∀ sum3 : Int, ∀ t4 : Int, ∀ H_5 : Heap, (br (decide ((t4 : Int) < ((parts1l : Nat) : Int)))
 (∃ a6 : Addr, parts1p = some a6 ∧ 0 ≤ t4 ∧ t4 < ((parts1l : Nat) : Int) ∧ ∃ p7p : Option Addr, ∃ p7l : Nat, ∃ p7c : Nat, cell H_5 (Addr.add a6 (Int.toNat t4 * 1)) = some (Value.slice p7p p7l p7c) ∧ CallsH Try.prog 42 #[Value.int .i64 sum3, Value.slice p7p p7l p7c] H_5 fun r8 H_9 => ∃ sum10 : Int, r8 = Value.int .i64 sum10 ∧ X_2 [Value.int .i64 sum10, Value.int .i64 (IntKind.wrap .i64 (t4 + (1 : Int)))] H_9)
 (R (Value.int .i64 sum3) H_5)) → X_2 [Value.int .i64 sum3, Value.int .i64 t4] H_5) → X_2 [Value.int .i64 (1 : Int), Value.int .i64 (0 : Int)] H
def Try.p31 : Plan := (Plan.two Plan.leaf (Plan.two Plan.leaf (Plan.two (Plan.two Plan.leaf (Plan.one (Plan.loop [(3, 3), (8, 3)] [6, 7] (Plan.two Plan.leaf (Plan.two (Plan.two Plan.leaf Plan.leaf) (Plan.two (Plan.one (Plan.two Plan.leaf Plan.leaf)) Plan.leaf)))))) (Plan.two Plan.leaf Plan.leaf))))
theorem Try.s31 {parts1p : Option Addr} {parts1l : Nat} {parts1c : Nat} {H : Heap} {R : Value → Heap → Prop} (h : Try.S31 parts1p parts1l parts1c H R) : CallsH Try.prog 31 #[Value.slice parts1p parts1l parts1c] H R :=
  vcFun_sound Try.tab_ok Try.mixed Try.func31 Try.cal31 (p := Try.p31) (args := [Value.slice parts1p parts1l parts1c]) (Eq.mp (by kernel_rfl : Try.S31 parts1p parts1l parts1c H R = vcFun Try.prog Try.tab Try.f31 Try.p31 [Value.slice parts1p parts1l parts1c] H R) h)

/-- scumble/scumbleref04.Weight -/
def Try.S32 (l1p : Option Addr) (l1l : Nat) (l1c : Nat) (H : Heap) (R : Value → Heap → Prop) : Prop :=
 br (decide ((((l1l : Nat) : Int) : Int) > (300 : Int)))
 (R (Value.tuple #[Value.int .i64 (0 : Int), Value.bool false]) H)
 (∀ X_2 : List Value → Heap → Prop, (∀ sum3 : Int, ∀ i4 : Int, ∀ H_5 : Heap, (br (decide ((i4 : Int) < ((l1l : Nat) : Int)))
 (∀ J_6 : List Value → Heap → Prop, (∀ H_7 : Heap, (∃ a8 : Addr, l1p = some a8 ∧ 0 ≤ i4 ∧ i4 < ((l1l : Nat) : Int) ∧ ∃ v9 : Int, cell H_7 (Addr.add a8 (Int.toNat i4 * 1)) = some (Value.int .i64 v9) ∧ br (decide ((v9 : Int) > (0 : Int)))
 (∃ a10 : Addr, l1p = some a10 ∧ 0 ≤ i4 ∧ i4 < ((l1l : Nat) : Int) ∧ ∃ v11 : Int, cell H_7 (Addr.add a10 (Int.toNat i4 * 1)) = some (Value.int .i64 v11) ∧ 0 ≤ v11 ∧ X_2 [Value.int .i64 (IntKind.wrap .i64 (sum3 + (shrI .i64 (65536 : Int) v11))), Value.int .i64 (IntKind.wrap .i64 (i4 + (1 : Int)))] H_7)
 (X_2 [Value.int .i64 sum3, Value.int .i64 (IntKind.wrap .i64 (i4 + (1 : Int)))] H_7)) → J_6 [] H_7) →
 ∃ a12 : Addr, l1p = some a12 ∧ 0 ≤ i4 ∧ i4 < ((l1l : Nat) : Int) ∧ ∃ v13 : Int, cell H_5 (Addr.add a12 (Int.toNat i4 * 1)) = some (Value.int .i64 v13) ∧ br (decide ((v13 : Int) < (0 : Int))) (R (Value.tuple #[Value.int .i64 (0 : Int), Value.bool false]) H_5) (∃ a14 : Addr, l1p = some a14 ∧ 0 ≤ i4 ∧ i4 < ((l1l : Nat) : Int) ∧ ∃ v15 : Int, cell H_5 (Addr.add a14 (Int.toNat i4 * 1)) = some (Value.int .i64 v15) ∧ br (decide ((v15 : Int) > (16 : Int)))
 (R (Value.tuple #[Value.int .i64 (0 : Int), Value.bool false]) H_5)
 (J_6 [] H_5)))
 (R (Value.tuple #[Value.int .i64 sum3, Value.bool true]) H_5)) → X_2 [Value.int .i64 sum3, Value.int .i64 i4] H_5) → X_2 [Value.int .i64 (0 : Int), Value.int .i64 (0 : Int)] H)
def Try.p32 : Plan := (Plan.two Plan.leaf (Plan.two (Plan.two Plan.leaf (Plan.two (Plan.two Plan.leaf Plan.leaf) Plan.leaf)) (Plan.two Plan.leaf (Plan.two (Plan.two Plan.leaf (Plan.one (Plan.loop [(4, 3), (5, 3)] [0] (Plan.two (Plan.two Plan.leaf (Plan.two Plan.leaf Plan.leaf)) (Plan.two (Plan.one (Plan.two (Plan.join [] [0, 4, 5] (Plan.two Plan.leaf (Plan.two (Plan.two Plan.leaf Plan.leaf) Plan.leaf))) (Plan.two Plan.leaf (Plan.two Plan.leaf Plan.leaf)))) Plan.leaf))))) (Plan.two Plan.leaf Plan.leaf)))))
theorem Try.s32 {l1p : Option Addr} {l1l : Nat} {l1c : Nat} {H : Heap} {R : Value → Heap → Prop} (h : Try.S32 l1p l1l l1c H R) : CallsH Try.prog 32 #[Value.slice l1p l1l l1c] H R :=
  vcFun_sound Try.tab_ok Try.mixed Try.func32 Try.cal32 (p := Try.p32) (args := [Value.slice l1p l1l l1c]) (Eq.mp (by kernel_rfl : Try.S32 l1p l1l l1c H R = vcFun Try.prog Try.tab Try.f32 Try.p32 [Value.slice l1p l1l l1c] H R) h)

/-- scumble/scumbleref04.Codes -/
def Try.S33 (l1p : Option Addr) (l1l : Nat) (l1c : Nat) (H : Heap) (R : Value → Heap → Prop) : Prop :=
 CallsH Try.prog 32 #[Value.slice l1p l1l l1c] H fun r2 H_3 => ∃ r4 : Int, ∃ r5 : Bool, r2 = Value.tuple #[Value.int .i64 r4, Value.bool r5] ∧ ∀ J_6 : List Value → Heap → Prop, (∀ H_7 : Heap, (0 ≤ ((l1l : Nat) : Int) ∧ ((l1l : Nat) : Int) ≤ ((l1l : Nat) : Int) ∧ ((8 : Nat) : Int) * ((l1l : Nat) : Int) ≤ 281474976710656 ∧ ((l1l : Nat) : Int) ≤ 281474976710656 ∧ alc H_7 (.cells (List.toArray (reps (Int.toNat ((l1l : Nat) : Int)) (Array.toList #[Value.int .i64 0]))) 3) fun b8 H_9 => ∀ X_10 : List Value → Heap → Prop, (∀ code11 : Int, ∀ last12 : Int, ∀ n13 : Int, ∀ H_14 : Heap, (br (decide ((n13 : Int) ≤ (16 : Int)))
 (∀ X_15 : List Value → Heap → Prop, (∀ code16 : Int, ∀ last17 : Int, ∀ s18 : Int, ∀ H_19 : Heap, (br (decide ((s18 : Int) < ((l1l : Nat) : Int)))
 (∃ a20 : Addr, l1p = some a20 ∧ 0 ≤ s18 ∧ s18 < ((l1l : Nat) : Int) ∧ ∃ v21 : Int, cell H_19 (Addr.add a20 (Int.toNat s18 * 1)) = some (Value.int .i64 v21) ∧ br ((v21 : Int) != n13)
 (X_15 [Value.int .i64 code16, Value.int .i64 last17, Value.int .i64 (IntKind.wrap .i64 (s18 + (1 : Int)))] H_19)
 (∀ J_22 : List Value → Heap → Prop, (∀ code23 : Int, ∀ H_24 : Heap, (∃ a25 : Addr, (some ⟨b8, 0, none⟩) = some a25 ∧ 0 ≤ s18 ∧ s18 < (((Int.toNat ((l1l : Nat) : Int)) : Nat) : Int) ∧ stAt H_24 (Addr.add a25 (Int.toNat s18 * 1)) [Value.int .i64 code23] fun H_26 => X_15 [Value.int .i64 code23, Value.int .i64 n13, Value.int .i64 (IntKind.wrap .i64 (s18 + (1 : Int)))] H_26) → J_22 [Value.int .i64 code23] H_24) →
 br (decide ((last17 : Int) > (0 : Int)))
 (0 ≤ (IntKind.wrap .i64 (n13 - last17)) ∧ J_22 [Value.int .i64 (shlI .i64 (IntKind.wrap .i64 (code16 + (1 : Int))) (IntKind.wrap .i64 (n13 - last17)))] H_19)
 (J_22 [Value.int .i64 code16] H_19)))
 (X_10 [Value.int .i64 code16, Value.int .i64 last17, Value.int .i64 (IntKind.wrap .i64 (n13 + (1 : Int)))] H_19)) → X_15 [Value.int .i64 code16, Value.int .i64 last17, Value.int .i64 s18] H_19) → X_15 [Value.int .i64 code11, Value.int .i64 last12, Value.int .i64 (0 : Int)] H_14)
 (R (Value.tuple #[Value.slice (some ⟨b8, 0, none⟩) (Int.toNat ((l1l : Nat) : Int)) (Int.toNat ((l1l : Nat) : Int)), Value.bool true]) H_14)) → X_10 [Value.int .i64 code11, Value.int .i64 last12, Value.int .i64 n13] H_14) → X_10 [Value.int .i64 (0 : Int), Value.int .i64 (0 : Int), Value.int .i64 (1 : Int)] H_9) → J_6 [] H_7) →
 br (!r5) (R (Value.tuple #[Value.slice none 0 0, Value.bool false]) H_3) (br (decide ((r4 : Int) > (65536 : Int)))
 (R (Value.tuple #[Value.slice none 0 0, Value.bool false]) H_3)
 (J_6 [] H_3))
def Try.p33 : Plan := (Plan.two Plan.leaf (Plan.two Plan.leaf (Plan.two (Plan.join [] [0] (Plan.two Plan.leaf (Plan.two (Plan.two Plan.leaf Plan.leaf) Plan.leaf))) (Plan.two Plan.leaf (Plan.two Plan.leaf (Plan.two Plan.leaf (Plan.two (Plan.two Plan.leaf (Plan.one (Plan.loop [(7, 3), (8, 3), (9, 3)] [0, 6] (Plan.two (Plan.two Plan.leaf (Plan.two Plan.leaf Plan.leaf)) (Plan.two (Plan.one (Plan.two Plan.leaf (Plan.one (Plan.loop [(7, 3), (8, 3), (10, 3)] [0, 6, 9] (Plan.two (Plan.two Plan.leaf (Plan.two Plan.leaf Plan.leaf)) (Plan.two (Plan.one (Plan.two (Plan.two Plan.leaf (Plan.two Plan.leaf Plan.leaf)) (Plan.two (Plan.join [(7, 3)] [0, 6, 9, 10] (Plan.two Plan.leaf (Plan.two Plan.leaf Plan.leaf))) (Plan.two Plan.leaf Plan.leaf)))) Plan.leaf)))))) Plan.leaf))))) (Plan.two Plan.leaf Plan.leaf))))))))
theorem Try.s33 {l1p : Option Addr} {l1l : Nat} {l1c : Nat} {H : Heap} {R : Value → Heap → Prop} (h : Try.S33 l1p l1l l1c H R) : CallsH Try.prog 33 #[Value.slice l1p l1l l1c] H R :=
  vcFun_sound Try.tab_ok Try.mixed Try.func33 Try.cal33 (p := Try.p33) (args := [Value.slice l1p l1l l1c]) (Eq.mp (by kernel_rfl : Try.S33 l1p l1l l1c H R = vcFun Try.prog Try.tab Try.f33 Try.p33 [Value.slice l1p l1l l1c] H R) h)

/-- scumble/bits.bit -/
def Try.S34 (at_1 : Int) (high2 : Bool) (H : Heap) (R : Value → Heap → Prop) : Prop :=
 br high2
 ((8 : Int) ≠ 0 ∧ R (Value.int .i64 (IntKind.wrap .i64 ((7 : Int) - (Int.tmod at_1 (8 : Int))))) H)
 ((8 : Int) ≠ 0 ∧ R (Value.int .i64 (Int.tmod at_1 (8 : Int))) H)
def Try.p34 : Plan := (Plan.two Plan.leaf (Plan.two (Plan.two Plan.leaf (Plan.two (Plan.two Plan.leaf Plan.leaf) Plan.leaf)) (Plan.two Plan.leaf Plan.leaf)))
theorem Try.s34 {at_1 : Int} {high2 : Bool} {H : Heap} {R : Value → Heap → Prop} (h : Try.S34 at_1 high2 H R) : CallsH Try.prog 34 #[Value.int .i64 at_1, Value.bool high2] H R :=
  vcFun_sound Try.tab_ok Try.mixed Try.func34 Try.cal34 (p := Try.p34) (args := [Value.int .i64 at_1, Value.bool high2]) (Eq.mp (by kernel_rfl : Try.S34 at_1 high2 H R = vcFun Try.prog Try.tab Try.f34 Try.p34 [Value.int .i64 at_1, Value.bool high2] H R) h)

/-- (*scumble/bits.Reader).Get -/
def Try.S35 (r1 : Option Addr) (n2 : Int) (H : Heap) (R : Value → Heap → Prop) : Prop :=
 ∀ J_3 : List Value → Heap → Prop, (∀ H_4 : Heap, (∀ X_5 : List Value → Heap → Prop, (∀ v6 : Int, ∀ k7 : Int, ∀ H_8 : Heap, (br (decide ((k7 : Int) < n2))
 (∃ a9 : Addr, r1 = some a9 ∧ ∃ b10p : Option Addr, ∃ b10l : Nat, ∃ b10c : Nat, cell H_8 (Addr.add a9 0) = some (Value.slice b10p b10l b10c) ∧ ∃ a11 : Addr, r1 = some a11 ∧ ∃ at_12 : Int, cell H_8 (Addr.add a11 1) = some (Value.int .i64 at_12) ∧ (8 : Int) ≠ 0 ∧ ∃ a13 : Addr, b10p = some a13 ∧ 0 ≤ (IntKind.wrap .i64 (Int.tdiv at_12 (8 : Int))) ∧ (IntKind.wrap .i64 (Int.tdiv at_12 (8 : Int))) < ((b10l : Nat) : Int) ∧ ∃ v14 : Int, cell H_8 (Addr.add a13 (Int.toNat (IntKind.wrap .i64 (Int.tdiv at_12 (8 : Int))) * 1)) = some (Value.int .u8 v14) ∧ ∃ a15 : Addr, r1 = some a15 ∧ ∃ at_16 : Int, cell H_8 (Addr.add a15 1) = some (Value.int .i64 at_16) ∧ ∃ a17 : Addr, r1 = some a17 ∧ ∃ high18 : Bool, cell H_8 (Addr.add a17 2) = some (Value.bool high18) ∧ CallsH Try.prog 34 #[Value.int .i64 at_16, Value.bool high18] H_8 fun r19 H_20 => ∃ r21 : Int, r19 = Value.int .i64 r21 ∧ (Ext H_8 H_20 ∨ (∃ v31 : Int, cell H_20 (Addr.add a13 (Int.toNat (IntKind.wrap .i64 (Int.tdiv at_12 (8 : Int))) * 1)) = some (Value.int .u8 v31) ∧ Value.int .u8 v31 = Value.int .u8 v14) ∧ (∃ at_32 : Int, cell H_20 (Addr.add a11 1) = some (Value.int .i64 at_32) ∧ Value.int .i64 at_32 = Value.int .i64 at_12) ∧ (∃ b33p : Option Addr, ∃ b33l : Nat, ∃ b33c : Nat, cell H_20 (Addr.add a9 0) = some (Value.slice b33p b33l b33c) ∧ Value.slice b33p b33l b33c = Value.slice b10p b10l b10c)) ∧ 0 ≤ r21 ∧ ∀ J_22 : List Value → Heap → Prop, (∀ v23 : Int, ∀ H_24 : Heap, (∃ a25 : Addr, r1 = some a25 ∧ ∃ at_26 : Int, cell H_24 (Addr.add a25 1) = some (Value.int .i64 at_26) ∧ ∃ a27 : Addr, r1 = some a27 ∧ stAt H_24 (Addr.add a27 1) [Value.int .i64 (IntKind.wrap .i64 (at_26 + (1 : Int)))] fun H_28 => X_5 [Value.int .i64 v23, Value.int .i64 (IntKind.wrap .i64 (k7 + (1 : Int)))] H_28) → J_22 [Value.int .i64 v23] H_24) →
 ∃ a29 : Addr, r1 = some a29 ∧ ∃ high30 : Bool, cell H_20 (Addr.add a29 2) = some (Value.bool high30) ∧ br high30
 (0 ≤ (1 : Int) ∧ J_22 [Value.int .i64 (orI .i64 (shlI .i64 v6 (1 : Int)) (andI .i64 (IntKind.wrap .i64 (shrI .u8 v14 r21)) (1 : Int)))] H_20)
 (0 ≤ k7 ∧ J_22 [Value.int .i64 (orI .i64 v6 (shlI .i64 (andI .i64 (IntKind.wrap .i64 (shrI .u8 v14 r21)) (1 : Int)) k7))] H_20))
 (R (Value.tuple #[Value.int .i64 v6, Value.bool true]) H_8)) → X_5 [Value.int .i64 v6, Value.int .i64 k7] H_8) → X_5 [Value.int .i64 (0 : Int), Value.int .i64 (0 : Int)] H_4) → J_3 [] H_4) →
 br (decide ((n2 : Int) < (0 : Int))) (R (Value.tuple #[Value.int .i64 (0 : Int), Value.bool false]) H) (br (decide ((n2 : Int) > (24 : Int))) (R (Value.tuple #[Value.int .i64 (0 : Int), Value.bool false]) H) (CallsH Try.prog 43 #[Value.pointer r1] H fun r34 H_35 => ∃ r36 : Int, r34 = Value.int .i64 r36 ∧ br (decide ((n2 : Int) > r36))
 (R (Value.tuple #[Value.int .i64 (0 : Int), Value.bool false]) H_35)
 (J_3 [] H_35)))
def Try.p35 : Plan := (Plan.two Plan.leaf (Plan.two (Plan.join [] [0, 1] (Plan.two Plan.leaf (Plan.two (Plan.two Plan.leaf Plan.leaf) Plan.leaf))) (Plan.two Plan.leaf (Plan.two (Plan.two Plan.leaf (Plan.one (Plan.loop [(6, 3), (22, 3)] [0, 21] (Plan.two Plan.leaf (Plan.two (Plan.two Plan.leaf Plan.leaf) (Plan.two (Plan.one (Plan.two Plan.leaf (Plan.two Plan.leaf (Plan.two (Plan.join [(6, 3)] [0, 21, 22] (Plan.two Plan.leaf (Plan.two Plan.leaf Plan.leaf))) Plan.leaf)))) Plan.leaf)))))) (Plan.two Plan.leaf Plan.leaf)))))
theorem Try.s35 {r1 : Option Addr} {n2 : Int} {H : Heap} {R : Value → Heap → Prop} (h : Try.S35 r1 n2 H R) : CallsH Try.prog 35 #[Value.pointer r1, Value.int .i64 n2] H R :=
  vcFun_sound Try.tab_ok Try.mixed Try.func35 Try.cal35 (p := Try.p35) (args := [Value.pointer r1, Value.int .i64 n2]) (Eq.mp (by kernel_rfl : Try.S35 r1 n2 H R = vcFun Try.prog Try.tab Try.f35 Try.p35 [Value.pointer r1, Value.int .i64 n2] H R) h)

/-- (*scumble/bits.Reader).Align -/
def Try.S36 (r1 : Option Addr) (H : Heap) (R : Value → Heap → Prop) : Prop :=
 ∃ a2 : Addr, r1 = some a2 ∧ ∃ at_3 : Int, cell H (Addr.add a2 1) = some (Value.int .i64 at_3) ∧ (8 : Int) ≠ 0 ∧ ∃ a4 : Addr, r1 = some a4 ∧ stAt H (Addr.add a4 1) [Value.int .i64 (IntKind.wrap .i64 ((IntKind.wrap .i64 (Int.tdiv (IntKind.wrap .i64 (at_3 + (7 : Int))) (8 : Int))) * (8 : Int)))] fun H_5 => R (Value.tuple #[]) H_5
def Try.p36 : Plan := Plan.leaf
theorem Try.s36 {r1 : Option Addr} {H : Heap} {R : Value → Heap → Prop} (h : Try.S36 r1 H R) : CallsH Try.prog 36 #[Value.pointer r1] H R :=
  vcFun_sound Try.tab_ok Try.mixed Try.func36 Try.cal36 (p := Try.p36) (args := [Value.pointer r1]) (Eq.mp (by kernel_rfl : Try.S36 r1 H R = vcFun Try.prog Try.tab Try.f36 Try.p36 [Value.pointer r1] H R) h)

/-- scumble/huff.Codes -/
def Try.S37 (lengths1p : Option Addr) (lengths1l : Nat) (lengths1c : Nat) (H : Heap) (R : Value → Heap → Prop) : Prop :=
 CallsH Try.prog 44 #[Value.slice lengths1p lengths1l lengths1c] H fun r2 H_3 => ∃ r4 : Int, ∃ r5 : Bool, r2 = Value.tuple #[Value.int .i64 r4, Value.bool r5] ∧ ∀ J_6 : List Value → Heap → Prop, (∀ H_7 : Heap, (0 ≤ ((lengths1l : Nat) : Int) ∧ ((lengths1l : Nat) : Int) ≤ ((lengths1l : Nat) : Int) ∧ ((8 : Nat) : Int) * ((lengths1l : Nat) : Int) ≤ 281474976710656 ∧ ((lengths1l : Nat) : Int) ≤ 281474976710656 ∧ alc H_7 (.cells (List.toArray (reps (Int.toNat ((lengths1l : Nat) : Int)) (Array.toList #[Value.int .i64 0]))) 3) fun b8 H_9 => ∀ X_10 : List Value → Heap → Prop, (∀ next11 : Int, ∀ n12 : Int, ∀ H_13 : Heap, (br (decide ((n12 : Int) ≤ (16 : Int)))
 (0 ≤ (1 : Int) ∧ ∀ X_14 : List Value → Heap → Prop, (∀ next15 : Int, ∀ s16 : Int, ∀ H_17 : Heap, (br (decide ((s16 : Int) < ((lengths1l : Nat) : Int)))
 (∃ a18 : Addr, lengths1p = some a18 ∧ 0 ≤ s16 ∧ s16 < ((lengths1l : Nat) : Int) ∧ ∃ l19 : Int, cell H_17 (Addr.add a18 (Int.toNat s16 * 1)) = some (Value.int .i64 l19) ∧ br ((l19 : Int) == n12)
 (∃ a20 : Addr, (some ⟨b8, 0, none⟩) = some a20 ∧ 0 ≤ s16 ∧ s16 < (((Int.toNat ((lengths1l : Nat) : Int)) : Nat) : Int) ∧ stAt H_17 (Addr.add a20 (Int.toNat s16 * 1)) [Value.int .i64 next15] fun H_21 => X_14 [Value.int .i64 (IntKind.wrap .i64 (next15 + (1 : Int))), Value.int .i64 (IntKind.wrap .i64 (s16 + (1 : Int)))] H_21)
 (X_14 [Value.int .i64 next15, Value.int .i64 (IntKind.wrap .i64 (s16 + (1 : Int)))] H_17))
 (X_10 [Value.int .i64 next15, Value.int .i64 (IntKind.wrap .i64 (n12 + (1 : Int)))] H_17)) → X_14 [Value.int .i64 next15, Value.int .i64 s16] H_17) → X_14 [Value.int .i64 (shlI .i64 next11 (1 : Int)), Value.int .i64 (0 : Int)] H_13)
 (R (Value.tuple #[Value.slice (some ⟨b8, 0, none⟩) (Int.toNat ((lengths1l : Nat) : Int)) (Int.toNat ((lengths1l : Nat) : Int)), Value.bool true]) H_13)) → X_10 [Value.int .i64 next11, Value.int .i64 n12] H_13) → X_10 [Value.int .i64 (0 : Int), Value.int .i64 (1 : Int)] H_9) → J_6 [] H_7) →
 br (!r5) (R (Value.tuple #[Value.slice none 0 0, Value.bool false]) H_3) (br (decide ((r4 : Int) > (65536 : Int)))
 (R (Value.tuple #[Value.slice none 0 0, Value.bool false]) H_3)
 (J_6 [] H_3))
def Try.p37 : Plan := (Plan.two Plan.leaf (Plan.two Plan.leaf (Plan.two (Plan.join [] [0] (Plan.two Plan.leaf (Plan.two (Plan.two Plan.leaf Plan.leaf) Plan.leaf))) (Plan.two Plan.leaf (Plan.two Plan.leaf (Plan.two (Plan.two Plan.leaf (Plan.one (Plan.loop [(7, 3), (8, 3)] [0, 6] (Plan.two (Plan.two Plan.leaf (Plan.two Plan.leaf Plan.leaf)) (Plan.two (Plan.one (Plan.two Plan.leaf (Plan.two Plan.leaf (Plan.one (Plan.loop [(7, 3), (33, 3)] [0, 6, 8, 31, 32] (Plan.two Plan.leaf (Plan.two (Plan.two Plan.leaf Plan.leaf) (Plan.two (Plan.one (Plan.two Plan.leaf (Plan.two Plan.leaf (Plan.two (Plan.two Plan.leaf Plan.leaf) Plan.leaf)))) Plan.leaf)))))))) Plan.leaf))))) (Plan.two Plan.leaf Plan.leaf)))))))
theorem Try.s37 {lengths1p : Option Addr} {lengths1l : Nat} {lengths1c : Nat} {H : Heap} {R : Value → Heap → Prop} (h : Try.S37 lengths1p lengths1l lengths1c H R) : CallsH Try.prog 37 #[Value.slice lengths1p lengths1l lengths1c] H R :=
  vcFun_sound Try.tab_ok Try.mixed Try.func37 Try.cal37 (p := Try.p37) (args := [Value.slice lengths1p lengths1l lengths1c]) (Eq.mp (by kernel_rfl : Try.S37 lengths1p lengths1l lengths1c H R = vcFun Try.prog Try.tab Try.f37 Try.p37 [Value.slice lengths1p lengths1l lengths1c] H R) h)

/-- (*scumble/flate.inflater).symbol -/
def Try.S38 (f1 : Option Addr) (d2 : Option Addr) (H : Heap) (R : Value → Heap → Prop) : Prop :=
 ∀ X_3 : List Value → Heap → Prop, (∀ state4 : Int, ∀ H_5 : Heap, (CallsH Try.prog 22 #[Value.pointer f1, Value.int .i64 (1 : Int)] H_5 fun r6 H_7 => ∃ bit8 : Int, r6 = Value.int .i64 bit8 ∧ ∃ a9 : Addr, f1 = some a9 ∧ ∃ e10 : Int, cell H_7 (Addr.add a9 3) = some (Value.int .i64 e10) ∧ br ((e10 : Int) != (0 : Int))
 (R (Value.int .i64 (0 : Int)) H_7)
 (CallsH Try.prog 45 #[Value.pointer d2, Value.int .i64 state4, Value.int .i64 bit8] H_7 fun r11 H_12 => ∃ r13 : Int, ∃ r14 : Int, r11 = Value.tuple #[Value.int .i64 r13, Value.int .i64 r14] ∧ br (decide ((r13 : Int) < (0 : Int)))
 (CallsH Try.prog 28 #[Value.pointer f1, Value.int .i64 (21 : Int)] H_12 fun r15 H_16 => r15 = Value.tuple #[] ∧ R (Value.int .i64 (0 : Int)) H_16)
 (br (decide ((r14 : Int) < (0 : Int)))
 (X_3 [Value.int .i64 r13] H_12)
 (R (Value.int .i64 r14) H_12)))) → X_3 [Value.int .i64 state4] H_5) → X_3 [Value.int .i64 (0 : Int)] H
def Try.p38 : Plan := (Plan.two Plan.leaf (Plan.scope [(5, 3)] [0, 1] Plan.leaf (Plan.two Plan.leaf (Plan.two (Plan.two Plan.leaf (Plan.two (Plan.two Plan.leaf Plan.leaf) Plan.leaf)) (Plan.two Plan.leaf (Plan.two (Plan.one (Plan.two Plan.leaf (Plan.two (Plan.two Plan.leaf (Plan.two Plan.leaf Plan.leaf)) (Plan.two Plan.leaf (Plan.two Plan.leaf Plan.leaf))))) (Plan.two Plan.leaf Plan.leaf)))))))
theorem Try.s38 {f1 : Option Addr} {d2 : Option Addr} {H : Heap} {R : Value → Heap → Prop} (h : Try.S38 f1 d2 H R) : CallsH Try.prog 38 #[Value.pointer f1, Value.pointer d2] H R :=
  vcFun_sound Try.tab_ok Try.mixed Try.func38 Try.cal38 (p := Try.p38) (args := [Value.pointer f1, Value.pointer d2]) (Eq.mp (by kernel_rfl : Try.S38 f1 d2 H R = vcFun Try.prog Try.tab Try.f38 Try.p38 [Value.pointer f1, Value.pointer d2] H R) h)

/-- (*scumble/flate.inflater).copies -/
def Try.S39 (f1 : Option Addr) (s2 : Int) (distances3 : Option Addr) (H : Heap) (R : Value → Heap → Prop) : Prop :=
 br (decide ((s2 : Int) > (285 : Int)))
 (CallsH Try.prog 28 #[Value.pointer f1, Value.int .i64 (25 : Int)] H fun r4 H_5 => r4 = Value.tuple #[] ∧ R (Value.tuple #[]) H_5)
 (CallsH Try.prog 46 #[Value.int .i64 s2] H fun r6 H_7 => ∃ r8 : Int, ∃ r9 : Int, r6 = Value.tuple #[Value.int .i64 r8, Value.int .i64 r9] ∧ CallsH Try.prog 22 #[Value.pointer f1, Value.int .i64 r9] H_7 fun r10 H_11 => ∃ r12 : Int, r10 = Value.int .i64 r12 ∧ CallsH Try.prog 38 #[Value.pointer f1, Value.pointer distances3] H_11 fun r13 H_14 => ∃ t15 : Int, r13 = Value.int .i64 t15 ∧ ∃ a16 : Addr, f1 = some a16 ∧ ∃ e17 : Int, cell H_14 (Addr.add a16 3) = some (Value.int .i64 e17) ∧ br ((e17 : Int) != (0 : Int))
 (R (Value.tuple #[]) H_14)
 (br (decide ((t15 : Int) > (29 : Int)))
 (CallsH Try.prog 28 #[Value.pointer f1, Value.int .i64 (25 : Int)] H_14 fun r18 H_19 => r18 = Value.tuple #[] ∧ R (Value.tuple #[]) H_19)
 (CallsH Try.prog 47 #[Value.int .i64 t15] H_14 fun r20 H_21 => ∃ r22 : Int, ∃ r23 : Int, r20 = Value.tuple #[Value.int .i64 r22, Value.int .i64 r23] ∧ CallsH Try.prog 22 #[Value.pointer f1, Value.int .i64 r23] H_21 fun r24 H_25 => ∃ r26 : Int, r24 = Value.int .i64 r26 ∧ ∃ a27 : Addr, f1 = some a27 ∧ ∃ e28 : Int, cell H_25 (Addr.add a27 3) = some (Value.int .i64 e28) ∧ br ((e28 : Int) != (0 : Int))
 (R (Value.tuple #[]) H_25)
 (∃ a29 : Addr, f1 = some a29 ∧ ∃ out30p : Option Addr, ∃ out30l : Nat, ∃ out30c : Nat, cell H_25 (Addr.add a29 1) = some (Value.slice out30p out30l out30c) ∧ br (decide (((IntKind.wrap .i64 (r22 + r26)) : Int) > ((out30l : Nat) : Int)))
 (CallsH Try.prog 28 #[Value.pointer f1, Value.int .i64 (22 : Int)] H_25 fun r31 H_32 => r31 = Value.tuple #[] ∧ R (Value.tuple #[]) H_32)
 (∃ a33 : Addr, f1 = some a33 ∧ ∃ most34 : Int, cell H_25 (Addr.add a33 2) = some (Value.int .i64 most34) ∧ ∃ a35 : Addr, f1 = some a35 ∧ ∃ out36p : Option Addr, ∃ out36l : Nat, ∃ out36c : Nat, cell H_25 (Addr.add a35 1) = some (Value.slice out36p out36l out36c) ∧ br (decide (((IntKind.wrap .i64 (r8 + r12)) : Int) > (IntKind.wrap .i64 (most34 - ((out36l : Nat) : Int)))))
 (CallsH Try.prog 28 #[Value.pointer f1, Value.int .i64 (24 : Int)] H_25 fun r37 H_38 => r37 = Value.tuple #[] ∧ R (Value.tuple #[]) H_38)
 (∀ X_39 : List Value → Heap → Prop, (∀ t40 : Int, ∀ H_41 : Heap, (br (decide ((t40 : Int) < (IntKind.wrap .i64 (r8 + r12))))
 (∃ a42 : Addr, f1 = some a42 ∧ ∃ out43p : Option Addr, ∃ out43l : Nat, ∃ out43c : Nat, cell H_41 (Addr.add a42 1) = some (Value.slice out43p out43l out43c) ∧ ∃ a44 : Addr, f1 = some a44 ∧ ∃ out45p : Option Addr, ∃ out45l : Nat, ∃ out45c : Nat, cell H_41 (Addr.add a44 1) = some (Value.slice out45p out45l out45c) ∧ ∃ a46 : Addr, f1 = some a46 ∧ ∃ out47p : Option Addr, ∃ out47l : Nat, ∃ out47c : Nat, cell H_41 (Addr.add a46 1) = some (Value.slice out47p out47l out47c) ∧ ∃ a48 : Addr, out45p = some a48 ∧ 0 ≤ (IntKind.wrap .i64 (((out47l : Nat) : Int) - (IntKind.wrap .i64 (r22 + r26)))) ∧ (IntKind.wrap .i64 (((out47l : Nat) : Int) - (IntKind.wrap .i64 (r22 + r26)))) < ((out45l : Nat) : Int) ∧ ∃ v49 : Int, cell H_41 (Addr.add a48 (Int.toNat (IntKind.wrap .i64 (((out47l : Nat) : Int) - (IntKind.wrap .i64 (r22 + r26)))) * 1)) = some (Value.int .u8 v49) ∧ alc H_41 (.cells #[Value.int .u8 v49] 5) fun b50 H_51 => (Ext H_41 H_51 ∨ (∃ out56p : Option Addr, ∃ out56l : Nat, ∃ out56c : Nat, cell H_51 (Addr.add a42 1) = some (Value.slice out56p out56l out56c) ∧ Value.slice out56p out56l out56c = Value.slice out43p out43l out43c)) ∧ appQ 1 1 #[Value.int .u8 0] H_51 out43p out43l out43c (some ⟨b50, 0, none⟩) 1 5 fun app52p app52l app52c H_53 => ∃ a54 : Addr, f1 = some a54 ∧ stAt H_53 (Addr.add a54 1) [Value.slice app52p app52l app52c] fun H_55 => X_39 [Value.int .i64 (IntKind.wrap .i64 (t40 + (1 : Int)))] H_55)
 (R (Value.tuple #[]) H_41)) → X_39 [Value.int .i64 t40] H_41) → X_39 [Value.int .i64 (0 : Int)] H_25))))))
def Try.p39 : Plan := (Plan.two (Plan.two Plan.leaf (Plan.two (Plan.two Plan.leaf Plan.leaf) Plan.leaf)) (Plan.two Plan.leaf (Plan.two Plan.leaf (Plan.two Plan.leaf (Plan.two (Plan.two Plan.leaf (Plan.two Plan.leaf Plan.leaf)) (Plan.two (Plan.two Plan.leaf (Plan.two (Plan.two Plan.leaf Plan.leaf) Plan.leaf)) (Plan.two Plan.leaf (Plan.two Plan.leaf (Plan.one (Plan.two Plan.leaf (Plan.two Plan.leaf (Plan.two Plan.leaf (Plan.two Plan.leaf (Plan.two Plan.leaf (Plan.two Plan.leaf (Plan.two Plan.leaf (Plan.one (Plan.loop [(47, 3)] [0, 9, 46] (Plan.two Plan.leaf (Plan.two (Plan.two Plan.leaf Plan.leaf) (Plan.two (Plan.one Plan.leaf) Plan.leaf)))))))))))))))))))))
theorem Try.s39 {f1 : Option Addr} {s2 : Int} {distances3 : Option Addr} {H : Heap} {R : Value → Heap → Prop} (h : Try.S39 f1 s2 distances3 H R) : CallsH Try.prog 39 #[Value.pointer f1, Value.int .i64 s2, Value.pointer distances3] H R :=
  vcFun_sound Try.tab_ok Try.mixed Try.func39 Try.cal39 (p := Try.p39) (args := [Value.pointer f1, Value.int .i64 s2, Value.pointer distances3]) (Eq.mp (by kernel_rfl : Try.S39 f1 s2 distances3 H R = vcFun Try.prog Try.tab Try.f39 Try.p39 [Value.pointer f1, Value.int .i64 s2, Value.pointer distances3] H R) h)

/-- scumble/flate.order -/
def Try.S40  (H : Heap) (R : Value → Heap → Prop) : Prop :=
 alc H (.cells #[Value.int .i64 (16 : Int), Value.int .i64 (17 : Int), Value.int .i64 (18 : Int), Value.int .i64 (0 : Int), Value.int .i64 (8 : Int), Value.int .i64 (7 : Int), Value.int .i64 (9 : Int), Value.int .i64 (6 : Int), Value.int .i64 (10 : Int), Value.int .i64 (5 : Int), Value.int .i64 (11 : Int), Value.int .i64 (4 : Int), Value.int .i64 (12 : Int), Value.int .i64 (3 : Int), Value.int .i64 (13 : Int), Value.int .i64 (2 : Int), Value.int .i64 (14 : Int), Value.int .i64 (1 : Int), Value.int .i64 (15 : Int)] 3) fun b1 H_2 => R (Value.slice (some ⟨b1, 0, none⟩) 19 19) H_2
def Try.p40 : Plan := (Plan.two Plan.leaf (Plan.two Plan.leaf Plan.leaf))
theorem Try.s40 {_u : Unit} {H : Heap} {R : Value → Heap → Prop} (h : Try.S40  H R) : CallsH Try.prog 40 #[] H R :=
  vcFun_sound Try.tab_ok Try.mixed Try.func40 Try.cal40 (p := Try.p40) (args := []) (Eq.mp (by kernel_rfl : Try.S40  H R = vcFun Try.prog Try.tab Try.f40 Try.p40 [] H R) h)

/-- (*scumble/flate.inflater).decoder -/
def Try.S41 (f1 : Option Addr) (lengths2p : Option Addr) (lengths2l : Nat) (lengths2c : Nat) (loose3 : Bool) (none_4 : Bool) (H : Heap) (R : Value → Heap → Prop) : Prop :=
 CallsH Try.prog 25 #[Value.slice lengths2p lengths2l lengths2c] H fun r5 H_6 => ∃ r7 : Option Addr, ∃ r8 : Bool, r5 = Value.tuple #[Value.pointer r7, Value.bool r8] ∧ CallsH Try.prog 44 #[Value.slice lengths2p lengths2l lengths2c] H_6 fun r9 H_10 => ∃ r11 : Int, ∃ r12 : Bool, r9 = Value.tuple #[Value.int .i64 r11, Value.bool r12] ∧ ∀ J_13 : List Value → Heap → Prop, (∀ H_14 : Heap, (R (Value.pointer r7) H_14) → J_13 [] H_14) →
 br (!r8) (CallsH Try.prog 28 #[Value.pointer f1, Value.int .i64 (21 : Int)] H_10 fun r15 H_16 => r15 = Value.tuple #[] ∧ J_13 [] H_16) (br ((r11 : Int) != (65536 : Int)) (br loose3 (br ((r11 : Int) == (32768 : Int)) (CallsH Try.prog 48 #[Value.slice lengths2p lengths2l lengths2c] H_10 fun r17 H_18 => ∃ r19 : Bool, r17 = Value.bool r19 ∧ br (!r19) (br none_4 (br (!((r11 : Int) == (0 : Int)))
 (CallsH Try.prog 28 #[Value.pointer f1, Value.int .i64 (21 : Int)] H_18 fun r20 H_21 => r20 = Value.tuple #[] ∧ J_13 [] H_21)
 (J_13 [] H_18)) (CallsH Try.prog 28 #[Value.pointer f1, Value.int .i64 (21 : Int)] H_18 fun r22 H_23 => r22 = Value.tuple #[] ∧ J_13 [] H_23)) (J_13 [] H_18)) (br none_4 (br (!((r11 : Int) == (0 : Int)))
 (CallsH Try.prog 28 #[Value.pointer f1, Value.int .i64 (21 : Int)] H_10 fun r24 H_25 => r24 = Value.tuple #[] ∧ J_13 [] H_25)
 (J_13 [] H_10)) (CallsH Try.prog 28 #[Value.pointer f1, Value.int .i64 (21 : Int)] H_10 fun r26 H_27 => r26 = Value.tuple #[] ∧ J_13 [] H_27))) (br none_4 (br (!((r11 : Int) == (0 : Int)))
 (CallsH Try.prog 28 #[Value.pointer f1, Value.int .i64 (21 : Int)] H_10 fun r28 H_29 => r28 = Value.tuple #[] ∧ J_13 [] H_29)
 (J_13 [] H_10)) (CallsH Try.prog 28 #[Value.pointer f1, Value.int .i64 (21 : Int)] H_10 fun r30 H_31 => r30 = Value.tuple #[] ∧ J_13 [] H_31))) (J_13 [] H_10))
def Try.p41 : Plan := (Plan.two Plan.leaf (Plan.two Plan.leaf (Plan.two Plan.leaf (Plan.two (Plan.join [] [9] (Plan.two Plan.leaf (Plan.two Plan.leaf Plan.leaf))) (Plan.two Plan.leaf Plan.leaf)))))
theorem Try.s41 {f1 : Option Addr} {lengths2p : Option Addr} {lengths2l : Nat} {lengths2c : Nat} {loose3 : Bool} {none_4 : Bool} {H : Heap} {R : Value → Heap → Prop} (h : Try.S41 f1 lengths2p lengths2l lengths2c loose3 none_4 H R) : CallsH Try.prog 41 #[Value.pointer f1, Value.slice lengths2p lengths2l lengths2c, Value.bool loose3, Value.bool none_4] H R :=
  vcFun_sound Try.tab_ok Try.mixed Try.func41 Try.cal41 (p := Try.p41) (args := [Value.pointer f1, Value.slice lengths2p lengths2l lengths2c, Value.bool loose3, Value.bool none_4]) (Eq.mp (by kernel_rfl : Try.S41 f1 lengths2p lengths2l lengths2c loose3 none_4 H R = vcFun Try.prog Try.tab Try.f41 Try.p41 [Value.pointer f1, Value.slice lengths2p lengths2l lengths2c, Value.bool loose3, Value.bool none_4] H R) h)

/-- scumble/sums.AdlerMore -/
def Try.S42 (sum1 : Int) (b2p : Option Addr) (b2l : Nat) (b2c : Nat) (H : Heap) (R : Value → Heap → Prop) : Prop :=
 0 ≤ (16 : Int) ∧ ∀ X_3 : List Value → Heap → Prop, (∀ lo4 : Int, ∀ hi5 : Int, ∀ t6 : Int, ∀ H_7 : Heap, (br (decide ((t6 : Int) < ((b2l : Nat) : Int)))
 (∃ a8 : Addr, b2p = some a8 ∧ 0 ≤ t6 ∧ t6 < ((b2l : Nat) : Int) ∧ ∃ x9 : Int, cell H_7 (Addr.add a8 (Int.toNat t6 * 1)) = some (Value.int .u8 x9) ∧ (65521 : Int) ≠ 0 ∧ (65521 : Int) ≠ 0 ∧ X_3 [Value.int .i64 (Int.tmod (IntKind.wrap .i64 (lo4 + (IntKind.wrap .i64 x9))) (65521 : Int)), Value.int .i64 (Int.tmod (IntKind.wrap .i64 (hi5 + (Int.tmod (IntKind.wrap .i64 (lo4 + (IntKind.wrap .i64 x9))) (65521 : Int)))) (65521 : Int)), Value.int .i64 (IntKind.wrap .i64 (t6 + (1 : Int)))] H_7)
 (0 ≤ (16 : Int) ∧ R (Value.int .i64 (orI .i64 (shlI .i64 hi5 (16 : Int)) lo4)) H_7)) → X_3 [Value.int .i64 lo4, Value.int .i64 hi5, Value.int .i64 t6] H_7) → X_3 [Value.int .i64 (andI .i64 sum1 (65535 : Int)), Value.int .i64 (shrI .i64 sum1 (16 : Int)), Value.int .i64 (0 : Int)] H
def Try.p42 : Plan := (Plan.two Plan.leaf (Plan.two Plan.leaf (Plan.two (Plan.two Plan.leaf (Plan.one (Plan.loop [(5, 3), (6, 3), (15, 3)] [13, 14] (Plan.two Plan.leaf (Plan.two (Plan.two Plan.leaf Plan.leaf) (Plan.two (Plan.one (Plan.two Plan.leaf (Plan.two Plan.leaf Plan.leaf))) Plan.leaf)))))) (Plan.two Plan.leaf Plan.leaf))))
theorem Try.s42 {sum1 : Int} {b2p : Option Addr} {b2l : Nat} {b2c : Nat} {H : Heap} {R : Value → Heap → Prop} (h : Try.S42 sum1 b2p b2l b2c H R) : CallsH Try.prog 42 #[Value.int .i64 sum1, Value.slice b2p b2l b2c] H R :=
  vcFun_sound Try.tab_ok Try.mixed Try.func42 Try.cal42 (p := Try.p42) (args := [Value.int .i64 sum1, Value.slice b2p b2l b2c]) (Eq.mp (by kernel_rfl : Try.S42 sum1 b2p b2l b2c H R = vcFun Try.prog Try.tab Try.f42 Try.p42 [Value.int .i64 sum1, Value.slice b2p b2l b2c] H R) h)

/-- (*scumble/bits.Reader).Left -/
def Try.S43 (r1 : Option Addr) (H : Heap) (R : Value → Heap → Prop) : Prop :=
 ∃ a2 : Addr, r1 = some a2 ∧ ∃ b3p : Option Addr, ∃ b3l : Nat, ∃ b3c : Nat, cell H (Addr.add a2 0) = some (Value.slice b3p b3l b3c) ∧ ∃ a4 : Addr, r1 = some a4 ∧ ∃ at_5 : Int, cell H (Addr.add a4 1) = some (Value.int .i64 at_5) ∧ R (Value.int .i64 (IntKind.wrap .i64 ((IntKind.wrap .i64 ((8 : Int) * ((b3l : Nat) : Int))) - at_5))) H
def Try.p43 : Plan := (Plan.two Plan.leaf (Plan.two Plan.leaf Plan.leaf))
theorem Try.s43 {r1 : Option Addr} {H : Heap} {R : Value → Heap → Prop} (h : Try.S43 r1 H R) : CallsH Try.prog 43 #[Value.pointer r1] H R :=
  vcFun_sound Try.tab_ok Try.mixed Try.func43 Try.cal43 (p := Try.p43) (args := [Value.pointer r1]) (Eq.mp (by kernel_rfl : Try.S43 r1 H R = vcFun Try.prog Try.tab Try.f43 Try.p43 [Value.pointer r1] H R) h)

/-- scumble/huff.Weight -/
def Try.S44 (lengths1p : Option Addr) (lengths1l : Nat) (lengths1c : Nat) (H : Heap) (R : Value → Heap → Prop) : Prop :=
 br (decide ((((lengths1l : Nat) : Int) : Int) > (300 : Int)))
 (R (Value.tuple #[Value.int .i64 (0 : Int), Value.bool false]) H)
 (∀ X_2 : List Value → Heap → Prop, (∀ sum3 : Int, ∀ t4 : Int, ∀ H_5 : Heap, (br (decide ((t4 : Int) < ((lengths1l : Nat) : Int)))
 (∃ a6 : Addr, lengths1p = some a6 ∧ 0 ≤ t4 ∧ t4 < ((lengths1l : Nat) : Int) ∧ ∃ n7 : Int, cell H_5 (Addr.add a6 (Int.toNat t4 * 1)) = some (Value.int .i64 n7) ∧ ∀ J_8 : List Value → Heap → Prop, (∀ H_9 : Heap, (br (decide ((n7 : Int) > (0 : Int)))
 (0 ≤ (IntKind.wrap .i64 ((16 : Int) - n7)) ∧ X_2 [Value.int .i64 (IntKind.wrap .i64 (sum3 + (shlI .i64 (1 : Int) (IntKind.wrap .i64 ((16 : Int) - n7))))), Value.int .i64 (IntKind.wrap .i64 (t4 + (1 : Int)))] H_9)
 (X_2 [Value.int .i64 sum3, Value.int .i64 (IntKind.wrap .i64 (t4 + (1 : Int)))] H_9)) → J_8 [] H_9) →
 br (decide ((n7 : Int) < (0 : Int))) (R (Value.tuple #[Value.int .i64 (0 : Int), Value.bool false]) H_5) (br (decide ((n7 : Int) > (16 : Int)))
 (R (Value.tuple #[Value.int .i64 (0 : Int), Value.bool false]) H_5)
 (J_8 [] H_5)))
 (R (Value.tuple #[Value.int .i64 sum3, Value.bool true]) H_5)) → X_2 [Value.int .i64 sum3, Value.int .i64 t4] H_5) → X_2 [Value.int .i64 (0 : Int), Value.int .i64 (0 : Int)] H)
def Try.p44 : Plan := (Plan.two Plan.leaf (Plan.two (Plan.two Plan.leaf (Plan.two (Plan.two Plan.leaf Plan.leaf) Plan.leaf)) (Plan.two Plan.leaf (Plan.two (Plan.two Plan.leaf (Plan.one (Plan.loop [(4, 3), (12, 3)] [10, 11] (Plan.two Plan.leaf (Plan.two (Plan.two Plan.leaf Plan.leaf) (Plan.two (Plan.one (Plan.two Plan.leaf (Plan.two (Plan.join [] [4, 6, 10, 11, 12] (Plan.two Plan.leaf (Plan.two (Plan.two Plan.leaf Plan.leaf) Plan.leaf))) (Plan.two Plan.leaf (Plan.two Plan.leaf Plan.leaf))))) Plan.leaf)))))) (Plan.two Plan.leaf Plan.leaf)))))
theorem Try.s44 {lengths1p : Option Addr} {lengths1l : Nat} {lengths1c : Nat} {H : Heap} {R : Value → Heap → Prop} (h : Try.S44 lengths1p lengths1l lengths1c H R) : CallsH Try.prog 44 #[Value.slice lengths1p lengths1l lengths1c] H R :=
  vcFun_sound Try.tab_ok Try.mixed Try.func44 Try.cal44 (p := Try.p44) (args := [Value.slice lengths1p lengths1l lengths1c]) (Eq.mp (by kernel_rfl : Try.S44 lengths1p lengths1l lengths1c H R = vcFun Try.prog Try.tab Try.f44 Try.p44 [Value.slice lengths1p lengths1l lengths1c] H R) h)

/-- (*scumble/huff.Decoder).Step -/
def Try.S45 (d1 : Option Addr) (state2 : Int) (bit3 : Int) (H : Heap) (R : Value → Heap → Prop) : Prop :=
 ∀ J_4 : List Value → Heap → Prop, (∀ H_5 : Heap, (∃ a6 : Addr, d1 = some a6 ∧ ∃ nodes7p : Option Addr, ∃ nodes7l : Nat, ∃ nodes7c : Nat, cell H_5 (Addr.add a6 0) = some (Value.slice nodes7p nodes7l nodes7c) ∧ ∃ a8 : Addr, nodes7p = some a8 ∧ 0 ≤ state2 ∧ state2 < ((nodes7l : Nat) : Int) ∧ 0 ≤ (andI .i64 bit3 (1 : Int)) ∧ (andI .i64 bit3 (1 : Int)) < ((2 : Nat) : Int) ∧ ∃ n9 : Int, cell H_5 (Addr.add (Addr.add a8 (Int.toNat state2 * 2)) (Int.toNat (andI .i64 bit3 (1 : Int)) * 1)) = some (Value.int .i64 n9) ∧ br (decide ((n9 : Int) > (0 : Int)))
 (R (Value.tuple #[Value.int .i64 n9, Value.int .i64 (-1 : Int)]) H_5)
 (br (decide ((n9 : Int) < (0 : Int)))
 (R (Value.tuple #[Value.int .i64 (0 : Int), Value.int .i64 (IntKind.wrap .i64 ((-1 : Int) - n9))]) H_5)
 (R (Value.tuple #[Value.int .i64 (-1 : Int), Value.int .i64 (-1 : Int)]) H_5))) → J_4 [] H_5) →
 br (decide ((state2 : Int) < (0 : Int))) (R (Value.tuple #[Value.int .i64 (-1 : Int), Value.int .i64 (-1 : Int)]) H) (∃ a10 : Addr, d1 = some a10 ∧ ∃ nodes11p : Option Addr, ∃ nodes11l : Nat, ∃ nodes11c : Nat, cell H (Addr.add a10 0) = some (Value.slice nodes11p nodes11l nodes11c) ∧ br (decide ((state2 : Int) ≥ ((nodes11l : Nat) : Int)))
 (R (Value.tuple #[Value.int .i64 (-1 : Int), Value.int .i64 (-1 : Int)]) H)
 (J_4 [] H))
def Try.p45 : Plan := (Plan.two Plan.leaf (Plan.two (Plan.join [] [0, 1, 2] (Plan.two Plan.leaf (Plan.two (Plan.two Plan.leaf Plan.leaf) Plan.leaf))) (Plan.two (Plan.two Plan.leaf (Plan.one (Plan.two Plan.leaf (Plan.two (Plan.two Plan.leaf Plan.leaf) (Plan.two Plan.leaf (Plan.two (Plan.two Plan.leaf Plan.leaf) Plan.leaf)))))) (Plan.two Plan.leaf Plan.leaf))))
theorem Try.s45 {d1 : Option Addr} {state2 : Int} {bit3 : Int} {H : Heap} {R : Value → Heap → Prop} (h : Try.S45 d1 state2 bit3 H R) : CallsH Try.prog 45 #[Value.pointer d1, Value.int .i64 state2, Value.int .i64 bit3] H R :=
  vcFun_sound Try.tab_ok Try.mixed Try.func45 Try.cal45 (p := Try.p45) (args := [Value.pointer d1, Value.int .i64 state2, Value.int .i64 bit3]) (Eq.mp (by kernel_rfl : Try.S45 d1 state2 bit3 H R = vcFun Try.prog Try.tab Try.f45 Try.p45 [Value.pointer d1, Value.int .i64 state2, Value.int .i64 bit3] H R) h)

/-- scumble/flate.length -/
def Try.S46 (s1 : Int) (H : Heap) (R : Value → Heap → Prop) : Prop :=
 br (decide (((IntKind.wrap .i64 (s1 - (257 : Int))) : Int) < (8 : Int)))
 (R (Value.tuple #[Value.int .i64 (IntKind.wrap .i64 ((3 : Int) + (IntKind.wrap .i64 (s1 - (257 : Int))))), Value.int .i64 (0 : Int)]) H)
 (br (((IntKind.wrap .i64 (s1 - (257 : Int))) : Int) == (28 : Int))
 (R (Value.tuple #[Value.int .i64 (258 : Int), Value.int .i64 (0 : Int)]) H)
 ((4 : Int) ≠ 0 ∧ (4 : Int) ≠ 0 ∧ 0 ≤ (IntKind.wrap .i64 ((IntKind.wrap .i64 (Int.tdiv (IntKind.wrap .i64 (s1 - (257 : Int))) (4 : Int))) - (1 : Int))) ∧ R (Value.tuple #[Value.int .i64 (IntKind.wrap .i64 ((3 : Int) + (shlI .i64 (IntKind.wrap .i64 ((4 : Int) + (Int.tmod (IntKind.wrap .i64 (s1 - (257 : Int))) (4 : Int)))) (IntKind.wrap .i64 ((IntKind.wrap .i64 (Int.tdiv (IntKind.wrap .i64 (s1 - (257 : Int))) (4 : Int))) - (1 : Int)))))), Value.int .i64 (IntKind.wrap .i64 ((IntKind.wrap .i64 (Int.tdiv (IntKind.wrap .i64 (s1 - (257 : Int))) (4 : Int))) - (1 : Int)))]) H))
def Try.p46 : Plan := (Plan.two Plan.leaf (Plan.two (Plan.two Plan.leaf (Plan.one (Plan.two Plan.leaf (Plan.two (Plan.two Plan.leaf Plan.leaf) (Plan.two Plan.leaf (Plan.two (Plan.two Plan.leaf Plan.leaf) Plan.leaf)))))) (Plan.two Plan.leaf (Plan.two Plan.leaf Plan.leaf))))
theorem Try.s46 {s1 : Int} {H : Heap} {R : Value → Heap → Prop} (h : Try.S46 s1 H R) : CallsH Try.prog 46 #[Value.int .i64 s1] H R :=
  vcFun_sound Try.tab_ok Try.mixed Try.func46 Try.cal46 (p := Try.p46) (args := [Value.int .i64 s1]) (Eq.mp (by kernel_rfl : Try.S46 s1 H R = vcFun Try.prog Try.tab Try.f46 Try.p46 [Value.int .i64 s1] H R) h)

/-- scumble/flate.distance -/
def Try.S47 (s1 : Int) (H : Heap) (R : Value → Heap → Prop) : Prop :=
 br (decide ((s1 : Int) < (4 : Int)))
 (R (Value.tuple #[Value.int .i64 (IntKind.wrap .i64 ((1 : Int) + s1)), Value.int .i64 (0 : Int)]) H)
 ((2 : Int) ≠ 0 ∧ (2 : Int) ≠ 0 ∧ 0 ≤ (IntKind.wrap .i64 ((IntKind.wrap .i64 (Int.tdiv s1 (2 : Int))) - (1 : Int))) ∧ R (Value.tuple #[Value.int .i64 (IntKind.wrap .i64 ((1 : Int) + (shlI .i64 (IntKind.wrap .i64 ((2 : Int) + (Int.tmod s1 (2 : Int)))) (IntKind.wrap .i64 ((IntKind.wrap .i64 (Int.tdiv s1 (2 : Int))) - (1 : Int)))))), Value.int .i64 (IntKind.wrap .i64 ((IntKind.wrap .i64 (Int.tdiv s1 (2 : Int))) - (1 : Int)))]) H)
def Try.p47 : Plan := (Plan.two Plan.leaf (Plan.two (Plan.two Plan.leaf (Plan.two (Plan.two Plan.leaf Plan.leaf) Plan.leaf)) (Plan.two Plan.leaf (Plan.two Plan.leaf Plan.leaf))))
theorem Try.s47 {s1 : Int} {H : Heap} {R : Value → Heap → Prop} (h : Try.S47 s1 H R) : CallsH Try.prog 47 #[Value.int .i64 s1] H R :=
  vcFun_sound Try.tab_ok Try.mixed Try.func47 Try.cal47 (p := Try.p47) (args := [Value.int .i64 s1]) (Eq.mp (by kernel_rfl : Try.S47 s1 H R = vcFun Try.prog Try.tab Try.f47 Try.p47 [Value.int .i64 s1] H R) h)

/-- scumble/flate.single -/
def Try.S48 (lengths1p : Option Addr) (lengths1l : Nat) (lengths1c : Nat) (H : Heap) (R : Value → Heap → Prop) : Prop :=
 ∀ X_2 : List Value → Heap → Prop, (∀ n3 : Int, ∀ t4 : Int, ∀ H_5 : Heap, (br (decide ((t4 : Int) < ((lengths1l : Nat) : Int)))
 (∃ a6 : Addr, lengths1p = some a6 ∧ 0 ≤ t4 ∧ t4 < ((lengths1l : Nat) : Int) ∧ ∃ l7 : Int, cell H_5 (Addr.add a6 (Int.toNat t4 * 1)) = some (Value.int .i64 l7) ∧ br (decide ((l7 : Int) > (0 : Int)))
 (X_2 [Value.int .i64 (IntKind.wrap .i64 (n3 + (1 : Int))), Value.int .i64 (IntKind.wrap .i64 (t4 + (1 : Int)))] H_5)
 (X_2 [Value.int .i64 n3, Value.int .i64 (IntKind.wrap .i64 (t4 + (1 : Int)))] H_5))
 (R (Value.bool ((n3 : Int) == (1 : Int))) H_5)) → X_2 [Value.int .i64 n3, Value.int .i64 t4] H_5) → X_2 [Value.int .i64 (0 : Int), Value.int .i64 (0 : Int)] H
def Try.p48 : Plan := (Plan.two Plan.leaf (Plan.two Plan.leaf (Plan.two (Plan.two Plan.leaf (Plan.one (Plan.loop [(3, 3), (8, 3)] [6, 7] (Plan.two Plan.leaf (Plan.two (Plan.two Plan.leaf Plan.leaf) (Plan.two (Plan.one (Plan.two Plan.leaf (Plan.two Plan.leaf (Plan.two Plan.leaf Plan.leaf)))) Plan.leaf)))))) (Plan.two Plan.leaf Plan.leaf))))
theorem Try.s48 {lengths1p : Option Addr} {lengths1l : Nat} {lengths1c : Nat} {H : Heap} {R : Value → Heap → Prop} (h : Try.S48 lengths1p lengths1l lengths1c H R) : CallsH Try.prog 48 #[Value.slice lengths1p lengths1l lengths1c] H R :=
  vcFun_sound Try.tab_ok Try.mixed Try.func48 Try.cal48 (p := Try.p48) (args := [Value.slice lengths1p lengths1l lengths1c]) (Eq.mp (by kernel_rfl : Try.S48 lengths1p lengths1l lengths1c H R = vcFun Try.prog Try.tab Try.f48 Try.p48 [Value.slice lengths1p lengths1l lengths1c] H R) h)

end Go.Proofs
