/-
  OWN WORK. Several texts in one: GFunD, GFun, ShS, ShT, FlA, FlB, FlC, FlUa, HuffH, HuffI, HuffJ, HuffK, HuffL, FlD.
-/
import Derived.Test.YtdnfhenncjhenaaMgPngCutsB

set_option linter.unusedVariables false
set_option maxRecDepth 100000
set_option linter.unusedSimpArgs false
namespace Go.Proofs
open Go.Sh Go.Sh.Plan
open Go.IntKind (wrap)
open Int (toNat)
def Try.S77(r1:OA)(n2:Int)(H:Heap)(R:Kv):Prop:=
 ∀J3:Kl,(∀H4,(∀X5:Kl,(∀(v6 k7:Int) H8,(br (decide (k7<n2)) (∃a9,r1=some a9∧ ∃b10p b10l b10c,cell H8 (.add a9 0)=some (.slice b10p b10l b10c)∧ ∃a11,r1=some a11∧ ∃at_12,cell H8 (.add a11 1)=some (.int .i64 at_12)∧(8:Int)≠0∧ ∃a13,b10p=some a13∧0≤(wrap .i64 (Int.tdiv at_12 8))∧(wrap .i64 (Int.tdiv at_12 8))<(b10l:Int)∧ ∃v14,cell H8 (.add a13 (toNat (wrap .i64 (Int.tdiv at_12 8))*1))=some (.int .u8 v14)∧ ∃a15,r1=some a15∧ ∃at_16,cell H8 (.add a15 1)=some (.int .i64 at_16)∧ ∃a17,r1=some a17∧ ∃hi18,cell H8 (.add a17 2)=some (.bool hi18)∧Try.C 83 #[.int .i64 at_16,.bool hi18] H8 fun r19 H20=> ∃r21,r19= .int .i64 r21∧(Ext H8 H20∨(∃v31,cell H20 (.add a13 (toNat (wrap .i64 (Int.tdiv at_12 8))*1))=some (.int .u8 v31)∧Value.int .u8 v31= .int .u8 v14)∧(∃at_32,cell H20 (.add a11 1)=some (.int .i64 at_32)∧Value.int .i64 at_32= .int .i64 at_12)∧(∃b33p b33l b33c,cell H20 (.add a9 0)=some (.slice b33p b33l b33c)∧Value.slice b33p b33l b33c= .slice b10p b10l b10c))∧0≤r21∧ ∀J22:Kl,(∀(v23:Int) H24,(∃a25,r1=some a25∧ ∃at_26,cell H24 (.add a25 1)=some (.int .i64 at_26)∧ ∃a27,r1=some a27∧stAt H24 (.add a27 1) [.int .i64 (wrap .i64 (at_26+1))] fun H28=>X5 [.int .i64 v23,.int .i64 (wrap .i64 (k7+1))] H28)→J22 [.int .i64 v23] H24)→ ∃a29,r1=some a29∧ ∃hi30,cell H20 (.add a29 2)=some (.bool hi30)∧br hi30 (0≤(1:Int)∧J22 [.int .i64 (orI .i64 (shlI .i64 v6 1) (andI .i64 (wrap .i64 (shrI .u8 v14 r21)) 1))] H20) (0≤k7∧J22 [.int .i64 (orI .i64 v6 (shlI .i64 (andI .i64 (wrap .i64 (shrI .u8 v14 r21)) 1) k7))] H20)) (R (.tuple #[.int .i64 v6,.bool true]) H8))→X5 [.int .i64 v6,.int .i64 k7] H8)→X5 [.int .i64 0,.int .i64 0] H4)→J3 [] H4)→
 br (decide (n2<0)) (R (.tuple #[.int .i64 0,.bool false]) H) (br (decide (n2>24)) (R (.tuple #[.int .i64 0,.bool false]) H) (Try.C 92 #[.pointer r1] H fun r34 H35=> ∃r36,r34= .int .i64 r36∧br (decide (n2>r36)) (R (.tuple #[.int .i64 0,.bool false]) H35) (J3 [] H35)))
def Try.p77:Plan:=(tl (two (join [] [0,1] g0) (tl (two (tl (one (loop [(6,3),(22,3)] [0,21] (tl (two (tl leaf) (two (one (tl (tl (two (join [(6,3)] [0,21,22] (tl (tl leaf))) leaf)))) leaf)))))) (tl leaf)))))
theorem Try.s77{r1:OA}{n2:Int}{H R}(h:Try.S77 r1 n2 H R):Try.C 77 #[.pointer r1,.int .i64 n2] H R:=vcs Try.tab_ok Try.mixed Try.func77 Try.cal77 Try.p77 h (by kernel_rfl)
def Try.S78(r1:OA)(H:Heap)(R:Kv):Prop:=
 ∃a2,r1=some a2∧ ∃at_3,cell H (.add a2 1)=some (.int .i64 at_3)∧(8:Int)≠0∧ ∃a4,r1=some a4∧stAt H (.add a4 1) [.int .i64 (wrap .i64 ((wrap .i64 (Int.tdiv (wrap .i64 (at_3+7)) 8))*8))] fun H5=>R (.tuple #[]) H5
def Try.p78:Plan:=leaf
theorem Try.s78{r1:OA}{H R}(h:Try.S78 r1 H R):Try.C 78 #[.pointer r1] H R:=vcs Try.tab_ok Try.mixed Try.func78 Try.cal78 Try.p78 h (by kernel_rfl)
def Try.S79(f1 d2:OA)(H:Heap)(R:Kv):Prop:=
 ∀X3:Kl,(∀(st4:Int) H5,(Try.C 55 #[.pointer f1,.int .i64 1] H5 fun r6 H7=> ∃bi8,r6= .int .i64 bi8∧ ∃a9,f1=some a9∧ ∃e10,cell H7 (.add a9 3)=some (.int .i64 e10)∧br (e10 != 0) (R (.int .i64 0) H7) (Try.C 93 #[.pointer d2,.int .i64 st4,.int .i64 bi8] H7 fun r11 H12=> ∃r13 r14,r11= .tuple #[.int .i64 r13,.int .i64 r14]∧br (decide (r13<0)) (Try.C 60 #[.pointer f1,.int .i64 21] H12 fun r15 H16=>r15= .tuple #[]∧R (.int .i64 0) H16) (br (decide (r14<0)) (X3 [.int .i64 r13] H12) (R (.int .i64 r14) H12))))→X3 [.int .i64 st4] H5)→X3 [.int .i64 0] H
def Try.p79:Plan:=(tl (scope [(5,3)] [0,1] leaf (tl (tg (tl (two (one (tl (two (tl (tl leaf)) (tl (tl leaf))))) (tl leaf)))))))
theorem Try.s79{f1 d2:OA}{H R}(h:Try.S79 f1 d2 H R):Try.C 79 #[.pointer f1,.pointer d2] H R:=vcs Try.tab_ok Try.mixed Try.func79 Try.cal79 Try.p79 h (by kernel_rfl)
def Try.S80(f1:OA)(s2:Int)(di3:OA)(H:Heap)(R:Kv):Prop:=
 br (decide (s2>285))
 (Try.C 60 #[.pointer f1,.int .i64 25] H fun r4 H5=>r4= .tuple #[]∧R (.tuple #[]) H5)
 (Try.C 84 #[.int .i64 s2] H fun r6 H7=> ∃r8 r9,r6= .tuple #[.int .i64 r8,.int .i64 r9]∧Try.C 55 #[.pointer f1,.int .i64 r9] H7 fun r10 H11=> ∃r12,r10= .int .i64 r12∧Try.C 79 #[.pointer f1,.pointer di3] H11 fun r13 H14=> ∃t15,r13= .int .i64 t15∧ ∃a16,f1=some a16∧ ∃e17,cell H14 (.add a16 3)=some (.int .i64 e17)∧br (e17 != 0) (R (.tuple #[]) H14) (br (decide (t15>29)) (Try.C 60 #[.pointer f1,.int .i64 25] H14 fun r18 H19=>r18= .tuple #[]∧R (.tuple #[]) H19) (Try.C 68 #[.int .i64 t15] H14 fun r20 H21=> ∃r22 r23,r20= .tuple #[.int .i64 r22,.int .i64 r23]∧Try.C 55 #[.pointer f1,.int .i64 r23] H21 fun r24 H25=> ∃r26,r24= .int .i64 r26∧ ∃a27,f1=some a27∧ ∃e28,cell H25 (.add a27 3)=some (.int .i64 e28)∧br (e28 != 0) (R (.tuple #[]) H25) (∃a29,f1=some a29∧ ∃ou30p ou30l ou30c,cell H25 (.add a29 1)=some (.slice ou30p ou30l ou30c)∧br (decide (((wrap .i64 (r22+r26)):Int)>(ou30l:Int))) (Try.C 60 #[.pointer f1,.int .i64 22] H25 fun r31 H32=>r31= .tuple #[]∧R (.tuple #[]) H32) (∃a33,f1=some a33∧ ∃mo34,cell H25 (.add a33 2)=some (.int .i64 mo34)∧ ∃a35,f1=some a35∧ ∃ou36p ou36l ou36c,cell H25 (.add a35 1)=some (.slice ou36p ou36l ou36c)∧br (decide (((wrap .i64 (r8+r12)):Int)>(wrap .i64 (mo34-(ou36l:Int))))) (Try.C 60 #[.pointer f1,.int .i64 24] H25 fun r37 H38=>r37= .tuple #[]∧R (.tuple #[]) H38) (∀X39:Kl,(∀(t40:Int) H41,(br (decide (t40<(wrap .i64 (r8+r12)))) (∃a42,f1=some a42∧ ∃ou43p ou43l ou43c,cell H41 (.add a42 1)=some (.slice ou43p ou43l ou43c)∧ ∃a44,f1=some a44∧ ∃ou45p ou45l ou45c,cell H41 (.add a44 1)=some (.slice ou45p ou45l ou45c)∧ ∃a46,f1=some a46∧ ∃ou47p ou47l ou47c,cell H41 (.add a46 1)=some (.slice ou47p ou47l ou47c)∧ ∃a48,ou45p=some a48∧0≤(wrap .i64 ((ou47l:Int)-(wrap .i64 (r22+r26))))∧(wrap .i64 ((ou47l:Int)-(wrap .i64 (r22+r26))))<(ou45l:Int)∧ ∃v49,cell H41 (.add a48 (toNat (wrap .i64 ((ou47l:Int)-(wrap .i64 (r22+r26))))*1))=some (.int .u8 v49)∧alc H41 (.cells #[.int .u8 v49] 5) fun b50 H51=>(Ext H41 H51∨(∃ou56p ou56l ou56c,cell H51 (.add a42 1)=some (.slice ou56p ou56l ou56c)∧Value.slice ou56p ou56l ou56c= .slice ou43p ou43l ou43c))∧appQ 1 1 #[.int .u8 0] H51 ou43p ou43l ou43c (some ⟨b50,0,none⟩) 1 5 fun ap52p ap52l ap52c H53=> ∃a54,f1=some a54∧stAt H53 (.add a54 1) [.slice ap52p ap52l ap52c] fun H55=>X39 [.int .i64 (wrap .i64 (t40+1))] H55) (R (.tuple #[]) H41))→X39 [.int .i64 t40] H41)→X39 [.int .i64 0] H25))))))
def Try.p80:Plan:=(tg (tl (tl (tl (two (tl (tl leaf)) (tg (tl (tl (one (tl (tl (tl (tl (tl (tl (tl (one (loop [(47,3)] [0,9,46] (tl (two (tl leaf) (two (one leaf) leaf)))))))))))))))))))))
theorem Try.s80{f1:OA}{s2:Int}{di3:OA}{H R}(h:Try.S80 f1 s2 di3 H R):Try.C 80 #[.pointer f1,.int .i64 s2,.pointer di3] H R:=vcs Try.tab_ok Try.mixed Try.func80 Try.cal80 Try.p80 h (by kernel_rfl)
def Try.S81(f1 le2p:OA)(le2l le2c:Nat)(lo3 none_4:Bool)(H:Heap)(R:Kv):Prop:=
 Try.C 57 #[.slice le2p le2l le2c] H fun r5 H6=> ∃r7 r8,r5= .tuple #[.pointer r7,.bool r8]∧Try.C 85 #[.slice le2p le2l le2c] H6 fun r9 H10=> ∃r11 r12,r9= .tuple #[.int .i64 r11,.bool r12]∧ ∀J13:Kl,(∀H14,(R (.pointer r7) H14)→J13 [] H14)→
 br (!r8) (Try.C 60 #[.pointer f1,.int .i64 21] H10 fun r15 H16=>r15= .tuple #[]∧J13 [] H16) (br (r11 != 65536) (br lo3 (br (r11==32768) (Try.C 94 #[.slice le2p le2l le2c] H10 fun r17 H18=> ∃r19,r17= .bool r19∧br (!r19) (br none_4 (br (!(r11==0)) (Try.C 60 #[.pointer f1,.int .i64 21] H18 fun r20 H21=>r20= .tuple #[]∧J13 [] H21) (J13 [] H18)) (Try.C 60 #[.pointer f1,.int .i64 21] H18 fun r22 H23=>r22= .tuple #[]∧J13 [] H23)) (J13 [] H18)) (br none_4 (br (!(r11==0)) (Try.C 60 #[.pointer f1,.int .i64 21] H10 fun r24 H25=>r24= .tuple #[]∧J13 [] H25) (J13 [] H10)) (Try.C 60 #[.pointer f1,.int .i64 21] H10 fun r26 H27=>r26= .tuple #[]∧J13 [] H27))) (br none_4 (br (!(r11==0)) (Try.C 60 #[.pointer f1,.int .i64 21] H10 fun r28 H29=>r28= .tuple #[]∧J13 [] H29) (J13 [] H10)) (Try.C 60 #[.pointer f1,.int .i64 21] H10 fun r30 H31=>r30= .tuple #[]∧J13 [] H31))) (J13 [] H10))
def Try.p81:Plan:=(tl (tl (tl (two (join [] [9] (tl (tl leaf))) (tl leaf)))))
theorem Try.s81{f1 le2p:OA}{le2l le2c:Nat}{lo3 none_4:Bool}{H R}(h:Try.S81 f1 le2p le2l le2c lo3 none_4 H R):Try.C 81 #[.pointer f1,.slice le2p le2l le2c,.bool lo3,.bool none_4] H R:=vcs Try.tab_ok Try.mixed Try.func81 Try.cal81 Try.p81 h (by kernel_rfl)
def Try.S82(b1p:OA)(b1l b1c:Nat)(H:Heap)(R:Kv):Prop:=
 ∃a2,b1p=some a2∧0≤(0:Int)∧(0:Int)<(b1l:Int)∧ ∃v3,cell H (.add a2 (toNat (0:Int)*1))=some (.int .u8 v3)∧0≤(8:Int)∧ ∃a4,b1p=some a4∧0≤(1:Int)∧(1:Int)<(b1l:Int)∧ ∃v5,cell H (.add a4 (toNat (1:Int)*1))=some (.int .u8 v5)∧0≤(4:Int)∧ ∃a6,b1p=some a6∧0≤(2:Int)∧(2:Int)<(b1l:Int)∧ ∃v7,cell H (.add a6 (toNat (2:Int)*1))=some (.int .u8 v7)∧R (.int .i64 (andI .i64 (xorI .i64 (xorI .i64 (shlI .i64 (wrap .i64 v3) 8) (shlI .i64 (wrap .i64 v5) 4)) (wrap .i64 v7)) 4095)) H
def Try.p82:Plan:=(tl (tl leaf))
theorem Try.s82{b1p:OA}{b1l b1c:Nat}{H R}(h:Try.S82 b1p b1l b1c H R):Try.C 82 #[.slice b1p b1l b1c] H R:=vcs Try.tab_ok Try.mixed Try.func82 Try.cal82 Try.p82 h (by kernel_rfl)
def Try.S83(at_1:Int)(hi2:Bool)(H:Heap)(R:Kv):Prop:=
 br hi2
 ((8:Int)≠0∧R (.int .i64 (wrap .i64 ((7:Int)-(Int.tmod at_1 8)))) H)
 ((8:Int)≠0∧R (.int .i64 (Int.tmod at_1 8)) H)
def Try.p83:Plan:=(tl (tg (tl leaf)))
theorem Try.s83{at_1:Int}{hi2:Bool}{H R}(h:Try.S83 at_1 hi2 H R):Try.C 83 #[.int .i64 at_1,.bool hi2] H R:=vcs Try.tab_ok Try.mixed Try.func83 Try.cal83 Try.p83 h (by kernel_rfl)
def Try.S84(s1:Int)(H:Heap)(R:Kv):Prop:=
 br (decide (((wrap .i64 (s1-257)):Int)<8))
 (R (.tuple #[.int .i64 (wrap .i64 ((3:Int)+(wrap .i64 (s1-257)))),.int .i64 0]) H)
 (br (((wrap .i64 (s1-257)):Int)==28) (R (.tuple #[.int .i64 258,.int .i64 0]) H) ((4:Int)≠0∧(4:Int)≠0∧0≤(wrap .i64 ((wrap .i64 (Int.tdiv (wrap .i64 (s1-257)) 4))-1))∧R (.tuple #[.int .i64 (wrap .i64 ((3:Int)+(shlI .i64 (wrap .i64 ((4:Int)+(Int.tmod (wrap .i64 (s1-257)) 4))) (wrap .i64 ((wrap .i64 (Int.tdiv (wrap .i64 (s1-257)) 4))-1))))),.int .i64 (wrap .i64 ((wrap .i64 (Int.tdiv (wrap .i64 (s1-257)) 4))-1))]) H))
def Try.p84:Plan:=(tl (two (tl (one (tl (two (tl leaf) g0)))) (tl (tl leaf))))
theorem Try.s84{s1:Int}{H R}(h:Try.S84 s1 H R):Try.C 84 #[.int .i64 s1] H R:=vcs Try.tab_ok Try.mixed Try.func84 Try.cal84 Try.p84 h (by kernel_rfl)
def Try.S85(le1p:OA)(le1l le1c:Nat)(H:Heap)(R:Kv):Prop:=
 br (decide (((le1l:Int):Int)>300))
 (R (.tuple #[.int .i64 0,.bool false]) H)
 (∀X2:Kl,(∀(su3 t4:Int) H5,(br (decide (t4<(le1l:Int))) (∃a6,le1p=some a6∧0≤t4∧t4<(le1l:Int)∧ ∃n7,cell H5 (.add a6 (toNat t4*1))=some (.int .i64 n7)∧ ∀J8:Kl,(∀H9,(br (decide (n7>0)) (0≤(wrap .i64 ((16:Int)-n7))∧X2 [.int .i64 (wrap .i64 (su3+(shlI .i64 1 (wrap .i64 ((16:Int)-n7))))),.int .i64 (wrap .i64 (t4+1))] H9) (X2 [.int .i64 su3,.int .i64 (wrap .i64 (t4+1))] H9))→J8 [] H9)→br (decide (n7<0)) (R (.tuple #[.int .i64 0,.bool false]) H5) (br (decide (n7>16)) (R (.tuple #[.int .i64 0,.bool false]) H5) (J8 [] H5))) (R (.tuple #[.int .i64 su3,.bool true]) H5))→X2 [.int .i64 su3,.int .i64 t4] H5)→X2 [.int .i64 0,.int .i64 0] H)
def Try.p85:Plan:=(tl (tg (tl (two (tl (one (loop [(4,3),(12,3)] [10,11] (tl (two (tl leaf) (two (one (tl (two (join [] [4,6,10,11,12] g0) (tl (tl leaf))))) leaf)))))) (tl leaf)))))
theorem Try.s85{le1p:OA}{le1l le1c:Nat}{H R}(h:Try.S85 le1p le1l le1c H R):Try.C 85 #[.slice le1p le1l le1c] H R:=vcs Try.tab_ok Try.mixed Try.func85 Try.cal85 Try.p85 h (by kernel_rfl)
def Try.S86(s1p:OA)(s1l s1c:Nat)(H:Heap)(R:Kv):Prop:=
 br (Option.isNone s1p)
 (R (.slice none 0 0) H)
 (alc H (.cells #[] 3) fun b2 H3=>appQ 1 8 #[.int .i64 0] H3 (some ⟨b2,0,none⟩) 0 0 s1p s1l 3 fun ap4p ap4l ap4c H5=>R (.slice ap4p ap4l ap4c) H5)
def Try.p86:Plan:=(tl (tg (tl leaf)))
theorem Try.s86{s1p:OA}{s1l s1c:Nat}{H R}(h:Try.S86 s1p s1l s1c H R):Try.C 86 #[.slice s1p s1l s1c] H R:=vcs Try.tab_ok Try.mixed Try.func86 Try.cal86 Try.p86 h (by kernel_rfl)
def Try.S87(s1p:OA)(s1l s1c:Nat)(n2:Int)(H:Heap)(R:Kv):Prop:=
 ∀J3:Kl,(∀H4,(br (decide (((wrap .i64 (n2-(wrap .i64 ((s1c:Int)-(s1l:Int))))):Int)>0)) (0≤(s1c:Int)∧(s1c:Int)≤(s1c:Int)∧appZ 1 8 #[.int .i64 0] H4 (if s1c=0 then s1p else Option.map (fun x=>Addr.add x (0*1)) s1p) ((toNat (s1c:Int))-0) (s1c-0) (wrap .i64 (n2-(wrap .i64 ((s1c:Int)-(s1l:Int))))) 3 fun ap5p ap5l ap5c H6=>0≤(s1l:Int)∧(s1l:Int)≤(ap5c:Int)∧R (.slice (if ap5c=0 then ap5p else Option.map (fun x=>Addr.add x (0*1)) ap5p) ((toNat (s1l:Int))-0) (ap5c-0)) H6) (R (.slice s1p s1l s1c) H4))→J3 [] H4)→
 br (decide (n2<0))
 (False)
 (J3 [] H)
def Try.p87:Plan:=(tl (two (join [] [0,1] (tl (tl leaf))) (two (tl (tl (tl leaf))) (tl leaf))))
theorem Try.s87{s1p:OA}{s1l s1c:Nat}{n2:Int}{H R}(h:Try.S87 s1p s1l s1c n2 H R):Try.C 87 #[.slice s1p s1l s1c,.int .i64 n2] H R:=vcs Try.tab_ok Try.mixed Try.func87 Try.cal87 Try.p87 h (by kernel_rfl)
def Try.S88(x1p:OA)(x1l x1c cm2g:Nat)(cm2x cm2y:AV)(H:Heap)(R:Kv):Prop:=
 Try.C 95 #[.slice x1p x1l x1c,.int .i64 (x1l:Int),.func (.func cm2g) cm2x cm2y] H fun r3 H4=>r3= .tuple #[]∧R (.tuple #[]) H4
def Try.p88:Plan:=leaf
theorem Try.s88{x1p:OA}{x1l x1c cm2g:Nat}{cm2x cm2y:AV}{H R}(h:Try.S88 x1p x1l x1c cm2g cm2x cm2y H R):Try.C 88 #[.slice x1p x1l x1c,.func (.func cm2g) cm2x cm2y] H R:=vcs Try.tab_ok Try.mixed Try.func88 Try.cal88 Try.p88 h (by kernel_rfl)
def Try.S89(a1 b2:AV)(H:Heap)(R:Kv):Prop:=
 alc H (.cells a1 136) fun b3 H4=>alc H4 (.cells b2 136) fun b5 H6=> ∃co7,cell H6 (.add ⟨b3,0,none⟩ 0)=some (.int .i64 co7)∧ ∃co8,cell H6 (.add ⟨b5,0,none⟩ 0)=some (.int .i64 co8)∧R (.int .i64 (wrap .i64 (co7-co8))) H6
def Try.p89:Plan:=(tl (tl leaf))
theorem Try.s89{a1 b2:AV}{H R}(h:Try.S89 a1 b2 H R):Try.C 89 #[.agg a1,.agg b2] H R:=vcs Try.tab_ok Try.mixed Try.func89 Try.cal89 Try.p89 h (by kernel_rfl)
def Try.S90(a1p:OA)(a1l a1c:Nat)(b2p:OA)(b2l b2c:Nat)(H:Heap)(R:Kv):Prop:=
 alc H (.cells #[.slice a1p a1l a1c,.slice b2p b2l b2c] 134) fun b3 H4=>Try.C 96 #[.slice (some ⟨b3,0,none⟩) 2 2] H4 fun r5 H6=> ∃ou7p ou7l ou7c,r5= .slice ou7p ou7l ou7c∧Try.C 88 #[.slice ou7p ou7l ou7c,.func (.func 97) #[] #[]] H6 fun r8 H9=>r8= .tuple #[]∧R (.slice ou7p ou7l ou7c) H9
def Try.p90:Plan:=(tl (tl (tl (tl leaf))))
theorem Try.s90{a1p:OA}{a1l a1c:Nat}{b2p:OA}{b2l b2c:Nat}{H R}(h:Try.S90 a1p a1l a1c b2p b2l b2c H R):Try.C 90 #[.slice a1p a1l a1c,.slice b2p b2l b2c] H R:=vcs Try.tab_ok Try.mixed Try.func90 Try.cal90 Try.p90 h (by kernel_rfl)
def Try.S91(ro1p:OA)(ro1l ro1c:Nat)(H:Heap)(R:Kv):Prop:=
 ∀X2:Kl,(∀(ou3p:OA) (ou3l ou3c:Nat) (i4:Int) H5,(br (decide (((wrap .i64 (i4+1)):Int)<(ro1l:Int))) (∃a6,ro1p=some a6∧0≤i4∧i4<(ro1l:Int)∧ ∃co7,cell H5 (.add (.add a6 (toNat i4*2)) 0)=some (.int .i64 co7)∧ ∃a8,ro1p=some a8∧0≤(wrap .i64 (i4+1))∧(wrap .i64 (i4+1))<(ro1l:Int)∧ ∃co9,cell H5 (.add (.add a8 (toNat (wrap .i64 (i4+1))*2)) 0)=some (.int .i64 co9)∧ ∃a10,ro1p=some a10∧0≤i4∧i4<(ro1l:Int)∧ ∃sy11p sy11l sy11c,cell H5 (.add (.add a10 (toNat i4*2)) 1)=some (.slice sy11p sy11l sy11c)∧ ∃a12,ro1p=some a12∧0≤(wrap .i64 (i4+1))∧(wrap .i64 (i4+1))<(ro1l:Int)∧ ∃sy13p sy13l sy13c,cell H5 (.add (.add a12 (toNat (wrap .i64 (i4+1))*2)) 1)=some (.slice sy13p sy13l sy13c)∧alc H5 (.cells #[.slice sy11p sy11l sy11c,.slice sy13p sy13l sy13c] 74) fun b14 H15=>(Ext H5 H15∨(∃co25,cell H15 (.add (.add a8 (toNat (wrap .i64 (i4+1))*2)) 0)=some (.int .i64 co25)∧Value.int .i64 co25= .int .i64 co9)∧(∃co26,cell H15 (.add (.add a6 (toNat i4*2)) 0)=some (.int .i64 co26)∧Value.int .i64 co26= .int .i64 co7))∧Try.C 72 #[.slice (some ⟨b14,0,none⟩) 2 2] H15 fun r16 H17=> ∃r18p r18l r18c,r16= .slice r18p r18l r18c∧(Ext H15 H17∨(∃co23,cell H17 (.add (.add a8 (toNat (wrap .i64 (i4+1))*2)) 0)=some (.int .i64 co23)∧Value.int .i64 co23= .int .i64 co9)∧(∃co24,cell H17 (.add (.add a6 (toNat i4*2)) 0)=some (.int .i64 co24)∧Value.int .i64 co24= .int .i64 co7))∧#[Value.int .i64 (wrap .i64 (co7+co9)),Value.slice r18p r18l r18c].size=2∧0+2≤2∧alc H17 (.cells (List.toArray (setL [.int .i64 0,.slice none 0 0] 0 (Array.toList #[.int .i64 (wrap .i64 (co7+co9)),.slice r18p r18l r18c]))) 136) fun b19 H20=>appQ 2 32 #[.int .i64 0,.slice none 0 0] H20 ou3p ou3l ou3c (some ⟨b19,0,none⟩) 1 136 fun ou21p ou21l ou21c H22=>X2 [.slice ou21p ou21l ou21c,.int .i64 (wrap .i64 (i4+2))] H22) (R (.slice ou3p ou3l ou3c) H5))→X2 [.slice ou3p ou3l ou3c,.int .i64 i4] H5)→X2 [.slice none 0 0,.int .i64 0] H
def Try.p91:Plan:=(tl (tl (two (tl (one (loop [(3,134),(4,3)] [0] (two (tl (tl leaf)) (two (one leaf) leaf))))) (tl leaf))))
theorem Try.s91{ro1p:OA}{ro1l ro1c:Nat}{H R}(h:Try.S91 ro1p ro1l ro1c H R):Try.C 91 #[.slice ro1p ro1l ro1c] H R:=vcs Try.tab_ok Try.mixed Try.func91 Try.cal91 Try.p91 h (by kernel_rfl)
def Try.S92(r1:OA)(H:Heap)(R:Kv):Prop:=
 ∃a2,r1=some a2∧ ∃b3p b3l b3c,cell H (.add a2 0)=some (.slice b3p b3l b3c)∧ ∃a4,r1=some a4∧ ∃at_5,cell H (.add a4 1)=some (.int .i64 at_5)∧R (.int .i64 (wrap .i64 ((wrap .i64 ((8:Int)*(b3l:Int)))-at_5))) H
def Try.p92:Plan:=(tl (tl leaf))
theorem Try.s92{r1:OA}{H R}(h:Try.S92 r1 H R):Try.C 92 #[.pointer r1] H R:=vcs Try.tab_ok Try.mixed Try.func92 Try.cal92 Try.p92 h (by kernel_rfl)
def Try.S93(d1:OA)(st2 bi3:Int)(H:Heap)(R:Kv):Prop:=
 ∀J4:Kl,(∀H5,(∃a6,d1=some a6∧ ∃no7p no7l no7c,cell H5 (.add a6 0)=some (.slice no7p no7l no7c)∧ ∃a8,no7p=some a8∧0≤st2∧st2<(no7l:Int)∧0≤(andI .i64 bi3 1)∧(andI .i64 bi3 1)<((2:Nat):Int)∧ ∃n9,cell H5 (.add (.add a8 (toNat st2*2)) (toNat (andI .i64 bi3 1)*1))=some (.int .i64 n9)∧br (decide (n9>0)) (R (.tuple #[.int .i64 n9,.int .i64 (-1:Int)]) H5) (br (decide (n9<0)) (R (.tuple #[.int .i64 0,.int .i64 (wrap .i64 ((-1:Int)-n9))]) H5) (R (.tuple #[.int .i64 (-1:Int),.int .i64 (-1:Int)]) H5)))→J4 [] H5)→
 br (decide (st2<0)) (R (.tuple #[.int .i64 (-1:Int),.int .i64 (-1:Int)]) H) (∃a10,d1=some a10∧ ∃no11p no11l no11c,cell H (.add a10 0)=some (.slice no11p no11l no11c)∧br (decide (st2≥(no11l:Int))) (R (.tuple #[.int .i64 (-1:Int),.int .i64 (-1:Int)]) H) (J4 [] H))
def Try.p93:Plan:=(tl (two (join [] [0,1,2] g0) (two (tl (one (tl (two (tl leaf) g0)))) (tl leaf))))
theorem Try.s93{d1:OA}{st2 bi3:Int}{H R}(h:Try.S93 d1 st2 bi3 H R):Try.C 93 #[.pointer d1,.int .i64 st2,.int .i64 bi3] H R:=vcs Try.tab_ok Try.mixed Try.func93 Try.cal93 Try.p93 h (by kernel_rfl)
def Try.S94(le1p:OA)(le1l le1c:Nat)(H:Heap)(R:Kv):Prop:=
 ∀X2:Kl,(∀(n3 t4:Int) H5,(br (decide (t4<(le1l:Int))) (∃a6,le1p=some a6∧0≤t4∧t4<(le1l:Int)∧ ∃l7,cell H5 (.add a6 (toNat t4*1))=some (.int .i64 l7)∧br (decide (l7>0)) (X2 [.int .i64 (wrap .i64 (n3+1)),.int .i64 (wrap .i64 (t4+1))] H5) (X2 [.int .i64 n3,.int .i64 (wrap .i64 (t4+1))] H5)) (R (.bool (n3==1)) H5))→X2 [.int .i64 n3,.int .i64 t4] H5)→X2 [.int .i64 0,.int .i64 0] H
def Try.p94:Plan:=(tl (tl (two (tl (one (loop [(3,3),(8,3)] [6,7] (tl (two (tl leaf) (two (one (tl (tl (tl leaf)))) leaf)))))) (tl leaf))))
theorem Try.s94{le1p:OA}{le1l le1c:Nat}{H R}(h:Try.S94 le1p le1l le1c H R):Try.C 94 #[.slice le1p le1l le1c] H R:=vcs Try.tab_ok Try.mixed Try.func94 Try.cal94 Try.p94 h (by kernel_rfl)
def Try.S95(da1p:OA)(da1l da1c:Nat)(n2:Int)(cm3g:Nat)(cm3x cm3y:AV)(H:Heap)(R:Kv):Prop:=
 ∀X4:Kl,(∀(a5 b6:Int) H7,(br (decide (b6≤n2)) (Try.C 98 #[.slice da1p da1l da1c,.int .i64 a5,.int .i64 b6,.func (.func cm3g) cm3x cm3y] H7 fun r8 H9=>r8= .tuple #[]∧X4 [.int .i64 b6,.int .i64 (wrap .i64 (b6+20))] H9) (Try.C 98 #[.slice da1p da1l da1c,.int .i64 a5,.int .i64 n2,.func (.func cm3g) cm3x cm3y] H7 fun r10 H11=>r10= .tuple #[]∧ ∀X12:Kl,(∀(bl13:Int) H14,(br (decide (bl13<n2)) (∀X15:Kl,(∀(a16 b17:Int) H18,(br (decide (b17≤n2)) (Try.C 99 #[.slice da1p da1l da1c,.int .i64 a16,.int .i64 (wrap .i64 (a16+bl13)),.int .i64 b17,.func (.func cm3g) cm3x cm3y] H18 fun r19 H20=>r19= .tuple #[]∧X15 [.int .i64 b17,.int .i64 (wrap .i64 (b17+(wrap .i64 ((2:Int)*bl13))))] H20) (br (decide (((wrap .i64 (a16+bl13)):Int)<n2)) (Try.C 99 #[.slice da1p da1l da1c,.int .i64 a16,.int .i64 (wrap .i64 (a16+bl13)),.int .i64 n2,.func (.func cm3g) cm3x cm3y] H18 fun r21 H22=>r21= .tuple #[]∧X12 [.int .i64 (wrap .i64 (bl13*2))] H22) (X12 [.int .i64 (wrap .i64 (bl13*2))] H18)))→X15 [.int .i64 a16,.int .i64 b17] H18)→X15 [.int .i64 0,.int .i64 (wrap .i64 ((2:Int)*bl13))] H14) (R (.tuple #[]) H14))→X12 [.int .i64 bl13] H14)→X12 [.int .i64 20] H11))→X4 [.int .i64 a5,.int .i64 b6] H7)→X4 [.int .i64 0,.int .i64 20] H
def Try.p95:Plan:=(tl (tl (two (one (loop [(7,3),(8,3)] [0,1,2,6] (two (tl (tl leaf)) (one (tl (tl leaf)))))) (tl (one (loop [(6,3)] [0,1,2] (two (tl (tl leaf)) (one (tl (two (one (loop [(7,3),(8,3)] [0,1,2,6] (two (tl (tl leaf)) (one (tl (tl leaf)))))) (two (tl (tl (tl leaf))) leaf)))))))))))
theorem Try.s95{da1p:OA}{da1l da1c:Nat}{n2:Int}{cm3g:Nat}{cm3x cm3y:AV}{H R}(h:Try.S95 da1p da1l da1c n2 cm3g cm3x cm3y H R):Try.C 95 #[.slice da1p da1l da1c,.int .i64 n2,.func (.func cm3g) cm3x cm3y] H R:=vcs Try.tab_ok Try.mixed Try.func95 Try.cal95 Try.p95 h (by kernel_rfl)
def Try.S96(sl1p:OA)(sl1l sl1c:Nat)(H:Heap)(R:Kv):Prop:=
 ∀X2:Kl,(∀(si3 t4:Int) H5,(br (decide (t4<(sl1l:Int))) (∃a6,sl1p=some a6∧0≤t4∧t4<(sl1l:Int)∧ ∃s7p s7l s7c,cell H5 (.add a6 (toNat t4*1))=some (.slice s7p s7l s7c)∧br (decide (((wrap .i64 (si3+(s7l:Int))):Int)<0)) (False) (X2 [.int .i64 (wrap .i64 (si3+(s7l:Int))),.int .i64 (wrap .i64 (t4+1))] H5)) (Try.C 100 #[.slice none 0 0,.int .i64 si3] H5 fun r8 H9=> ∃ne10p ne10l ne10c,r8= .slice ne10p ne10l ne10c∧ ∀X11:Kl,(∀(ne12p:OA) (ne12l ne12c:Nat) (t13:Int) H14,(br (decide (t13<(sl1l:Int))) (∃a15,sl1p=some a15∧0≤t13∧t13<(sl1l:Int)∧ ∃s16p s16l s16c,cell H14 (.add a15 (toNat t13*1))=some (.slice s16p s16l s16c)∧appQ 2 32 #[.int .i64 0,.slice none 0 0] H14 ne12p ne12l ne12c s16p s16l 136 fun ne17p ne17l ne17c H18=>X11 [.slice ne17p ne17l ne17c,.int .i64 (wrap .i64 (t13+1))] H18) (R (.slice ne12p ne12l ne12c) H14))→X11 [.slice ne12p ne12l ne12c,.int .i64 t13] H14)→X11 [.slice ne10p ne10l ne10c,.int .i64 0] H9))→X2 [.int .i64 si3,.int .i64 t4] H5)→X2 [.int .i64 0,.int .i64 0] H
def Try.p96:Plan:=(tl (tl (two (tl (one (loop [(3,3),(11,3)] [0,9,10] (tl (two (tl leaf) (two (one (tl (tl (tl (tl leaf))))) leaf)))))) (tl (two (tl (one (loop [(6,134),(27,3)] [25,26] (tl (two (tl leaf) (two (one (tl leaf)) leaf)))))) (tl leaf))))))
theorem Try.s96{sl1p:OA}{sl1l sl1c:Nat}{H R}(h:Try.S96 sl1p sl1l sl1c H R):Try.C 96 #[.slice sl1p sl1l sl1c] H R:=vcs Try.tab_ok Try.mixed Try.func96 Try.cal96 Try.p96 h (by kernel_rfl)
def Try.S97(x1 y2:AV)(H:Heap)(R:Kv):Prop:=
 alc H (.cells x1 136) fun b3 H4=>alc H4 (.cells y2 136) fun b5 H6=> ∃co7,cell H6 (.add ⟨b3,0,none⟩ 0)=some (.int .i64 co7)∧ ∃co8,cell H6 (.add ⟨b5,0,none⟩ 0)=some (.int .i64 co8)∧R (.int .i64 (wrap .i64 (co7-co8))) H6
def Try.p97:Plan:=(tl (tl leaf))
theorem Try.s97{x1 y2:AV}{H R}(h:Try.S97 x1 y2 H R):Try.C 97 #[.agg x1,.agg y2] H R:=vcs Try.tab_ok Try.mixed Try.func97 Try.cal97 Try.p97 h (by kernel_rfl)
def Try.S98(da1p:OA)(da1l da1c:Nat)(a2 b3:Int)(cm4g:Nat)(cm4x cm4y:AV)(H:Heap)(R:Kv):Prop:=
 ∀X5:Kl,(∀(i6:Int) H7,(br (decide (i6<b3)) (∀X8:Kl,(∀(j9:Int) H10,(∀J11:Kl,(∀H12,(∃a13,da1p=some a13∧0≤(wrap .i64 (j9-1))∧(wrap .i64 (j9-1))<(da1l:Int)∧ ∃v14,v14.size=2∧rowIn H12 (.add a13 (toNat (wrap .i64 (j9-1))*2)) v14∧ ∃a15,da1p=some a15∧0≤j9∧j9<(da1l:Int)∧ ∃v16,v16.size=2∧rowIn H12 (.add a15 (toNat j9*2)) v16∧ ∃a17,da1p=some a17∧0≤j9∧j9<(da1l:Int)∧v14.size=2∧stAt H12 (.add a17 (toNat j9*2)) v14.toList fun H18=> ∃a19,da1p=some a19∧0≤(wrap .i64 (j9-1))∧(wrap .i64 (j9-1))<(da1l:Int)∧v16.size=2∧stAt H18 (.add a19 (toNat (wrap .i64 (j9-1))*2)) v16.toList fun H20=>X8 [.int .i64 (wrap .i64 (j9-1))] H20)→J11 [] H12)→br (decide (j9>a2)) (∃a21,da1p=some a21∧0≤j9∧j9<(da1l:Int)∧ ∃v22,v22.size=2∧rowIn H10 (.add a21 (toNat j9*2)) v22∧ ∃a23,da1p=some a23∧0≤(wrap .i64 (j9-1))∧(wrap .i64 (j9-1))<(da1l:Int)∧ ∃v24,v24.size=2∧rowIn H10 (.add a23 (toNat (wrap .i64 (j9-1))*2)) v24∧Try.C cm4g (List.toArray (Array.toList cm4x++[Value.agg v22,Value.agg v24]++Array.toList cm4y)) H10 fun r25 H26=> ∃r27,r25= .int .i64 r27∧br (decide (r27<0)) (J11 [] H26) (X5 [.int .i64 (wrap .i64 (i6+1))] H26)) (X5 [.int .i64 (wrap .i64 (i6+1))] H10))→X8 [.int .i64 j9] H10)→X8 [.int .i64 i6] H7) (R (.tuple #[]) H7))→X5 [.int .i64 i6] H7)→X5 [.int .i64 (wrap .i64 (a2+1))] H
def Try.p98:Plan:=(tl (one (loop [(8,3)] [0,1,2,3] (two (tl (tl leaf)) (two (one (tl (one (loop [(9,3)] [0,1,2,3,8] (two (join [] [0,1,2,3,8,9] (tl (tl leaf))) (two (one leaf) leaf)))))) leaf)))))
theorem Try.s98{da1p:OA}{da1l da1c:Nat}{a2 b3:Int}{cm4g:Nat}{cm4x cm4y:AV}{H R}(h:Try.S98 da1p da1l da1c a2 b3 cm4g cm4x cm4y H R):Try.C 98 #[.slice da1p da1l da1c,.int .i64 a2,.int .i64 b3,.func (.func cm4g) cm4x cm4y] H R:=vcs Try.tab_ok Try.mixed Try.func98 Try.cal98 Try.p98 h (by kernel_rfl)
def Try.S99(da1p:OA)(da1l da1c:Nat)(a2 m3 b4:Int)(cm5g:Nat)(cm5x cm5y:AV)(H:Heap)(R:Kv):Prop:=
 br (((wrap .i64 (m3-a2)):Int)==1)
 (∀X6:Kl,(∀(i7 j8:Int) H9,(br (decide (i7<j8)) (0≤(1:Int)∧ ∃a10,da1p=some a10∧0≤(wrap .i64 (shrI .u64 (wrap .u64 (wrap .i64 (i7+j8))) 1))∧(wrap .i64 (shrI .u64 (wrap .u64 (wrap .i64 (i7+j8))) 1))<(da1l:Int)∧ ∃v11,v11.size=2∧rowIn H9 (.add a10 (toNat (wrap .i64 (shrI .u64 (wrap .u64 (wrap .i64 (i7+j8))) 1))*2)) v11∧ ∃a12,da1p=some a12∧0≤a2∧a2<(da1l:Int)∧ ∃v13,v13.size=2∧rowIn H9 (.add a12 (toNat a2*2)) v13∧Try.C cm5g (List.toArray (Array.toList cm5x++[Value.agg v11,Value.agg v13]++Array.toList cm5y)) H9 fun r14 H15=> ∃r16,r14= .int .i64 r16∧br (decide (r16<0)) (X6 [.int .i64 (wrap .i64 ((wrap .i64 (shrI .u64 (wrap .u64 (wrap .i64 (i7+j8))) 1))+1)),.int .i64 j8] H15) (X6 [.int .i64 i7,.int .i64 (wrap .i64 (shrI .u64 (wrap .u64 (wrap .i64 (i7+j8))) 1))] H15)) (∀X17:Kl,(∀(k18:Int) H19,(br (decide (k18<(wrap .i64 (i7-1)))) (∃a20,da1p=some a20∧0≤(wrap .i64 (k18+1))∧(wrap .i64 (k18+1))<(da1l:Int)∧ ∃v21,v21.size=2∧rowIn H19 (.add a20 (toNat (wrap .i64 (k18+1))*2)) v21∧ ∃a22,da1p=some a22∧0≤k18∧k18<(da1l:Int)∧ ∃v23,v23.size=2∧rowIn H19 (.add a22 (toNat k18*2)) v23∧ ∃a24,da1p=some a24∧0≤k18∧k18<(da1l:Int)∧v21.size=2∧stAt H19 (.add a24 (toNat k18*2)) v21.toList fun H25=> ∃a26,da1p=some a26∧0≤(wrap .i64 (k18+1))∧(wrap .i64 (k18+1))<(da1l:Int)∧v23.size=2∧stAt H25 (.add a26 (toNat (wrap .i64 (k18+1))*2)) v23.toList fun H27=>X17 [.int .i64 (wrap .i64 (k18+1))] H27) (R (.tuple #[]) H19))→X17 [.int .i64 k18] H19)→X17 [.int .i64 a2] H9))→X6 [.int .i64 i7,.int .i64 j8] H9)→X6 [.int .i64 m3,.int .i64 b4] H)
 (br (((wrap .i64 (b4-m3)):Int)==1) (∀X28:Kl,(∀(i29 j30:Int) H31,(br (decide (i29<j30)) (0≤(1:Int)∧ ∃a32,da1p=some a32∧0≤m3∧m3<(da1l:Int)∧ ∃v33,v33.size=2∧rowIn H31 (.add a32 (toNat m3*2)) v33∧ ∃a34,da1p=some a34∧0≤(wrap .i64 (shrI .u64 (wrap .u64 (wrap .i64 (i29+j30))) 1))∧(wrap .i64 (shrI .u64 (wrap .u64 (wrap .i64 (i29+j30))) 1))<(da1l:Int)∧ ∃v35,v35.size=2∧rowIn H31 (.add a34 (toNat (wrap .i64 (shrI .u64 (wrap .u64 (wrap .i64 (i29+j30))) 1))*2)) v35∧Try.C cm5g (List.toArray (Array.toList cm5x++[Value.agg v33,Value.agg v35]++Array.toList cm5y)) H31 fun r36 H37=> ∃r38,r36= .int .i64 r38∧br (!(decide (r38<0))) (X28 [.int .i64 (wrap .i64 ((wrap .i64 (shrI .u64 (wrap .u64 (wrap .i64 (i29+j30))) 1))+1)),.int .i64 j30] H37) (X28 [.int .i64 i29,.int .i64 (wrap .i64 (shrI .u64 (wrap .u64 (wrap .i64 (i29+j30))) 1))] H37)) (∀X39:Kl,(∀(k40:Int) H41,(br (decide (k40>i29)) (∃a42,da1p=some a42∧0≤(wrap .i64 (k40-1))∧(wrap .i64 (k40-1))<(da1l:Int)∧ ∃v43,v43.size=2∧rowIn H41 (.add a42 (toNat (wrap .i64 (k40-1))*2)) v43∧ ∃a44,da1p=some a44∧0≤k40∧k40<(da1l:Int)∧ ∃v45,v45.size=2∧rowIn H41 (.add a44 (toNat k40*2)) v45∧ ∃a46,da1p=some a46∧0≤k40∧k40<(da1l:Int)∧v43.size=2∧stAt H41 (.add a46 (toNat k40*2)) v43.toList fun H47=> ∃a48,da1p=some a48∧0≤(wrap .i64 (k40-1))∧(wrap .i64 (k40-1))<(da1l:Int)∧v45.size=2∧stAt H47 (.add a48 (toNat (wrap .i64 (k40-1))*2)) v45.toList fun H49=>X39 [.int .i64 (wrap .i64 (k40-1))] H49) (R (.tuple #[]) H41))→X39 [.int .i64 k40] H41)→X39 [.int .i64 m3] H31))→X28 [.int .i64 i29,.int .i64 j30] H31)→X28 [.int .i64 a2,.int .i64 m3] H) (0≤(1:Int)∧ ∀J50:Kl,(∀(st51 r52:Int) H53,(∀X54:Kl,(∀(st55 r56:Int) H57,(br (decide (st55<r56)) (0≤(1:Int)∧ ∃a58,da1p=some a58∧0≤(wrap .i64 ((wrap .i64 ((wrap .i64 ((wrap .i64 (shrI .u64 (wrap .u64 (wrap .i64 (a2+b4))) 1))+m3))-1))-(wrap .i64 (shrI .u64 (wrap .u64 (wrap .i64 (st55+r56))) 1))))∧(wrap .i64 ((wrap .i64 ((wrap .i64 ((wrap .i64 (shrI .u64 (wrap .u64 (wrap .i64 (a2+b4))) 1))+m3))-1))-(wrap .i64 (shrI .u64 (wrap .u64 (wrap .i64 (st55+r56))) 1))))<(da1l:Int)∧ ∃v59,v59.size=2∧rowIn H57 (.add a58 (toNat (wrap .i64 ((wrap .i64 ((wrap .i64 ((wrap .i64 (shrI .u64 (wrap .u64 (wrap .i64 (a2+b4))) 1))+m3))-1))-(wrap .i64 (shrI .u64 (wrap .u64 (wrap .i64 (st55+r56))) 1))))*2)) v59∧ ∃a60,da1p=some a60∧0≤(wrap .i64 (shrI .u64 (wrap .u64 (wrap .i64 (st55+r56))) 1))∧(wrap .i64 (shrI .u64 (wrap .u64 (wrap .i64 (st55+r56))) 1))<(da1l:Int)∧ ∃v61,v61.size=2∧rowIn H57 (.add a60 (toNat (wrap .i64 (shrI .u64 (wrap .u64 (wrap .i64 (st55+r56))) 1))*2)) v61∧Try.C cm5g (List.toArray (Array.toList cm5x++[Value.agg v59,Value.agg v61]++Array.toList cm5y)) H57 fun r62 H63=> ∃r64,r62= .int .i64 r64∧br (!(decide (r64<0))) (X54 [.int .i64 (wrap .i64 ((wrap .i64 (shrI .u64 (wrap .u64 (wrap .i64 (st55+r56))) 1))+1)),.int .i64 r56] H63) (X54 [.int .i64 st55,.int .i64 (wrap .i64 (shrI .u64 (wrap .u64 (wrap .i64 (st55+r56))) 1))] H63)) (∀J65:Kl,(∀H66,(∀J67:Kl,(∀H68,(br (decide (((wrap .i64 (shrI .u64 (wrap .u64 (wrap .i64 (a2+b4))) 1)):Int)<(wrap .i64 ((wrap .i64 ((wrap .i64 (shrI .u64 (wrap .u64 (wrap .i64 (a2+b4))) 1))+m3))-st55)))) (br (decide (((wrap .i64 ((wrap .i64 ((wrap .i64 (shrI .u64 (wrap .u64 (wrap .i64 (a2+b4))) 1))+m3))-st55)):Int)<b4)) (Try.C 99 #[.slice da1p da1l da1c,.int .i64 (wrap .i64 (shrI .u64 (wrap .u64 (wrap .i64 (a2+b4))) 1)),.int .i64 (wrap .i64 ((wrap .i64 ((wrap .i64 (shrI .u64 (wrap .u64 (wrap .i64 (a2+b4))) 1))+m3))-st55)),.int .i64 b4,.func (.func cm5g) cm5x cm5y] H68 fun r69 H70=>r69= .tuple #[]∧R (.tuple #[]) H70) (R (.tuple #[]) H68)) (R (.tuple #[]) H68))→J67 [] H68)→br (decide (a2<st55)) (br (decide (st55<(wrap .i64 (shrI .u64 (wrap .u64 (wrap .i64 (a2+b4))) 1)))) (Try.C 99 #[.slice da1p da1l da1c,.int .i64 a2,.int .i64 st55,.int .i64 (wrap .i64 (shrI .u64 (wrap .u64 (wrap .i64 (a2+b4))) 1)),.func (.func cm5g) cm5x cm5y] H66 fun r71 H72=>r71= .tuple #[]∧J67 [] H72) (J67 [] H66)) (J67 [] H66))→J65 [] H66)→br (decide (st55<m3)) (br (decide (m3<(wrap .i64 ((wrap .i64 ((wrap .i64 (shrI .u64 (wrap .u64 (wrap .i64 (a2+b4))) 1))+m3))-st55)))) (Try.C 101 #[.slice da1p da1l da1c,.int .i64 st55,.int .i64 m3,.int .i64 (wrap .i64 ((wrap .i64 ((wrap .i64 (shrI .u64 (wrap .u64 (wrap .i64 (a2+b4))) 1))+m3))-st55)),.func (.func cm5g) cm5x cm5y] H57 fun r73 H74=>r73= .tuple #[]∧J65 [] H74) (J65 [] H57)) (J65 [] H57)))→X54 [.int .i64 st55,.int .i64 r56] H57)→X54 [.int .i64 st51,.int .i64 r52] H53)→J50 [.int .i64 st51,.int .i64 r52] H53)→br (decide (m3>(wrap .i64 (shrI .u64 (wrap .u64 (wrap .i64 (a2+b4))) 1)))) (J50 [.int .i64 (wrap .i64 ((wrap .i64 ((wrap .i64 (shrI .u64 (wrap .u64 (wrap .i64 (a2+b4))) 1))+m3))-b4)),.int .i64 (wrap .i64 (shrI .u64 (wrap .u64 (wrap .i64 (a2+b4))) 1))] H) (J50 [.int .i64 a2,.int .i64 m3] H)))
def Try.p99:Plan:=(two (tl (two (tl (tl (two (one (loop [(10,3),(11,3)] [0,1,4] (two (tl (tl leaf)) (one (tl (tl (tl leaf))))))) (two (tl (one (loop [(13,3)] [0,10] (two (tl (tl leaf)) (two (one leaf) leaf))))) leaf)))) leaf)) (two (tl (two (tl (tl (two (one (loop [(14,3),(15,3)] [0,2,4] (two (tl (tl leaf)) (one (tl (tl (tl leaf))))))) (two (tl (one (loop [(17,3)] [0,14] (two (tl (tl leaf)) (two (one leaf) leaf))))) leaf)))) leaf)) (tl (tl (tl (two (join [(20,3),(21,3)] [0,1,2,3,4,18,19] (tl (two (tl leaf) (tl leaf)))) (tl (two (one (loop [(20,3),(21,3)] [0,1,2,3,4,18,19,22] (two (tl (tl leaf)) (one (tl (tl (tl leaf))))))) (tl (two (join [] [0,1,3,4,18,20,24] (tl (tl leaf))) (two (join [] [0,3,4,18,24] (tl (tl leaf))) (tl (tl leaf)))))))))))))
theorem Try.s99{da1p:OA}{da1l da1c:Nat}{a2 m3 b4:Int}{cm5g:Nat}{cm5x cm5y:AV}{H R}(h:Try.S99 da1p da1l da1c a2 m3 b4 cm5g cm5x cm5y H R):Try.C 99 #[.slice da1p da1l da1c,.int .i64 a2,.int .i64 m3,.int .i64 b4,.func (.func cm5g) cm5x cm5y] H R:=vcs Try.tab_ok Try.mixed Try.func99 Try.cal99 Try.p99 h (by kernel_rfl)
def Try.S100(s1p:OA)(s1l s1c:Nat)(n2:Int)(H:Heap)(R:Kv):Prop:=
 ∀J3:Kl,(∀H4,(br (decide (((wrap .i64 (n2-(wrap .i64 ((s1c:Int)-(s1l:Int))))):Int)>0)) (0≤(s1c:Int)∧(s1c:Int)≤(s1c:Int)∧appZ 2 32 #[.int .i64 0,.slice none 0 0] H4 (if s1c=0 then s1p else Option.map (fun x=>Addr.add x (0*2)) s1p) ((toNat (s1c:Int))-0) (s1c-0) (wrap .i64 (n2-(wrap .i64 ((s1c:Int)-(s1l:Int))))) 136 fun ap5p ap5l ap5c H6=>0≤(s1l:Int)∧(s1l:Int)≤(ap5c:Int)∧R (.slice (if ap5c=0 then ap5p else Option.map (fun x=>Addr.add x (0*2)) ap5p) ((toNat (s1l:Int))-0) (ap5c-0)) H6) (R (.slice s1p s1l s1c) H4))→J3 [] H4)→
 br (decide (n2<0))
 (False)
 (J3 [] H)
def Try.p100:Plan:=(tl (two (join [] [0,1] (tl (tl leaf))) (two (tl (tl (tl leaf))) (tl leaf))))
theorem Try.s100{s1p:OA}{s1l s1c:Nat}{n2:Int}{H R}(h:Try.S100 s1p s1l s1c n2 H R):Try.C 100 #[.slice s1p s1l s1c,.int .i64 n2] H R:=vcs Try.tab_ok Try.mixed Try.func100 Try.cal100 Try.p100 h (by kernel_rfl)
def Try.S101(da1p:OA)(da1l da1c:Nat)(a2 m3 b4:Int)(cm5g:Nat)(cm5x cm5y:AV)(H:Heap)(R:Kv):Prop:=
 ∀X6:Kl,(∀(i7 j8:Int) H9,(br (i7 != j8) (br (decide (i7>j8)) (Try.C 102 #[.slice da1p da1l da1c,.int .i64 (wrap .i64 (m3-i7)),.int .i64 m3,.int .i64 j8,.func (.func cm5g) cm5x cm5y] H9 fun r10 H11=>r10= .tuple #[]∧X6 [.int .i64 (wrap .i64 (i7-j8)),.int .i64 j8] H11) (Try.C 102 #[.slice da1p da1l da1c,.int .i64 (wrap .i64 (m3-i7)),.int .i64 (wrap .i64 ((wrap .i64 (m3+j8))-i7)),.int .i64 i7,.func (.func cm5g) cm5x cm5y] H9 fun r12 H13=>r12= .tuple #[]∧X6 [.int .i64 i7,.int .i64 (wrap .i64 (j8-i7))] H13)) (Try.C 102 #[.slice da1p da1l da1c,.int .i64 (wrap .i64 (m3-i7)),.int .i64 m3,.int .i64 i7,.func (.func cm5g) cm5x cm5y] H9 fun r14 H15=>r14= .tuple #[]∧R (.tuple #[]) H15))→X6 [.int .i64 i7,.int .i64 j8] H9)→X6 [.int .i64 (wrap .i64 (m3-a2)),.int .i64 (wrap .i64 (b4-m3))] H
def Try.p101:Plan:=(tl (tl (two (one (loop [(10,3),(11,3)] [0,2,4] (two (tl (tl leaf)) (one (tl (two (tl leaf) (tl leaf))))))) leaf)))
theorem Try.s101{da1p:OA}{da1l da1c:Nat}{a2 m3 b4:Int}{cm5g:Nat}{cm5x cm5y:AV}{H R}(h:Try.S101 da1p da1l da1c a2 m3 b4 cm5g cm5x cm5y H R):Try.C 101 #[.slice da1p da1l da1c,.int .i64 a2,.int .i64 m3,.int .i64 b4,.func (.func cm5g) cm5x cm5y] H R:=vcs Try.tab_ok Try.mixed Try.func101 Try.cal101 Try.p101 h (by kernel_rfl)
def Try.S102(da1p:OA)(da1l da1c:Nat)(a2 b3 n4:Int)(cm5g:Nat)(cm5x cm5y:AV)(H:Heap)(R:Kv):Prop:=
 ∀X6:Kl,(∀(i7:Int) H8,(br (decide (i7<n4)) (∃a9,da1p=some a9∧0≤(wrap .i64 (b3+i7))∧(wrap .i64 (b3+i7))<(da1l:Int)∧ ∃v10,v10.size=2∧rowIn H8 (.add a9 (toNat (wrap .i64 (b3+i7))*2)) v10∧ ∃a11,da1p=some a11∧0≤(wrap .i64 (a2+i7))∧(wrap .i64 (a2+i7))<(da1l:Int)∧ ∃v12,v12.size=2∧rowIn H8 (.add a11 (toNat (wrap .i64 (a2+i7))*2)) v12∧ ∃a13,da1p=some a13∧0≤(wrap .i64 (a2+i7))∧(wrap .i64 (a2+i7))<(da1l:Int)∧v10.size=2∧stAt H8 (.add a13 (toNat (wrap .i64 (a2+i7))*2)) v10.toList fun H14=> ∃a15,da1p=some a15∧0≤(wrap .i64 (b3+i7))∧(wrap .i64 (b3+i7))<(da1l:Int)∧v12.size=2∧stAt H14 (.add a15 (toNat (wrap .i64 (b3+i7))*2)) v12.toList fun H16=>X6 [.int .i64 (wrap .i64 (i7+1))] H16) (R (.tuple #[]) H8))→X6 [.int .i64 i7] H8)→X6 [.int .i64 0] H
def Try.p102:Plan:=(tl (one (loop [(10,3)] [0,1,2,3] (two (tl (tl leaf)) (two (one leaf) leaf)))))
theorem Try.s102{da1p:OA}{da1l da1c:Nat}{a2 b3 n4:Int}{cm5g:Nat}{cm5x cm5y:AV}{H R}(h:Try.S102 da1p da1l da1c a2 b3 n4 cm5g cm5x cm5y H R):Try.C 102 #[.slice da1p da1l da1c,.int .i64 a2,.int .i64 b3,.int .i64 n4,.func (.func cm5g) cm5x cm5y] H R:=vcs Try.tab_ok Try.mixed Try.func102 Try.cal102 Try.p102 h (by kernel_rfl)
end Go.Proofs
namespace Go.Sh
def ints(l:List Int):List Value:=l.map (Value.int .i64)
theorem ints_get{l:List Int}{i:Nat}{v:Int}(h:l[i]?=some v):(ints l)[i]?=some (Value.int .i64 v):=by simp[ints,h]
theorem ints_len(l:List Int):(ints l).length=l.length:=by simp[ints]
theorem ints_append(a b:List Int):ints (a++b)=ints a++ints b:=by simp[ints]
theorem ints_set(l:List Int)(i:Nat)(v:Int):(ints l).set i (.int .i64 v)=ints (l.set i v):=by simp[ints]
theorem ints_one(l:List Int): ∀v∈ints l,v.oneCell'=true:=fun v hv=>by
 obtain⟨x,_,rfl⟩:=List.mem_map.1 hv;rfl
structure RS(H:Heap)(p:Option Addr)(l:Nat)(el:TypeId)(k:Nat)(fs:List Value):Prop where
 len:fs.length=l*k
 one: ∀v∈fs,v.oneCell'=true
 at_:l=0∨ ∃blk cs,p=some ⟨blk,0,none⟩∧H[blk]?=some (.cells cs el)∧ ∀(i:Nat) v,fs[i]?=some v→cs[i]?=some v
structure FS(n0:Nat)(H:Heap)(p:Option Addr)(l c:Nat)(el:TypeId)(k:Nat)(fs:List Value):Prop where
 len:fs.length=l*k
 le:l≤c
 one: ∀v∈fs,v.oneCell'=true
 at_:(p=none∧c=0)∨ ∃blk cs,p=some ⟨blk,0,none⟩∧n0≤blk∧H[blk]?=some (.cells cs el)∧cs.size=c*k∧ ∀(i:Nat) v,fs[i]?=some v→cs[i]?=some v
theorem FS.rs{n0:Nat}{H:Heap}{p:Option Addr}{l c:Nat}{el:TypeId}{k:Nat}{fs:List Value}(h:FS n0 H p l c el k fs):RS H p l el k fs:=by
 refine⟨h.len,h.one,?_⟩
 rcases h.at_ with ⟨_,h2⟩|⟨blk,cs,h1,_,h3,_,h5⟩
 ·left;have:=h.le;omega
 ·exact .inr ⟨blk,cs,h1,h3,h5⟩
theorem RS.keep{H H':Heap}{p:Option Addr}{l:Nat}{el:TypeId}{k:Nat}{fs:List Value}(h:RS H p l el k fs)(hk: ∀b cs,p=some ⟨b,0,none⟩→H[b]?=some (.cells cs el)→H'[b]?=some (.cells cs el)):RS H' p l el k fs:=by
 refine⟨h.len,h.one,?_⟩
 rcases h.at_ with h1|⟨blk,cs,h1,h3,h5⟩
 ·exact .inl h1
 ·exact .inr ⟨blk,cs,h1,hk _ _ h1 h3,h5⟩
theorem RS.ext{H H':Heap}{p:Option Addr}{l:Nat}{el:TypeId}{k:Nat}{fs:List Value}(h:RS H p l el k fs)(he:Ext H H'):RS H' p l el k fs:=h.keep fun b cs _ hb=>he _ _ hb
theorem FS.keep{n0:Nat}{H H':Heap}{p:Option Addr}{l c:Nat}{el:TypeId}{k:Nat}{fs:List Value}(h:FS n0 H p l c el k fs)(hk: ∀b cs,p=some ⟨b,0,none⟩→H[b]?=some (.cells cs el)→H'[b]?=some (.cells cs el)):FS n0 H' p l c el k fs:=by
 refine⟨h.len,h.le,h.one,?_⟩
 rcases h.at_ with h1|⟨blk,cs,h1,h2,h3,h5⟩
 ·exact .inl h1
 ·exact .inr ⟨blk,cs,h1,h2,hk _ _ h1 h3,h5⟩
theorem FS.ext{n0:Nat}{H H':Heap}{p:Option Addr}{l c:Nat}{el:TypeId}{k:Nat}{fs:List Value}(h:FS n0 H p l c el k fs)(he:Ext H H'):FS n0 H' p l c el k fs:=h.keep fun b cs _ hb=>he _ _ hb
theorem FS.lower{n0 n1:Nat}{H:Heap}{p:Option Addr}{l c:Nat}{el:TypeId}{k:Nat}{fs:List Value}(h:FS n0 H p l c el k fs)(hn:n1≤n0):FS n1 H p l c el k fs:=by
 refine⟨h.len,h.le,h.one,?_⟩
 rcases h.at_ with h1|⟨blk,cs,h1,h2,h3,h5⟩
 ·exact .inl h1
 ·exact .inr ⟨blk,cs,h1,by omega,h3,h5⟩
theorem FS.nil(n0:Nat)(H:Heap)(el:TypeId)(k:Nat):FS n0 H none 0 0 el k []:=⟨by simp,Nat.le_refl _,by simp,.inl ⟨rfl,rfl⟩⟩
theorem RS.nil(H:Heap)(p:Option Addr)(el:TypeId)(k:Nat):RS H p 0 el k []:=⟨by simp,by simp,.inl rfl⟩
theorem FS.whole{n0:Nat}{H:Heap}{b l k:Nat}{el:TypeId}{cs:Array Value}(hb:n0≤b)(h:H[b]?=some (.cells cs el))(hs:cs.size=l*k)(ho: ∀v∈cs.toList,v.oneCell'=true):FS n0 H (some ⟨b,0,none⟩) l l el k cs.toList:=
 ⟨by simpa using hs,Nat.le_refl _,ho,.inr ⟨b,cs,rfl,hb,h,hs,fun i v hv=>by simpa using hv⟩⟩
theorem RS.cell{H:Heap}{p:Option Addr}{l:Nat}{el:TypeId}{k:Nat}{fs:List Value}(h:RS H p l el k fs){i:Nat}{v:Value}(hv:fs[i]?=some v): ∃blk,p=some ⟨blk,0,none⟩∧Go.Sh.cell H ⟨blk,i,none⟩=some v:=by
 rcases h.at_ with h1|⟨blk,cs,h1,h3,h5⟩
 ·have:=(List.getElem?_eq_some_iff.1 hv).1
  have:=h.len
  rw[h1] at this
  omega
 ·exact⟨blk,h1,cell_get h3 (h5 i v hv)⟩
theorem RS.row{H:Heap}{p:Option Addr}{l:Nat}{el:TypeId}{k:Nat}{fs:List Value}(h:RS H p l el k fs){i:Nat}(hi:i<l)(hk:0<k){xs:Array Value}(hx: ∀(j:Nat) v,xs[j]?=some v→fs[i*k+j]?=some v): ∃blk,p=some ⟨blk,0,none⟩∧rowIn H ⟨blk,i*k,none⟩ xs:=by
 rcases h.at_ with h1|⟨blk,cs,h1,h3,h5⟩
 ·omega
 ·exact⟨blk,h1,rowIn_block h3 fun j v hv=>h5 _ _ (hx j v hv)⟩
structure IS(H:Heap)(p:Option Addr)(l:Nat)(fs:List Value):Prop where
 len:fs.length=l
 get: ∀(i:Nat) v,fs[i]?=some v→ ∃a,p=some a∧Go.Sh.cell H (a.add i)=some v
theorem IS.ext{H H':Heap}{p:Option Addr}{l:Nat}{fs:List Value}(h:IS H p l fs)(he:Ext H H'):IS H' p l fs:=⟨h.len,fun i v hv=>let ⟨a,h1,h2⟩:=h.get i v hv;⟨a,h1,he.cell h2⟩⟩
theorem IS.cell{H:Heap}{p:Option Addr}{l:Nat}{fs:List Value}(h:IS H p l fs){i:Nat}{v:Value}(hv:fs[i]?=some v): ∃a,p=some a∧Go.Sh.cell H (a.add i)=some v:=h.get i v hv
theorem RS.is{H:Heap}{p:Option Addr}{l:Nat}{el:TypeId}{fs:List Value}(h:RS H p l el 1 fs):IS H p l fs:=
 ⟨by have:=h.len;omega,fun i v hv=>let ⟨blk,h1,h2⟩:=h.cell hv;⟨_,h1,by simpa using h2⟩⟩
theorem RS.rowOf{H:Heap}{p:Option Addr}{l:Nat}{el:TypeId}{k:Nat}{fs:List Value}(h:RS H p l el k fs):rowOf H p (l*k) fs.toArray:=by
 rcases h.at_ with h1|⟨blk,cs,h1,h3,h5⟩
 ·have:=h.len
  rw[h1,Nat.zero_mul] at this
  have:fs=[]:=List.length_eq_zero_iff.1 this
  subst this
  subst h1
  cases p with
  |none=>rfl
  |some a=>exact⟨by simp,fun j v hv=>by simp at hv⟩
 ·subst h1
  refine⟨by simp[h.len],rowIn_block h3 fun j v hv=>?_⟩
  rw[Nat.zero_add]
  exact h5 j v (by simpa using hv)
theorem setL_get{c vs:List Value}{i:Nat}(h:i+vs.length≤c.length)(j:Nat):(setL c i vs)[j]?=if i≤j∧j<i+vs.length then vs[j-i]? else c[j]?:=by
 unfold setL
 by_cases h1:j<i
 ·rw[if_neg (by omega),List.append_assoc,List.getElem?_append_left (by simp;omega),List.getElem?_take_of_lt h1]
 ·by_cases h2:j<i+vs.length
  ·rw[if_pos ⟨by omega,h2⟩,List.append_assoc,List.getElem?_append_right (by simp;omega),List.getElem?_append_left (by simp;omega)]
   congr 1
   simp;omega
  ·rw[if_neg (by omega),List.getElem?_append_right (by simp;omega),List.getElem?_drop]
   congr 1
   simp;omega
theorem setL_len{c vs:List Value}{i:Nat}(h:i+vs.length≤c.length):(setL c i vs).length=c.length:=by unfold setL;simp;omega
theorem stAt_some{H:Heap}{b i:Nat}{c:Array Value}{t:TypeId}{vs:List Value}{f:Heap→Prop}(h:H[b]?=some (.cells c t (0,0)))(hl:i+vs.length≤c.size)(ho: ∀v∈vs,v.oneCell'=true)
 (hf: ∀c':Array Value,c'.size=c.size→(∀j:Nat,c'[j]?=if i≤j∧j<i+vs.length then vs[j-i]? else c[j]?)→f (H.setIfInBounds b (.cells c' t (0,0)))):stAt H ⟨b,i,none⟩ vs f:=by
 have hl':i+vs.length≤c.toList.length:=by simpa using hl
 refine⟨c,t,h,rfl,hl,ho,?_⟩
 refine hf (setL c.toList i vs).toArray (by simp[setL_len hl']) fun j=>?_
 rw[List.getElem?_toArray,setL_get hl' j,Array.getElem?_toList (xs:=c)]
theorem FS.app'{n0:Nat}{H:Heap}{p q:Option Addr}{l c n:Nat}{el:TypeId}{k bytes:Nat}{zero:Array Value}{fs gs:List Value}(h:FS n0 H p l c el k fs)(hrow:Go.Sh.rowOf H q (n*k) gs.toArray)(hgl:gs.length=n*k)(hgo: ∀v∈gs,v.oneCell'=true)(hk:0<k)(hn:n0≤H.size)(hz:zero.size=k)
 (hb:(l+n)*bytes≤70368744177664)(hm:l+n≤1000000000000){K:Option Addr→Nat→Nat→Heap→Prop}
 (hK: ∀p' c' H',FS n0 H' p' (l+n) c' el k (fs++gs)→(∀(b:Nat) (o:Obj),H[b]?=some o→p≠some ⟨b,0,none⟩→H'[b]?=some o)→H.size≤H'.size→K p' (l+n) c' H'):appQ k bytes zero H p l c q n el K:=by
 have hfl:=h.len
 have hlen:(fs++gs).length=(l+n)*k:=by rw[List.length_append,hfl,hgl,Nat.add_mul]
 have hone: ∀v∈fs++gs,v.oneCell'=true:=fun v hv=>(List.mem_append.1 hv).elim (h.one v) (hgo v)
 refine⟨hb,by omega,gs.toArray,hrow,fun hle=>?_,fun hlt=>?_⟩
 ·rcases h.at_ with ⟨rfl,hc0⟩|⟨blk,cs,rfl,h2,h3,h4,h5⟩
  ·refine hK none c H ⟨hlen,hle,hone,.inl ⟨rfl,hc0⟩⟩ (fun b o hb _=>hb) (Nat.le_refl _)
  ·simp only[add_none,Nat.zero_add]
   have hcap:(l+n)*k≤c*k:=Nat.mul_le_mul_right k hle
   rw[Nat.add_mul] at hcap
   refine stAt_some h3 (by show l*k+gs.length≤cs.size;omega) (by simpa using hgo) fun c' hc' hg=>?_
   refine hK _ _ _ ⟨hlen,hle,hone,.inr ⟨blk,c',rfl,h2,get_set_self h3,by omega,fun i v hv=>?_⟩⟩ (fun b o hb hne=>get_set_ne (fun hh=>hne (by rw[hh])) hb) (by simp)
   rw[hg]
   by_cases hi:i<fs.length
   ·rw[if_neg (by omega)]
    rw[List.getElem?_append_left hi] at hv
    exact h5 i v hv
   ·rw[List.getElem?_append_right (by omega)] at hv
    have hlt:=(List.getElem?_eq_some_iff.1 hv).1
    rw[if_pos ⟨by omega,by show i<l*k+gs.length;omega⟩]
    rw[←hfl]
    simpa using hv
 ·have hrow: ∃ys,Go.Sh.rowOf H p (l*k) ys∧ys.toList=fs:=⟨fs.toArray,h.rs.rowOf,by simp⟩
  obtain⟨ys,hy,hvs⟩:=hrow
  refine⟨ys,hy,fun c' hc'=>?_⟩
  rw[zeroCells_eq _ _ (by omega)]
  have hcap:(l+n)*k≤c'*k:=Nat.mul_le_mul_right k hc'
  have hys:ys.size=l*k:=by rw[←Array.length_toList,hvs,hfl]
  refine hK _ _ _ ⟨hlen,hc',hone,.inr ⟨H.size,_,rfl,hn,get_push_self _ _,?_,fun i v hv=>?_⟩⟩ (fun b o hb _=>get_push hb) (by simp)
  ·simp only[Array.size_append,hys,List.size_toArray,reps_length,Array.length_toList,hz,hgl]
   rw[Nat.sub_mul]
   rw[Nat.add_mul] at hcap ⊢
   omega
  ·have hi:=(List.getElem?_eq_some_iff.1 hv).1
   rw[Array.getElem?_append_left (by simp[hys,hgl];rw[hlen,Nat.add_mul] at hi;omega)]
   have:(ys++gs.toArray).toList=fs++gs:=by simp[hvs]
   rw[←Array.getElem?_toList,this]
   exact hv
theorem FS.app{n0:Nat}{H:Heap}{p q:Option Addr}{l c n:Nat}{el:TypeId}{k bytes:Nat}{zero:Array Value}{fs gs:List Value}(h:FS n0 H p l c el k fs)(hs:RS H q n el k gs)(hk:0<k)(hn:n0≤H.size)(hz:zero.size=k)
 (hb:(l+n)*bytes≤70368744177664)(hm:l+n≤1000000000000){K:Option Addr→Nat→Nat→Heap→Prop}
 (hK: ∀p' c' H',FS n0 H' p' (l+n) c' el k (fs++gs)→(∀(b:Nat) (o:Obj),H[b]?=some o→p≠some ⟨b,0,none⟩→H'[b]?=some o)→H.size≤H'.size→K p' (l+n) c' H'):appQ k bytes zero H p l c q n el K:=
 h.app' hs.rowOf hs.len hs.one hk hn hz hb hm hK
theorem FS.set{n0:Nat}{H:Heap}{b l c:Nat}{el:TypeId}{k:Nat}{fs:List Value}{i:Nat}{v:Value}{f:Heap→Prop}(h:FS n0 H (some ⟨b,0,none⟩) l c el k fs)(hi:i<fs.length)(ho:v.oneCell'=true)
 (hf: ∀H',FS n0 H' (some ⟨b,0,none⟩) l c el k (fs.set i v)→(∀(b':Nat) (o:Obj),H[b']?=some o→b'≠b→H'[b']?=some o)→H'.size=H.size→f H'):stAt H ⟨b,i,none⟩ [v] f:=by
 have hlen:=h.len
 rcases h.at_ with ⟨h1,_⟩|⟨blk,cs,h1,h2,h3,h4,h5⟩
 ·cases h1
 ·cases h1
  have hics:i<cs.size:=by
   have:=h5 i fs[i] (List.getElem?_eq_getElem hi)
   exact(Array.getElem?_eq_some_iff.1 this).1
  refine stAt_one h3 hics ho ?_
  refine hf _ ⟨by simpa using hlen,h.le,fun u hu=>?_,.inr ⟨b,cs.setIfInBounds i v,rfl,h2,get_set_self h3,by simpa using h4,fun j u hu=>?_⟩⟩ (fun b' o hb' hne=>get_set_ne (Ne.symm hne) hb') (by simp)
  ·rcases List.mem_or_eq_of_mem_set hu with hu|rfl
   ·exact h.one u hu
   ·exact ho
  ·rw[List.getElem?_set] at hu
   rw[Array.getElem?_setIfInBounds]
   by_cases hij:i=j
   ·subst hij
    rw[if_pos rfl,if_pos hi] at hu
    rw[if_pos rfl,if_pos hics]
    exact hu
   ·rw[if_neg hij] at hu
    rw[if_neg hij]
    exact h5 j u hu
theorem zeros_FS{n0:Nat}{H:Heap}{n b:Nat}{el:TypeId}(hb:n0≤b)(h:H[b]?=some (.cells (List.toArray (reps n [Value.int .i64 0])) el)):FS n0 H (some ⟨b,0,none⟩) n n el 1 (ints (List.replicate n 0)):=by
 refine⟨by simp[ints],Nat.le_refl _,ints_one _,.inr ⟨b,_,rfl,hb,h,by simp[reps_length],fun i v hv=>?_⟩⟩
 rw[List.getElem?_toArray]
 have hi:i<n:=by have:=(List.getElem?_eq_some_iff.1 hv).1;simpa[ints] using this
 rw[reps_get [Value.int .i64 0] (by decide) n i (by simpa using hi)]
 simp only[ints,List.map_replicate,List.getElem?_replicate,if_pos hi] at hv
 simpa[Nat.mod_one] using hv
end Go.Sh
namespace Go.Sh
structure Rs where
 at_:Heap→List Nat→Prop
 loc: ∀{H H':Heap} {fp:List Nat},at_ H fp→(∀b∈fp,∀o,H[b]?=some o→H'[b]?=some o)→at_ H' fp
 has: ∀{H:Heap} {fp:List Nat},at_ H fp→ ∀b∈fp,b<H.size
def Rs.cell(b:Nat)(cs:Array Value)(ty:TypeId):Rs where
 at_ H fp:=fp=[b]∧H[b]?=some (.cells cs ty)
 loc h hk:=⟨h.1,hk _ (by rw[h.1];exact List.mem_singleton.2 rfl) _ h.2⟩
 has h b hb:=by rw[h.1,List.mem_singleton] at hb;subst hb;exact lt_of_get h.2
def Rs.sl(p:Option Addr)(l c:Nat)(el:TypeId)(k:Nat)(fs:List Value):Rs where
 at_ H fp:=FS 0 H p l c el k fs∧((p=none∧fp=[])∨ ∃blk,p=some ⟨blk,0,none⟩∧fp=[blk])
 loc h hk:=by
  refine⟨h.1.keep fun b cs hp hb=>hk b ?_ _ hb,h.2⟩
  rcases h.2 with ⟨h1,_⟩|⟨blk,h1,h2⟩
  ·rw[h1] at hp;cases hp
  ·rw[h1] at hp;cases hp;rw[h2];exact List.mem_singleton.2 rfl
 has h b hb:=by
  rcases h.2 with ⟨_,h2⟩|⟨blk,h1,h2⟩
  ·rw[h2] at hb;cases hb
  ·rw[h2,List.mem_singleton] at hb
   subst hb
   rcases h.1.at_ with ⟨h3,_⟩|⟨blk',cs,h3,_,h4,_⟩
   ·rw[h1] at h3;cases h3
   ·rw[h1] at h3;cases h3;exact lt_of_get h4
def Rs.star(r s:Rs):Rs where
 at_ H fp:= ∃a b,fp=a++b∧r.at_ H a∧s.at_ H b
 loc:=fun⟨a,b,e,h1,h2⟩ hk=>⟨a,b,e,r.loc h1 fun x hx=>hk x (by rw[e];exact List.mem_append_left _ hx),s.loc h2 fun x hx=>hk x (by rw[e];exact List.mem_append_right _ hx)⟩
 has:=fun⟨a,b,e,h1,h2⟩ x hx=>by
  rw[e] at hx
  rcases List.mem_append.1 hx with hx|hx
  ·exact r.has h1 x hx
  ·exact s.has h2 x hx
def Rs.ex{α:Type}(f:α→Rs):Rs where
 at_ H fp:= ∃a,(f a).at_ H fp
 loc:=fun⟨a,h⟩ hk=>⟨a,(f a).loc h hk⟩
 has:=fun⟨a,h⟩=>(f a).has h
def Rs.pu(q:Prop)(r:Rs):Rs where
 at_ H fp:=q∧r.at_ H fp
 loc:=fun⟨a,h⟩ hk=>⟨a,r.loc h hk⟩
 has:=fun⟨a,h⟩=>r.has h
def Lie(H:Heap):List Rs→List (List Nat)→Prop
 |[],[]=>True
 |r::σ,fp::fps=>r.at_ H fp∧Lie H σ fps
 |_,_=>False
theorem Lie.get{H:Heap}: ∀{σ:List Rs} {fps:List (List Nat)},Lie H σ fps→ ∀{i:Nat} {r:Rs},σ[i]?=some r→ ∃fp,fps[i]?=some fp∧r.at_ H fp
 |[],[],_,i,r,h=>by simp at h
 |r::σ,fp::fps,hl,0,s,h=>by simp at h;subst h;exact⟨fp,rfl,hl.1⟩
 |r::σ,fp::fps,hl,i+1,s,h=>by
  simp only[List.getElem?_cons_succ] at h ⊢
  exact Lie.get hl.2 h
theorem Lie.has{H:Heap}: ∀{σ:List Rs} {fps:List (List Nat)},Lie H σ fps→ ∀b∈fps.flatten,b<H.size
 |[],[],_,b,hb=>by simp at hb
 |r::σ,fp::fps,hl,b,hb=>by
  simp only[List.flatten_cons,List.mem_append] at hb
  rcases hb with hb|hb
  ·exact r.has hl.1 b hb
  ·exact Lie.has hl.2 b hb
theorem Lie.loc{H H':Heap}: ∀{σ:List Rs} {fps:List (List Nat)},Lie H σ fps→(∀b∈fps.flatten,∀o,H[b]?=some o→H'[b]?=some o)→Lie H' σ fps
 |[],[],_,_=>trivial
 |r::σ,fp::fps,hl,hk=>by
  simp only[List.flatten_cons,List.mem_append] at hk
  exact⟨r.loc hl.1 fun b hb=>hk b (.inl hb),Lie.loc hl.2 fun b hb=>hk b (.inr hb)⟩
theorem Lie.set {H H' : Heap} : ∀ {σ : List Rs} {fps : List (List Nat)} {i : Nat} {fp fp' : List Nat} {r' : Rs}, Lie H σ fps → fps.flatten.Nodup → fps[i]? = some fp → r'.at_ H' fp' → fp'.Nodup → (∀ b ∈ fp', b ∈ fp ∨ H.size ≤ b) →
    (∀ b o, H[b]? = some o → b ∉ fp → H'[b]? = some o) → Lie H' (σ.set i r') (fps.set i fp') ∧ (fps.set i fp').flatten.Nodup
  | [], [], i, fp, fp', r', hl, hn, hi, h, hn', hf, hk => by simp at hi
  | r :: σ, g :: fps, 0, fp, fp', r', hl, hn, hi, h, hn', hf, hk => by
    simp at hi; subst hi
    simp only [List.flatten_cons, List.nodup_append] at hn
    refine ⟨⟨h, hl.2.loc fun b hb o ho => hk b o ho fun hg => hn.2.2 b hg b hb rfl⟩, ?_⟩
    simp only [List.set_cons_zero, List.flatten_cons, List.nodup_append]
    refine ⟨hn', hn.2.1, fun a ha b hb hab => ?_⟩
    subst hab
    rcases hf a ha with h1 | h1
    · exact hn.2.2 a h1 a hb rfl
    · have := Lie.has hl.2 a hb; omega
  | r :: σ, g :: fps, i + 1, fp, fp', r', hl, hn, hi, h, hn', hf, hk => by
    simp only [List.getElem?_cons_succ] at hi
    simp only [List.flatten_cons, List.nodup_append] at hn
    obtain ⟨h1, h2⟩ := Lie.set hl.2 hn.2.1 hi h hn' hf hk
    have hmem : ∀ b ∈ fp, b ∈ fps.flatten := fun b hb => List.mem_flatten.2 ⟨fp, List.mem_of_getElem? hi, hb⟩
    refine ⟨⟨r.loc hl.1 fun b hb o ho => hk b o ho fun hg => hn.2.2 b hb b (hmem b hg) rfl, h1⟩, ?_⟩
    simp only [List.set_cons_succ, List.flatten_cons, List.nodup_append]
    refine ⟨hn.1, h2, fun a ha b hb hab => ?_⟩
    subst hab
    obtain ⟨f, hf1, hf2⟩ := List.mem_flatten.1 hb
    rcases List.mem_or_eq_of_mem_set hf1 with hf1 | rfl
    · exact hn.2.2 a ha a (List.mem_flatten.2 ⟨f, hf1, hf2⟩) rfl
    · rcases hf a hf2 with h3 | h3
      · exact hn.2.2 a ha a (hmem a h3) rfl
      · have := r.has hl.1 a ha; omega
structure St(H0 H:Heap)(σ:List Rs):Prop where
 ext:Ext H0 H
 own: ∃fps,Lie H σ fps∧fps.flatten.Nodup∧ ∀b∈fps.flatten,H0.size≤b
theorem St.nil(H:Heap):St H H []:=⟨Ext.refl H,[],trivial,by simp,by simp⟩
variable {H0 H H':Heap} {σ τ:List Rs}
theorem nodup_mem: ∀{fps:List (List Nat)},fps.flatten.Nodup→ ∀fp∈fps,fp.Nodup
 |[],_,fp,h=>by cases h
 |g::r,hn,fp,h=>by
  rw[List.flatten_cons,List.nodup_append] at hn
  rcases List.mem_cons.1 h with rfl|h
  ·exact hn.1
  ·exact nodup_mem hn.2.1 fp h
theorem St.upd(hs:St H0 H σ){i:Nat}{r r':Rs}(hi:σ[i]?=some r)
 (h: ∀fp,r.at_ H fp→fp.Nodup→(∀b∈fp,H0.size≤b)→ ∃fp',r'.at_ H' fp'∧fp'.Nodup∧(∀b∈fp',b∈fp∨H.size≤b)∧ ∀b o,H[b]?=some o→b∉fp→H'[b]?=some o):St H0 H' (σ.set i r'):=by
 obtain⟨he,fps,hl,hn,hb⟩:=hs
 obtain⟨fp,hfp,hat⟩:=hl.get hi
 have hmem: ∀b∈fp,b∈fps.flatten:=fun b hb=>List.mem_flatten.2 ⟨fp,List.mem_of_getElem? hfp,hb⟩
 have hfn:fp.Nodup:=nodup_mem hn _ (List.mem_of_getElem? hfp)
 obtain⟨fp',h1,h2,h3,h4⟩:=h fp hat hfn fun b hb'=>hb b (hmem b hb')
 obtain⟨h5,h6⟩:=hl.set hn hfp h1 h2 h3 h4
 refine⟨fun b o ho=>h4 b o (he b o ho) fun hf=>?_,_,h5,h6,fun b hb'=>?_⟩
 ·have:=hb b (hmem b hf);have:=lt_of_get ho;omega
 ·obtain⟨f,hf1,hf2⟩:=List.mem_flatten.1 hb'
  rcases List.mem_or_eq_of_mem_set hf1 with hf1|rfl
  ·exact hb b (List.mem_flatten.2 ⟨f,hf1,hf2⟩)
  ·rcases h3 b hf2 with h7|h7
   ·exact hb b (hmem b h7)
   ·have:=he.size;omega
theorem St.as(hs:St H0 H σ)(i:Nat){r r':Rs}(hi:σ[i]?=some r)(h: ∀fp,r.at_ H fp→r'.at_ H fp):St H0 H (σ.set i r'):=
 hs.upd hi fun fp h1 h2 _=>⟨fp,h fp h1,h2,fun b hb=> .inl hb,fun b o ho _=>ho⟩
theorem St.step(hs:St H0 H σ)(he:Ext H H'):St H0 H' σ:=by
 obtain⟨h1,fps,hl,hn,hb⟩:=hs
 exact⟨h1.trans he,fps,hl.loc fun b _ o ho=>he b o ho,hn,hb⟩
theorem Lie.append{H:Heap}: ∀{σ τ:List Rs} {f g:List (List Nat)},Lie H σ f→Lie H τ g→Lie H (σ++τ) (f++g)
 |[],_,[],_,_,h=>h
 |_::_,_,_::_,_,h,h'=>⟨h.1,Lie.append h.2 h'⟩
theorem Lie.split{H:Heap}: ∀{σ τ:List Rs} {f:List (List Nat)},Lie H (σ++τ) f→ ∃a b,f=a++b∧Lie H σ a∧Lie H τ b
 |[],_,f,h=>⟨[],f,rfl,trivial,h⟩
 |r::σ,τ,[],h=>h.elim
 |r::σ,τ,g::f,h=>let ⟨a,b,e,h1,h2⟩:=Lie.split h.2;⟨g::a,b,by rw[e];rfl,⟨h.1,h1⟩,h2⟩
theorem St.call(hs:St H0 H σ)(ht:St H H' τ):St H0 H' (τ++σ):=by
 obtain⟨h1,fps,hl,hn,hb⟩:=hs
 obtain⟨h2,gps,hl2,hn2,hb2⟩:=ht
 refine⟨h1.trans h2,gps++fps,hl2.append (hl.loc fun b _ o ho=>h2 b o ho),?_,fun b h=>?_⟩
 ·rw[List.flatten_append,List.nodup_append]
  refine⟨hn2,hn,fun a ha b hb' hab=>?_⟩
  subst hab
  have:=hb2 a ha;have:=hl.has a hb';omega
 ·rw[List.flatten_append,List.mem_append] at h
  rcases h with h|h
  ·have:=hb2 b h;have:=h1.size;omega
  ·exact hb b h
theorem St.perm(hs:St H0 H σ)(hp:σ.Perm τ):St H0 H τ:=by
 obtain⟨he,fps,hl,hn,hb⟩:=hs
 have: ∀{σ τ:List Rs},σ.Perm τ→ ∀fps,Lie H σ fps→ ∃gps,Lie H τ gps∧fps.Perm gps:=by
  intro σ τ hp
  induction hp with
  |nil=>intro fps h;exact⟨fps,h,List.Perm.refl _⟩
  |cons x _ ih=>
   intro fps h
   match fps,h with
   |f::fps,h=>obtain⟨g,h1,h2⟩:=ih fps h.2;exact⟨f::g,⟨h.1,h1⟩,h2.cons f⟩
  |swap x y l=>
   intro fps h
   match fps,h with
   |f::g::fps,h=>exact⟨g::f::fps,⟨h.2.1,h.1,h.2.2⟩,List.Perm.swap _ _ _⟩
  |trans _ _ ih1 ih2=>
   intro fps h
   obtain⟨g,h1,h2⟩:=ih1 fps h
   obtain⟨k,h3,h4⟩:=ih2 g h1
   exact⟨k,h3,h2.trans h4⟩
 obtain⟨gps,h1,h2⟩:=this hp fps hl
 exact⟨he,gps,h1,(h2.flatten.nodup_iff).1 hn,fun b h=>hb b ((h2.flatten.mem_iff).2 h)⟩
theorem St.app(hs:St H0 H (σ++τ)):St H0 H σ∧St H0 H τ:=by
 obtain⟨he,fps,hl,hn,hb⟩:=hs
 obtain⟨a,b,rfl,h1,h2⟩:=hl.split
 rw[List.flatten_append,List.nodup_append] at hn
 rw[List.flatten_append] at hb
 exact⟨⟨he,a,h1,hn.1,fun x hx=>hb x (List.mem_append_left _ hx)⟩,⟨he,b,h2,hn.2.1,fun x hx=>hb x (List.mem_append_right _ hx)⟩⟩
theorem St.tail{r:Rs}(hs:St H0 H (r::σ)):St H0 H σ:=(St.app (σ:=[r]) hs).2
theorem St.drop(hs:St H0 H σ)(n:Nat):St H0 H (σ.drop n):=by
 rw[←List.take_append_drop n σ] at hs
 exact hs.app.2
theorem St.take(hs:St H0 H σ)(n:Nat):St H0 H (σ.take n):=by
 rw[←List.take_append_drop n σ] at hs
 exact hs.app.1
theorem St.swap{r s:Rs}(hs:St H0 H (r::s::σ)):St H0 H (s::r::σ):=hs.perm (List.Perm.swap _ _ _)
theorem St.front(hs:St H0 H σ)(i:Nat){r:Rs}(hi:σ[i]?=some r):St H0 H (r::σ.eraseIdx i):=by
 refine hs.perm ?_
 have: ∀(l:List Rs) (i:Nat),l[i]?=some r→l.Perm (r::l.eraseIdx i):=by
  intro l
  induction l with
  |nil=>intro i h;simp at h
  |cons x l ih=>
   intro i h
   cases i with
   |zero=>simp at h;subst h;exact List.Perm.refl _
   |succ i=>exact((ih i (by simpa using h)).cons x).trans (List.Perm.swap _ _ _)
 exact this σ i hi
theorem St.back{r r':Rs}{i:Nat}(hi:σ[i]?=some r)(hs:St H0 H (r'::σ.eraseIdx i)):St H0 H (σ.set i r'):=by
 refine hs.perm ?_
 have: ∀(l:List Rs) (i:Nat),l[i]?=some r→(r'::l.eraseIdx i).Perm (l.set i r'):=by
  intro l
  induction l with
  |nil=>intro i h;simp at h
  |cons x l ih=>
   intro i h
   cases i with
   |zero=>exact List.Perm.refl _
   |succ i=>exact(List.Perm.swap _ _ _).trans ((ih i (by simpa using h)).cons x)
 exact this σ i hi
theorem St.del(hs:St H0 H σ)(i:Nat):St H0 H (σ.eraseIdx i):=by
 rcases Nat.lt_or_ge i σ.length with h|h
 ·exact(hs.front i (List.getElem?_eq_getElem h)).tail
 ·rw[List.eraseIdx_of_length_le h];exact hs
theorem St.cat{r s:Rs}(hs:St H0 H (r::s::σ)):St H0 H (.star r s::σ):=by
 obtain⟨he,fps,hl,hn,hb⟩:=hs
 match fps,hl with
 |f::g::fps,hl=>exact⟨he,(f++g)::fps,⟨⟨f,g,rfl,hl.1,hl.2.1⟩,hl.2.2⟩,by simpa using hn,fun b h=>hb b (by simpa using h)⟩
theorem St.cut{r s:Rs}(hs:St H0 H (.star r s::σ)):St H0 H (r::s::σ):=by
 obtain⟨he,fps,hl,hn,hb⟩:=hs
 match fps,hl with
 |_::fps,⟨⟨f,g,rfl,h1,h2⟩,h3⟩=>exact⟨he,f::g::fps,⟨h1,h2,h3⟩,by simpa using hn,fun b h=>hb b (by simpa using h)⟩
theorem St.unex{α:Type}{f:α→Rs}(hs:St H0 H (.ex f::σ)): ∃a,St H0 H (f a::σ):=by
 obtain⟨he,fps,hl,hn,hb⟩:=hs
 match fps,hl with
 |g::fps,⟨⟨a,h1⟩,h3⟩=>exact⟨a,he,g::fps,⟨h1,h3⟩,hn,hb⟩
theorem St.inex{α:Type}{f:α→Rs}(a:α)(hs:St H0 H (f a::σ)):St H0 H (.ex f::σ):=by
 obtain⟨he,fps,hl,hn,hb⟩:=hs
 match fps,hl with
 |g::fps,⟨h1,h3⟩=>exact⟨he,g::fps,⟨⟨a,h1⟩,h3⟩,hn,hb⟩
theorem St.fact{q:Prop}{r:Rs}(hs:St H0 H (.pu q r::σ)):q∧St H0 H (r::σ):=by
 obtain⟨he,fps,hl,hn,hb⟩:=hs
 match fps,hl with
 |g::fps,⟨⟨a,h1⟩,h3⟩=>exact⟨a,he,g::fps,⟨h1,h3⟩,hn,hb⟩
theorem St.with{q:Prop}{r:Rs}(hq:q)(hs:St H0 H (r::σ)):St H0 H (.pu q r::σ):=by
 obtain⟨he,fps,hl,hn,hb⟩:=hs
 match fps,hl with
 |g::fps,⟨h1,h3⟩=>exact⟨he,g::fps,⟨⟨hq,h1⟩,h3⟩,hn,hb⟩
theorem St.new(hs:St H0 H σ){r:Rs}{fp:List Nat}(he:Ext H H')(h:r.at_ H' fp)(hn:fp.Nodup)(hb: ∀b∈fp,H.size≤b):St H0 H' (r::σ):=
 St.call (τ:=[r]) hs ⟨he,[fp],⟨h,trivial⟩,by simpa using hn,by simpa using hb⟩
theorem St.block(hs:St H0 H σ)(i:Nat){b:Nat}{cs:Array Value}{ty:TypeId}(hi:σ[i]?=some (.cell b cs ty)):H[b]?=some (.cells cs ty):=by
 obtain⟨_,fps,hl,_⟩:=hs
 obtain⟨fp,_,h⟩:=hl.get hi
 exact h.2
theorem St.get(hs:St H0 H σ)(i:Nat){b j:Nat}{cs:Array Value}{ty:TypeId}{v:Value}(hi:σ[i]?=some (.cell b cs ty))(hj:cs[j]?=some v):Sh.cell H ⟨b,j,none⟩=some v:=
 cell_get (hs.block i hi) hj
theorem St.alc(hs:St H0 H σ){cs:Array Value}{ty:TypeId}{K:Nat→Heap→Prop}(hK: ∀b H',St H0 H' (.cell b cs ty::σ)→K b H'):Sh.alc H (.cells cs ty) K:=
 hK _ _ (hs.new (Ext.push _ _) (fp:=[H.size]) ⟨rfl,get_push_self _ _⟩ (by simp) (by simp))
theorem St.alcE(hs:St H0 H σ){cs:Array Value}{ty:TypeId}{K:Nat→Heap→Prop}(hK: ∀b H',Ext H H'→St H0 H' (.cell b cs ty::σ)→K b H'):Sh.alc H (.cells cs ty) K:=
 hK _ _ (Ext.push _ _) (hs.new (Ext.push _ _) (fp:=[H.size]) ⟨rfl,get_push_self _ _⟩ (by simp) (by simp))
theorem St.put(hs:St H0 H σ)(i:Nat){b j:Nat}{cs:Array Value}{ty:TypeId}{v:Value}{f:Heap→Prop}(hi:σ[i]?=some (.cell b cs ty))(hj:j<cs.size)(ho:v.oneCell'=true)
 (hK: ∀H',St H0 H' (σ.set i (.cell b (cs.setIfInBounds j v) ty))→f H'):stAt H ⟨b,j,none⟩ [v] f:=
 stAt_one (hs.block i hi) hj ho (hK _ (hs.upd hi fun fp h1 _ _=>⟨[b],⟨rfl,get_set_self h1.2⟩,by simp,fun x hx=> .inl (h1.1▸hx),fun x o ho hx=>get_set_ne (fun he=>hx (by rw[h1.1,he];exact List.mem_singleton.2 rfl)) ho⟩))
theorem St.putAll(hs:St H0 H σ)(i:Nat){b:Nat}{cs:Array Value}{ty:TypeId}{vs:List Value}{f:Heap→Prop}(hi:σ[i]?=some (.cell b cs ty))(hl:vs.length=cs.size)(ho: ∀v∈vs,v.oneCell'=true)
 (hK: ∀H',St H0 H' (σ.set i (.cell b vs.toArray ty))→f H'):stAt H ⟨b,0,none⟩ vs f:=
 stAt_whole (hs.block i hi) hl ho (hK _ (hs.upd hi fun fp h1 _ _=>⟨[b],⟨rfl,get_set_self h1.2⟩,by simp,fun x hx=> .inl (h1.1▸hx),fun x o ho hx=>get_set_ne (fun he=>hx (by rw[h1.1,he];exact List.mem_singleton.2 rfl)) ho⟩))
theorem St.fs(hs:St H0 H σ)(i:Nat){p:Option Addr}{l c k:Nat}{el:TypeId}{fs:List Value}(hi:σ[i]?=some (.sl p l c el k fs)):FS 0 H p l c el k fs:=by
 obtain⟨_,fps,hl,_⟩:=hs
 obtain⟨fp,_,h⟩:=hl.get hi
 exact h.1
theorem St.rs(hs:St H0 H σ)(i:Nat){p:Option Addr}{l c k:Nat}{el:TypeId}{fs:List Value}(hi:σ[i]?=some (.sl p l c el k fs)):RS H p l el k fs:=(hs.fs i hi).rs
theorem St.is(hs:St H0 H σ)(i:Nat){p:Option Addr}{l c:Nat}{el:TypeId}{fs:List Value}(hi:σ[i]?=some (.sl p l c el 1 fs)):IS H p l fs:=(hs.rs i hi).is
theorem FS.resrc{n0:Nat}{H:Heap}{p:Option Addr}{l c k:Nat}{el:TypeId}{fs:List Value}(h:FS n0 H p l c el k fs): ∃fp,(Rs.sl p l c el k fs).at_ H fp∧fp.Nodup∧(∀b∈fp,n0≤b)∧ ∀b∈fp,p=some ⟨b,0,none⟩:=by
 rcases h.at_ with ⟨h1,h2⟩|⟨blk,cs,h1,h2,h3,h4,h5⟩
 ·exact⟨[],⟨h.lower (Nat.zero_le _),.inl ⟨h1,rfl⟩⟩,by simp,by simp,by simp⟩
 ·exact⟨[blk],⟨h.lower (Nat.zero_le _),.inr ⟨blk,h1,rfl⟩⟩,by simp,by simpa using h2,by simpa using h1⟩
theorem St.newSl(hs:St H0 H σ){p:Option Addr}{l c k:Nat}{el:TypeId}{fs:List Value}(he:Ext H H')(h:FS H.size H' p l c el k fs):St H0 H' (.sl p l c el k fs::σ):=by
 obtain⟨fp,h1,h2,h3,_⟩:=h.resrc
 exact hs.new he h1 h2 h3
theorem St.nilSl(hs:St H0 H σ)(el:TypeId)(k:Nat):St H0 H (.sl none 0 0 el k []::σ):=hs.newSl (Ext.refl _) (FS.nil _ _ _ _)
theorem St.toSl(hs:St H0 H σ)(i:Nat){b l k:Nat}{cs:Array Value}{ty:TypeId}{fs:List Value}(hi:σ[i]?=some (.cell b cs ty))(hl:cs.size=l*k)(hf:cs.toList=fs)(ho: ∀v∈fs,v.oneCell'=true):
 St H0 H (σ.set i (.sl (some ⟨b,0,none⟩) l l ty k fs)):=
 hs.as i hi fun fp h=>⟨⟨by rw[←hf];simpa using hl,Nat.le_refl _,ho,.inr ⟨b,cs,rfl,Nat.zero_le _,h.2,hl,fun j v hv=>by rw[←hf] at hv;simpa using hv⟩⟩,.inr ⟨b,rfl,h.1⟩⟩
theorem FS.app2{n0:Nat}{H:Heap}{p q:Option Addr}{l c n:Nat}{el:TypeId}{k bytes:Nat}{zero:Array Value}{fs gs:List Value}(h:FS n0 H p l c el k fs)(hrow:Go.Sh.rowOf H q (n*k) gs.toArray)(hgl:gs.length=n*k)(hgo: ∀v∈gs,v.oneCell'=true)(hk:0<k)(hn:n0≤H.size)(hz:zero.size=k)
 (hb:(l+n)*bytes≤70368744177664)(hm:l+n≤1000000000000){K:Option Addr→Nat→Nat→Heap→Prop}
 (hK: ∀p' c' H',FS n0 H' p' (l+n) c' el k (fs++gs)→(∀(b:Nat) (o:Obj),H[b]?=some o→p≠some ⟨b,0,none⟩→H'[b]?=some o)→(p'=p∨p'=some ⟨H.size,0,none⟩)→K p' (l+n) c' H'):appQ k bytes zero H p l c q n el K:=by
 by_cases hle:l+n≤c
 ·obtain⟨g1,g2,xs,g3,g4,_⟩:=h.app' (K:=fun p' l' c' H'=>p'=p→K p' l' c' H') hrow hgl hgo hk hn hz hb hm fun p' c' H' h1 h2 h3 hp=>hK p' c' H' h1 h2 (.inl hp)
  refine⟨g1,g2,xs,g3,fun hle=>?_,fun hlt=>by omega⟩
  have:=g4 hle
  cases p with
  |none=>exact this rfl
  |some a=>
   obtain⟨cs,T,a1,a2,a3,a4,a5⟩:=this
   exact⟨cs,T,a1,a2,a3,a4,a5 rfl⟩
 ·obtain⟨g1,g2,xs,g3,_,g4⟩:=h.app' (K:=fun p' l' c' H'=>p'=some ⟨H.size,0,none⟩→K p' l' c' H') hrow hgl hgo hk hn hz hb hm fun p' c' H' h1 h2 h3 hp=>hK p' c' H' h1 h2 (.inr hp)
  refine⟨g1,g2,xs,g3,fun hle'=>by omega,fun hlt=>?_⟩
  obtain⟨ys,b1,b2⟩:=g4 hlt
  exact⟨ys,b1,fun c' hc'=>b2 c' hc' rfl⟩
theorem Rs.sl_at{H:Heap}{p:Option Addr}{l c k:Nat}{el:TypeId}{fs:List Value}{fp:List Nat}(h:(Rs.sl p l c el k fs).at_ H fp){b:Nat}(hp:p=some ⟨b,0,none⟩):fp=[b]:=by
 rcases h.2 with ⟨h1,_⟩|⟨blk,h1,h2⟩
 ·rw[hp] at h1;cases h1
 ·rw[hp] at h1;cases h1;exact h2
theorem St.slSet(hs:St H0 H σ){i:Nat}{p p':Option Addr}{l c l' c' k:Nat}{el:TypeId}{fs fs':List Value}(hi:σ[i]?=some (.sl p l c el k fs))(h:FS 0 H' p' l' c' el k fs')
 (hk: ∀(b:Nat) (o:Obj),H[b]?=some o→p≠some ⟨b,0,none⟩→H'[b]?=some o)(hp:p'=p∨p'=some ⟨H.size,0,none⟩):St H0 H' (σ.set i (.sl p' l' c' el k fs')):=by
 refine hs.upd hi fun fp h1 h2 h3=>?_
 obtain⟨fp',g1,g2,_,g4⟩:=h.resrc
 refine⟨fp',g1,g2,fun b hb=>?_,fun b o ho hb=>hk b o ho fun he=>hb (by rw[Rs.sl_at h1 he];exact List.mem_singleton.2 rfl)⟩
 have:=g4 b hb
 rcases hp with rfl|hp
 ·left;rw[Rs.sl_at h1 this];exact List.mem_singleton.2 rfl
 ·rw[this] at hp;cases hp;exact .inr (Nat.le_refl _)
theorem St.appS(hs:St H0 H σ)(i:Nat){p q:Option Addr}{l c n k bytes:Nat}{el:TypeId}{zero:Array Value}{fs gs:List Value}(hi:σ[i]?=some (.sl p l c el k fs))(hrow:Go.Sh.rowOf H q (n*k) gs.toArray)(hgl:gs.length=n*k)
 (hgo: ∀v∈gs,v.oneCell'=true)(hk:0<k)(hz:zero.size=k)(hb:(l+n)*bytes≤70368744177664)(hm:l+n≤1000000000000){K:Option Addr→Nat→Nat→Heap→Prop}
 (hK: ∀p' c' H',St H0 H' (σ.set i (.sl p' (l+n) c' el k (fs++gs)))→K p' (l+n) c' H'):appQ k bytes zero H p l c q n el K:=
 (hs.fs i hi).app2 hrow hgl hgo hk (Nat.zero_le _) hz hb hm fun p' c' H' h1 h2 h3=>hK p' c' H' (hs.slSet hi h1 h2 h3)
theorem St.appC(hs:St H0 H σ)(i m:Nat){p:Option Addr}{b l c n k bytes:Nat}{el ty:TypeId}{zero cs:Array Value}{fs:List Value}(hi:σ[i]?=some (.sl p l c el k fs))(hm':σ[m]?=some (.cell b cs ty))(hgl:cs.size=n*k)
 (hgo: ∀v∈cs.toList,v.oneCell'=true)(hk:0<k)(hz:zero.size=k)(hb:(l+n)*bytes≤70368744177664)(hm:l+n≤1000000000000){K:Option Addr→Nat→Nat→Heap→Prop}
 (hK: ∀p' c' H',St H0 H' (σ.set i (.sl p' (l+n) c' el k (fs++cs.toList)))→K p' (l+n) c' H'):appQ k bytes zero H p l c (some ⟨b,0,none⟩) n el K:=
 hs.appS i hi (gs:=cs.toList) (show Go.Sh.rowOf H (Option.some ⟨b,0,none⟩) (n*k) cs.toList.toArray from⟨by simpa using hgl,by simpa using rowIn_whole (hs.block m hm')⟩) (by simpa using hgl) hgo hk hz hb hm hK
theorem IS.rowOf{H:Heap}{p:Option Addr}{l:Nat}{fs:List Value}(h:IS H p l fs):Go.Sh.rowOf H p (l*1) fs.toArray:=by
 cases p with
 |none=>
  have:fs=[]:=List.eq_nil_iff_forall_not_mem.2 fun v hv=>by
   obtain⟨i,hi⟩:=List.getElem?_of_mem hv
   obtain⟨a,h1,_⟩:=h.get i v hi
   cases h1
  subst this;rfl
 |some a=>
  refine⟨by simp[h.len],fun j v hv=>?_⟩
  obtain⟨a',h1,h2⟩:=h.get j v (by simpa using hv)
  cases h1;exact h2
theorem St.appI(hs:St H0 H σ)(i:Nat){p q:Option Addr}{l c n bytes:Nat}{el:TypeId}{zero:Array Value}{fs gs:List Value}(hi:σ[i]?=some (.sl p l c el 1 fs))(hr:IS H q n gs)(ho: ∀v∈gs,v.oneCell'=true)(hz:zero.size=1)
 (hb:(l+n)*bytes≤70368744177664)(hm:l+n≤1000000000000){K:Option Addr→Nat→Nat→Heap→Prop}
 (hK: ∀p' c' H',St H0 H' (σ.set i (.sl p' (l+n) c' el 1 (fs++gs)))→K p' (l+n) c' H'):appQ 1 bytes zero H p l c q n el K:=
 hs.appS i hi hr.rowOf (by simp[hr.len]) ho (by decide) hz hb hm hK
theorem St.slPut(hs:St H0 H σ)(i:Nat){b l c k j:Nat}{el:TypeId}{fs:List Value}{v:Value}{f:Heap→Prop}(hi:σ[i]?=some (.sl (some ⟨b,0,none⟩) l c el k fs))(hj:j<fs.length)(ho:v.oneCell'=true)
 (hK: ∀H',St H0 H' (σ.set i (.sl (some ⟨b,0,none⟩) l c el k (fs.set j v)))→f H'):stAt H ⟨b,j,none⟩ [v] f:=
 (hs.fs i hi).set hj ho fun H' h1 h2 h3=>hK H' (hs.slSet hi h1 (fun b' o ho hne=>h2 b' o ho fun he=>hne (by rw[he])) (.inl rfl))
theorem St.slSome(hs:St H0 H σ)(i:Nat){p:Option Addr}{l c k j:Nat}{el:TypeId}{fs:List Value}(hi:σ[i]?=some (.sl p l c el k fs))(hj:j<fs.length): ∃b,p=some ⟨b,0,none⟩:=by
 obtain⟨b,h,_⟩:=(hs.rs i hi).cell (List.getElem?_eq_getElem hj)
 exact⟨b,h⟩
def kints(k:IntKind)(l:List Int):List Value:=l.map (Value.int k)
theorem kints_get{k:IntKind}{l:List Int}{i:Nat}{v:Int}(h:l[i]?=some v):(kints k l)[i]?=some (Value.int k v):=by simp[kints,h]
theorem kints_len(k:IntKind)(l:List Int):(kints k l).length=l.length:=by simp[kints]
theorem kints_append(k:IntKind)(a b:List Int):kints k (a++b)=kints k a++kints k b:=by simp[kints]
theorem kints_set(k:IntKind)(l:List Int)(i:Nat)(v:Int):(kints k l).set i (.int k v)=kints k (l.set i v):=by simp[kints]
theorem kints_one(k:IntKind)(l:List Int): ∀v∈kints k l,v.oneCell'=true:=fun v hv=>by
 obtain⟨x,_,rfl⟩:=List.mem_map.1 hv;rfl
theorem IS.rd{H:Heap}{p:Option Addr}{l:Nat}{k:IntKind}{ls:List Int}(h:IS H p l (kints k ls)){i x:Int}(h0:0≤i)(h1:i<l)(hx:ls[i.toNat]?=some x){K:Int→Prop}(hK:K x):
 ∃a:Addr,p=some a∧0≤i∧i<((l:Nat):Int)∧ ∃v:Int,Sh.cell H (Addr.add a (Int.toNat i*1))=some (.int k v)∧K v:=by
 obtain⟨a,hp,hc⟩:=h.get _ _ (kints_get hx)
 exact⟨a,hp,h0,h1,x,by simpa using hc,hK⟩
theorem IS.get'{H:Heap}{p:Option Addr}{l:Nat}{k:IntKind}{ls:List Int}(h:IS H p l (kints k ls)){i:Nat}(hi:i<l): ∃x,ls[i]?=some x:=by
 have:=h.len;rw[kints_len] at this
 exact⟨ls[i],List.getElem?_eq_getElem (by omega)⟩
theorem IS.length{H:Heap}{p:Option Addr}{l:Nat}{k:IntKind}{ls:List Int}(h:IS H p l (kints k ls)):ls.length=l:=by have:=h.len;rwa [kints_len] at this
theorem add_add(a:Addr)(i j:Nat):(a.add i).add j=a.add (i+j):=by
 obtain⟨b,o,s⟩:=a
 unfold Addr.add
 cases s<;>simp<;>split<;>split<;>simp_all<;>omega
theorem IS.part{H:Heap}{a:Addr}{l:Nat}{fs:List Value}(h:IS H (some a) l fs){i n:Nat}(hi:i+n≤l):IS H (some (a.add i)) n ((fs.drop i).take n):=by
 refine⟨by have:=h.len;simp;omega,fun j v hv=>?_⟩
 rw[List.getElem?_take] at hv
 split at hv
 ·rw[List.getElem?_drop] at hv
  obtain⟨a',h1,h2⟩:=h.get _ _ hv
  cases h1
  refine⟨_,rfl,?_⟩
  rw[show(a.add i).add j=a.add (i+j) from add_add a i j]
  exact h2
 ·cases hv
theorem upto{n:Nat}{Q:Nat→Prop}(h: ∀i,i≤n→(i<n→Q (i+1))→Q i): ∀i,i≤n→Q i:=by
 have: ∀m i,n-i=m→i≤n→Q i:=by
  intro m
  induction m with
  |zero=>intro i hm hi;exact h i hi fun hlt=>by omega
  |succ m ih=>intro i hm hi;exact h i hi fun hlt=>ih (i+1) (by omega) (by omega)
 exact fun i hi=>this (n-i) i rfl hi
end Go.Sh
namespace Go.Proofs
open Go.Sh
theorem gD_left{α:Type}(a b:List α)(d:α)(i:Nat)(h:i<a.length):(a++b).getD i d=a.getD i d:=by simp[List.getD_eq_getElem?_getD,List.getElem?_append_left h]
theorem gD_right{α:Type}(a b:List α)(d:α)(i:Nat)(h:a.length≤i):(a++b).getD i d=b.getD (i-a.length) d:=by simp[List.getD_eq_getElem?_getD,List.getElem?_append_right h]
theorem gD_none{α:Type}(a:List α)(d:α){i:Nat}(h:a.length≤i):a.getD i d=d:=by simp[List.getD_eq_getElem?_getD,List.getElem?_eq_none h]
theorem gD_get{α:Type}{a:List α}{d:α}{i:Nat}{x:α}(h:a[i]?=some x):a.getD i d=x:=by simp[List.getD_eq_getElem?_getD,h]
theorem get_gD{α:Type}(a:List α)(d:α){i:Nat}(h:i<a.length):a[i]?=some (a.getD i d):=by rw[List.getD_eq_getElem?_getD,List.getElem?_eq_getElem h];rfl
def bpos(hi:Bool)(i:Nat):Nat:=if hi then 7-i%8 else i%8
def bitB(hi:Bool)(B:List Int)(i:Nat):Int:=B.getD (i/8) 0/2^bpos hi i%2
def numB(hi:Bool)(B:List Int)(at_:Nat):Nat→Int
 |0=>0
 |n+1=>if hi then 2*numB hi B at_ n+bitB hi B (at_+n) else numB hi B at_ n+bitB hi B (at_+n)*2^n
theorem bpos_lt(hi:Bool)(i:Nat):bpos hi i<8:=by unfold bpos;split<;>omega
theorem bpos_ne{hi:Bool}{i j:Nat}(h:i/8=j/8)(hne:i≠j):bpos hi i≠bpos hi j:=by unfold bpos;split<;>omega
theorem bitB_rng(hi:Bool)(B:List Int)(i:Nat):bitB hi B i=0∨bitB hi B i=1:=by unfold bitB;omega
theorem pow_cast(n:Nat):((2^n:Nat):Int)=(2:Int)^n:=by simp
theorem two_pow_pos(n:Nat):(0:Int)<2^n:=Int.pow_pos (by omega)
theorem pow_le{m n:Nat}(h:m≤n):(2:Int)^m≤2^n:=by
 rw[←pow_cast,←pow_cast];exact Int.ofNat_le.2 (Nat.pow_le_pow_right (by omega) h)
theorem numB_rng(hi:Bool)(B:List Int)(at_:Nat): ∀n,0≤numB hi B at_ n∧numB hi B at_ n<2^n
 |0=>by simp[numB]
 |n+1=>by
  have h:=numB_rng hi B at_ n
  have hp:=two_pow_pos n
  rw[numB,Int.pow_succ]
  rcases bitB_rng hi B (at_+n) with hb|hb<;>rw[hb]<;>split<;>omega
theorem ofInt_nat{n:Nat}{x:Int}(h0:0≤x)(h1:x<2^n):(BitVec.ofInt n x).toNat=x.toNat:=by
 rw[BitVec.toNat_ofInt]
 congr 1
 rw[pow_cast];exact Int.emod_eq_of_lt h0 h1
theorem or_sum{a b:Int}{k:Nat}(a0:0≤a)(ak:a<2^k)(b0:0≤b)(hs:a+b*2^k<9223372036854775808):orI .i64 a (b*2^k)=a+b*2^k:=by
 have hp:=two_pow_pos k
 have hb:0≤b*2^k:=Int.mul_nonneg b0 (Int.le_of_lt hp)
 have e64:(2:Int)^64=18446744073709551616:=by decide
 unfold orI
 rw[show IntKind.bits .i64=64 from rfl,BitVec.toNat_or,ofInt_nat a0 (by omega),ofInt_nat hb (by omega)]
 have h1:(b*2^k).toNat=2^k*b.toNat:=by
  obtain⟨n,rfl⟩:=Int.eq_ofNat_of_zero_le b0
  rw[←pow_cast,←Int.natCast_mul,Int.toNat_natCast,Int.toNat_natCast,Nat.mul_comm]
 have h2:a.toNat<2^k:=by
  have:=pow_cast k;omega
 rw[h1,Nat.or_comm,←Nat.two_pow_add_eq_or_of_lt h2,←h1]
 rw[wrap_id (by omega) (by omega)]
 omega
theorem or_sum'{a b:Int}{k:Nat}(a0:0≤a)(ak:a<2^k)(b0:0≤b)(hs:a+b*2^k<9223372036854775808):orI .i64 (b*2^k) a=a+b*2^k:=by
 rw[←or_sum a0 ak b0 hs]
 unfold orI
 rw[BitVec.or_comm]
theorem shl_of{x:Int}{k:Nat}(h0:0≤x)(hk:k≤62)(hs:x*2^k<9223372036854775808):shlI .i64 x k=x*2^k:=by
 unfold shlI
 rw[show min (k:Int).toNat (IntKind.bits .i64)=k from by rw[Int.toNat_natCast];exact Nat.min_eq_left (by show k≤64;omega)]
 have:=Int.mul_nonneg h0 (Int.le_of_lt (two_pow_pos k))
 exact wrap_id (by omega) (by omega)
theorem shr_of(x:Int){k:Nat}(hk:k≤62):shrI .i64 x k=x/2^k:=by
 unfold shrI
 rw[show min (k:Int).toNat (IntKind.bits .i64)=k from by rw[Int.toNat_natCast];exact Nat.min_eq_left (by show k≤64;omega)]
 exact Int.fdiv_eq_ediv_of_nonneg _ (Int.le_of_lt (two_pow_pos k))
theorem shr8_of(x:Int){k:Nat}(hk:k≤8):shrI .u8 x k=x/2^k:=by
 unfold shrI
 rw[show min (k:Int).toNat (IntKind.bits .u8)=k from by rw[Int.toNat_natCast];exact Nat.min_eq_left hk]
 exact Int.fdiv_eq_ediv_of_nonneg _ (Int.le_of_lt (two_pow_pos k))
theorem andI_1(a:Int):andI .i64 a (1:Int)=a%2:=by
 unfold andI
 rw[show IntKind.bits .i64=64 from rfl,BitVec.toNat_and,BitVec.toNat_ofInt,BitVec.toNat_ofInt]
 rw[show((1:Int)%((2^64:Nat):Int)).toNat=1 from by decide,Nat.and_one_is_mod]
 have h2:(((a%((2^64:Nat):Int)).toNat%2:Nat):Int)=a%2:=by
  rw[show((2^64:Nat):Int)=18446744073709551616 from by decide];omega
 rw[h2]
 exact wrap_id (by omega) (by omega)
theorem one1{v:Value}(h:v.oneCell'=true): ∀u∈[v],u.oneCell'=true:=fun u hu=>by rw[List.mem_singleton.1 hu];exact h
theorem or_byte: ∀(x:Fin 256) (j:Fin 8) (b:Fin 2),x.val/2^j.val%2=0→orI .u8 (x.val:Int) (shlI .u8 (b.val:Int) (j.val:Int))=((x.val+b.val*2^j.val:Nat):Int)∧x.val+b.val*2^j.val<256:=by decide+kernel
theorem bit_set: ∀(x:Fin 256) (j:Fin 8) (b:Fin 2) (i:Fin 8),x.val/2^j.val%2=0→(x.val+b.val*2^j.val)/2^i.val%2=if i=j then b.val else x.val/2^i.val%2:=by decide+kernel
structure WOk(hi:Bool)(ws B:List Int):Prop where
 len:B.length=(ws.length+7)/8
 rng: ∀x∈B,0≤x∧x<256
 bit: ∀i:Nat,bitB hi B i=ws.getD i 0
theorem WOk.nil(hi:Bool):WOk hi [] []:=⟨rfl,by simp,fun i=>by simp[bitB]⟩
theorem getD_rng{B:List Int}(h: ∀x∈B,0≤x∧x<256)(i:Nat):0≤B.getD i 0∧B.getD i 0<256:=by
 rw[List.getD_eq_getElem?_getD]
 cases hb:B[i]? with
 |none=>simp
 |some x=>exact h x (List.mem_of_getElem? hb)
theorem WOk.put{hi:Bool}{ws B:List Int}{b:Int}(h:WOk hi ws B)(hb:b=0∨b=1){C:List Int}(hC:C=if ws.length%8=0 then B++[0] else B):
 ∃x,C[ws.length/8]?=some x∧0≤x∧x<256∧WOk hi (ws++[b]) (C.set (ws.length/8) (orI .u8 x (shlI .u8 b (bpos hi ws.length)))):=by
 have hl:=h.len
 have hlen:C.length=ws.length/8+1:=by
  rw[hC];split
  ·simp;omega
  ·omega
 have hr: ∀x∈C,0≤x∧x<256:=by
  rw[hC];split
  ·intro x hx
   rcases List.mem_append.1 hx with hx|hx
   ·exact h.rng x hx
   ·simp at hx;subst hx;omega
  ·exact h.rng
 have hbit: ∀i:Nat,bitB hi C i=ws.getD i 0:=fun i=>by
  rw[←h.bit i,hC]
  split
  ·unfold bitB
   by_cases hi':i/8<B.length
   ·rw[gD_left _ _ _ _ hi']
   ·rw[gD_none B _ (by omega)]
    by_cases he:i/8=B.length
    ·rw[gD_right _ _ _ _ (by omega),he,Nat.sub_self];rfl
    ·rw[gD_none _ _ (by simp;omega)]
  ·rfl
 have hx:C[ws.length/8]?=some (C.getD (ws.length/8) 0):=by
  rw[List.getD_eq_getElem?_getD,List.getElem?_eq_getElem (by omega)];rfl
 generalize hxe:C.getD (ws.length/8) 0=x at hx
 have hxr:=hr x (List.mem_of_getElem? hx)
 refine⟨x,hx,hxr.1,hxr.2,?_⟩
 obtain⟨n,rfl⟩:=Int.eq_ofNat_of_zero_le hxr.1
 have hn:n<256:=by omega
 obtain⟨c,hc,rfl⟩: ∃c:Nat,c<2∧b=(c:Int):=by
  rcases hb with rfl|rfl
  ·exact⟨0,by omega,rfl⟩
  ·exact⟨1,by omega,rfl⟩
 have hz:n/2^bpos hi ws.length%2=0:=by
  have h1:=hbit ws.length
  unfold bitB at h1
  rw[hxe,gD_none _ _ (Nat.le_refl _),←pow_cast] at h1
  omega
 obtain⟨ho,ho2⟩:=or_byte ⟨n,hn⟩ ⟨bpos hi ws.length,bpos_lt hi _⟩ ⟨c,hc⟩ hz
 simp only at ho ho2
 rw[ho]
 refine⟨by rw[List.length_set,hlen,List.length_append,List.length_singleton];omega,fun y hy=>?_,fun i=>?_⟩
 ·rcases List.mem_or_eq_of_mem_set hy with hy|rfl
  ·exact hr y hy
  ·exact⟨Int.natCast_nonneg _,Int.ofNat_lt.2 ho2⟩
 ·by_cases he:i/8=ws.length/8
  ·have hs:=bit_set ⟨n,hn⟩ ⟨bpos hi ws.length,bpos_lt hi _⟩ ⟨c,hc⟩ ⟨bpos hi i,bpos_lt hi _⟩ hz
   simp only[Fin.mk.injEq] at hs
   have hg:(C.set (ws.length/8) ((n+c*2^bpos hi ws.length:Nat):Int)).getD (i/8) 0=((n+c*2^bpos hi ws.length:Nat):Int):=by
    rw[he,List.getD_eq_getElem?_getD,List.getElem?_set_self (by omega)];rfl
   unfold bitB
   rw[hg,←pow_cast]
   by_cases hil:i=ws.length
   ·subst hil
    rw[if_pos rfl] at hs
    rw[gD_right _ _ _ _ (Nat.le_refl _),Nat.sub_self]
    show _=(c:Int)
    omega
   ·rw[if_neg (bpos_ne he hil)] at hs
    have h1:=hbit i
    unfold bitB at h1
    rw[he,hxe,←pow_cast] at h1
    have h2:(ws++[(c:Int)]).getD i 0=ws.getD i 0:=by
     by_cases hlt:i<ws.length
     ·rw[gD_left _ _ _ _ hlt]
     ·rw[gD_none _ _ (by simp;omega),gD_none _ _ (by omega)]
    rw[h2,←h1]
    omega
  ·have hg:(C.set (ws.length/8) ((n+c*2^bpos hi ws.length:Nat):Int)).getD (i/8) 0=C.getD (i/8) 0:=by
    rw[List.getD_eq_getElem?_getD,List.getElem?_set_ne (Ne.symm he),←List.getD_eq_getElem?_getD]
   have h2:(ws++[(c:Int)]).getD i 0=ws.getD i 0:=by
    by_cases hlt:i<ws.length
    ·rw[gD_left _ _ _ _ hlt]
    ·rw[gD_none _ _ (by simp;omega),gD_none _ _ (by omega)]
   rw[h2,←hbit i]
   unfold bitB
   rw[hg]
def bitsOf(hi:Bool)(v:Int)(n:Nat):List Int:=(List.range n).map fun k=>v/2^(if hi then n-1-k else k)%2
theorem bitsOf_len(hi:Bool)(v:Int)(n:Nat):(bitsOf hi v n).length=n:=by simp[bitsOf]
end Go.Proofs
namespace Go.Proofs
open Go.Sh
theorem wdiv8(n:Nat)(h:n≤1000000000000):IntKind.wrap .i64 (Int.tdiv (n:Int) (8:Int))=((n/8:Nat):Int):=by
 rw[Int.tdiv_eq_ediv_of_nonneg (by omega),wrap_id (by omega) (by omega)];omega
theorem tmod8(n:Nat):Int.tmod (n:Int) (8:Int)=((n%8:Nat):Int):=by rw[Int.tmod_eq_emod_of_nonneg (by omega)];omega
theorem c83{H:Heap}{n:Nat}{hi:Bool}{R:Value→Heap→Prop}(hR:R (.int .i64 (bpos hi n)) H):CallsH Try.prog 83 #[.int .i64 n,.bool hi] H R:=by
 refine Try.s83 ?_
 unfold Try.S83
 rw[tmod8]
 unfold bpos at hR
 refine br_i (fun h=>⟨by decide,?_⟩) (fun h=>⟨by decide,?_⟩)
 ·subst h
  rw[if_pos rfl] at hR
  rw[wrap_id (by omega) (by omega),show((7:Int)-((n%8:Nat):Int))=((7-n%8:Nat):Int) from by omega]
  exact hR
 ·subst h
  rw[if_neg (by decide)] at hR
  exact hR
def wrR(b:Nat)(hi:Bool)(ws:List Int):Rs:=
 .ex fun(x:Option Addr×Nat×Nat×List Int)=> .pu (WOk hi ws x.2.2.2∧ws.length≤1000000000) (.star (.cell b #[.slice x.1 x.2.1 x.2.2.1,.int .i64 ws.length,.bool hi] 105) (.sl x.1 x.2.1 x.2.2.1 5 1 (kints .u8 x.2.2.2)))
variable {H0 H:Heap} {σ:List Rs} {R:Value→Heap→Prop}
theorem wrR_mk{b:Nat}{hi:Bool}{ws:List Int}{p:Option Addr}{l c:Nat}{B:List Int}(ok:WOk hi ws B)(hl:ws.length≤1000000000)(hs:St H0 H (.cell b #[.slice p l c,.int .i64 ws.length,.bool hi] 105:: .sl p l c 5 1 (kints .u8 B)::σ)):St H0 H (wrR b hi ws::σ):=
 St.inex (f:=fun(x:Option Addr×Nat×Nat×List Int)=> .pu (WOk hi ws x.2.2.2∧ws.length≤1000000000) (.star (.cell b #[.slice x.1 x.2.1 x.2.2.1,.int .i64 ws.length,.bool hi] 105) (.sl x.1 x.2.1 x.2.2.1 5 1 (kints .u8 x.2.2.2)))) (p,l,c,B) (St.with ⟨ok,hl⟩ hs.cat)
theorem wrR_op{b:Nat}{hi:Bool}{ws:List Int}(hs:St H0 H (wrR b hi ws::σ)): ∃p l c B,WOk hi ws B∧ws.length≤1000000000∧l=B.length∧St H0 H (.cell b #[.slice p l c,.int .i64 ws.length,.bool hi] 105:: .sl p l c 5 1 (kints .u8 B)::σ):=by
 obtain⟨⟨p,l,c,B⟩,hs⟩:=hs.unex
 obtain⟨⟨ok,hl⟩,hs⟩:=hs.fact
 have:=(hs.cut.is 1 rfl).length
 exact⟨p,l,c,B,ok,hl,this.symm,hs.cut⟩
theorem c45(hs:St H0 H σ){hi:Bool}(hR: ∀b H',St H0 H' (wrR b hi []::σ)→R (.pointer (some ⟨b,0,none⟩)) H'):CallsH Try.prog 45 #[.bool hi] H R:=by
 refine Try.s45 ?_
 unfold Try.S45
 exact hs.alc fun b H' hs=>hR b H' (wrR_mk (WOk.nil hi) (by simp) ((hs.nilSl 5 1).swap))
theorem c64(hs:St H0 H σ){i b:Nat}{hi:Bool}{ws:List Int}(hi':σ[i]?=some (wrR b hi ws))(hl:ws.length<1000000000){v:Int}
 (hR: ∀H',St H0 H' (σ.set i (wrR b hi (ws++[v%2])))→R (.tuple #[]) H'):CallsH Try.prog 64 #[.pointer (some ⟨b,0,none⟩),.int .i64 v] H R:=by
 obtain⟨p,l,c,B,ok,_,hlB,hs⟩:=wrR_op (hs.front i hi')
 refine Try.s64 ?_
 unfold Try.S64
 intro J hJ
 have hB:=ok.len
 have fin: ∀H' p l c C,C=(if ws.length%8=0 then B++[0] else B)→St H0 H' (.cell b #[.slice p l c,.int .i64 ws.length,.bool hi] 105:: .sl p l c 5 1 (kints .u8 C)::σ.eraseIdx i)→J [] H':=by
  intro H' p l c C hC hs
  obtain⟨x,hx,x0,x1,ok'⟩:=ok.put (b:=v%2) (by omega) hC
  have hCl:=(List.getElem?_eq_some_iff.1 hx).1
  have hlC:=(hs.is 1 rfl).length
  obtain⟨blk,hp⟩:=hs.slSome 1 rfl (j:=ws.length/8) (by rw[kints_len];exact hCl)
  subst hp
  refine hJ H' ⟨_,rfl,_,l,c,hs.get 0 rfl rfl,_,rfl,ws.length,hs.get 0 (j:=1) rfl rfl,by decide,?_⟩
  rw[wdiv8 _ (by omega),Int.toNat_natCast]
  have hg:=(hs.is 1 rfl).rd (i:=((ws.length/8:Nat):Int)) (by omega) (by omega) (by rw[Int.toNat_natCast];exact hx) (K:=fun y=>y=x) rfl
  rw[Int.toNat_natCast] at hg
  obtain⟨a,ha,g0,g1,y,g2,rfl⟩:=hg
  cases ha
  refine⟨_,rfl,by omega,by omega,y,g2,_,rfl,ws.length,hs.get 0 (j:=1) rfl rfl,_,rfl,hi,hs.get 0 (j:=2) rfl rfl,c83 ⟨_,rfl,.inl (Ext.refl _),by omega,_,rfl,by omega,by omega,?_⟩⟩
  rw[andI_1,add_none,Nat.zero_add,Nat.mul_one]
  refine hs.slPut 1 rfl (by rw[kints_len];exact hCl) rfl fun H2 hs=>⟨_,rfl,ws.length,hs.get 0 (j:=1) rfl rfl,_,rfl,?_⟩
  rw[add_none,Nat.zero_add,wrap_id (by omega) (by omega)]
  refine hs.put 0 rfl (by simp) rfl fun H3 hs=>hR H3 (St.back hi' (wrR_mk (p:=some ⟨blk,0,none⟩) (l:=l) (c:=c) ok' (by simp;omega) ?_))
  rw[wrap_u8 (by omega) (by omega),List.set_cons_succ,List.set_cons_zero,kints_set] at hs
  have e:(#[Value.slice (some ⟨blk,0,none⟩) l c,.int .i64 (ws.length:Int),.bool hi]:Array Value).setIfInBounds 1 (.int .i64 ((ws.length:Int)+1))=#[Value.slice (some ⟨blk,0,none⟩) l c,.int .i64 (((ws++[v%2]).length:Nat):Int),.bool hi]:=by simp
  rw[List.set_cons_zero,e] at hs
  exact hs
 refine⟨_,rfl,ws.length,hs.get 0 (j:=1) rfl rfl,by decide,?_⟩
 rw[tmod8]
 refine br_eq (fun h8=>?_) (fun h8=>fin H p l c B (by rw[if_neg (by omega)]) hs)
 refine⟨_,rfl,p,l,c,hs.get 0 rfl rfl,hs.alc fun b2 H2 hs=>?_⟩
 refine hs.appC 2 0 (el:=5) (k:=1) rfl rfl rfl (one1 rfl) (by decide) rfl (by omega) (by omega) fun p' c' H3 hs=>⟨_,rfl,?_⟩
 refine hs.put 1 rfl (by simp) rfl fun H4 hs=>?_
 exact fin H4 p' (l+1) c' (B++[0]) (by rw[if_pos (by omega)]) (by rw[kints_append];exact hs.tail)
theorem setset(σ:List Rs)(i:Nat)(r s:Rs):(σ.set i r).set i s=σ.set i s:=List.set_set _
theorem setget{σ:List Rs}{i:Nat}{r:Rs}(h:σ[i]?=some r)(s:Rs):(σ.set i s)[i]?=some s:=List.getElem?_set_self (List.getElem?_eq_some_iff.1 h).1
theorem wrR_len(hs:St H0 H σ){i b:Nat}{hi:Bool}{ws:List Int}(hi':σ[i]?=some (wrR b hi ws)):ws.length≤1000000000:=by
 obtain⟨_,_,_,_,_,h,_⟩:=wrR_op (hs.front i hi');exact h
theorem c46(hs:St H0 H σ){i b:Nat}{hi:Bool}{ws:List Int}(hi':σ[i]?=some (wrR b hi ws)){v n:Int}(hl:ws.length+n.toNat≤1000000000)
 (hbad: ¬(0≤n∧n≤24∧0≤v∧v<2^n.toNat)→R (.bool false) H)
 (hR:(0≤n∧n≤24∧0≤v∧v<2^n.toNat)→ ∀H',St H0 H' (σ.set i (wrR b hi (ws++bitsOf hi v n.toNat)))→R (.bool true) H'):CallsH Try.prog 46 #[.pointer (some ⟨b,0,none⟩),.int .i64 v,.int .i64 n] H R:=by
 refine Try.s46 ?_
 unfold Try.S46
 intro J hJ
 refine br_dec (fun h=>hbad (by omega)) (fun n0=>br_dec (fun h=>hbad (by omega)) (fun n1=>br_dec (fun h=>hbad (by omega)) (fun v0=>⟨by omega,?_⟩)))
 obtain⟨m,rfl⟩:=Int.eq_ofNat_of_zero_le (show 0≤n by omega)
 rw[Int.toNat_natCast] at*
 have hp:(2:Int)^m≤2^24:=pow_le (by omega)
 have e24:(2:Int)^24=16777216:=by decide
 rw[shl_of (by omega) (by omega) (by omega),Int.one_mul]
 refine br_dec (fun h=>hbad (by omega)) (fun v1=>hJ H ?_)
 have hR:=hR ⟨by omega,by omega,by omega,by omega⟩
 intro X hX
 have go: ∀k,k≤m→ ∀H',St H0 H' (σ.set i (wrR b hi (ws++(bitsOf hi v m).take k)))→X [.int .i64 k] H':=upto fun k hk ih H' hs=>by
  refine hX _ H' (br_dec (fun hlt=>?_) (fun hge=>?_))
  ·have hlt:k<m:=by omega
   intro J2 hJ2
   have hwl:=wrR_len hs (setget hi' _)
   rw[List.length_append,List.length_take,bitsOf_len] at hwl
   have nx: ∀j:Nat,j=(if hi then m-1-k else k)→J2 [.int .i64 j] H':=fun j hj=>by
    refine hJ2 _ H' ⟨by omega,?_⟩
    have hj62:j≤62:=by rw[hj];split<;>omega
    rw[shr_of _ hj62]
    refine c64 hs (setget hi' _) (by rw[List.length_append,List.length_take,bitsOf_len];omega) fun H2 hs=>⟨rfl,?_⟩
    rw[wrap_id (by omega) (by omega)]
    refine ih hlt H2 ?_
    rw[setset] at hs
    have:(bitsOf hi v m).take (k+1)=(bitsOf hi v m).take k++[v/2^j%2]:=by
     rw[List.take_add_one]
     congr 1
     simp[bitsOf,hlt,hj]
    rw[this,←List.append_assoc];exact hs
   obtain⟨p,l,c,B,_,_,_,hs2⟩:=wrR_op (hs.front i (setget hi' _))
   refine⟨_,rfl,hi,hs2.get 0 (j:=2) rfl rfl,br_i (fun hh=>?_) (fun hh=>?_)⟩
   ·rw[wrap_id (n:=(m:Int)-1) (by omega) (by omega),wrap_id (n:=(m:Int)-1-k) (by omega) (by omega)]
    have:=nx (m-1-k) (by rw[if_pos hh])
    rw[show((m-1-k:Nat):Int)=(m:Int)-1-k from by omega] at this
    exact this
   ·exact nx k (by rw[if_neg (by rw[hh];decide)])
  ·have:k=m:=by omega
   subst this
   refine hR H' ?_
   rw[List.take_of_length_le (by rw[bitsOf_len];omega)] at hs
   exact hs
 refine go 0 (by omega) H ?_
 rw[List.take_zero,List.append_nil]
 obtain⟨h1,h2⟩:=List.getElem?_eq_some_iff.1 hi'
 rw[←h2,List.set_getElem_self];exact hs
end Go.Proofs
namespace Go.Proofs
open Go.Sh
variable {H0 H:Heap} {σ:List Rs} {R:Value→Heap→Prop}
theorem clone_of{ty:TypeId}{bytes:Nat}{zero:Array Value}{p:Option Addr}{l:Nat}{k:IntKind}{xs:List Int}(h:IS H p l (kints k xs))(hl:l*bytes≤70368744177664)(hm:l≤1000000000000)(hz:zero.size=1)
 (hR: ∀q m H',St H H' [.sl q l m ty 1 (kints k xs)]→R (.slice q l m) H'):
 br (Option.isNone p) (R (.slice none 0 0) H) (alc H (.cells #[] ty) fun b H1=>appQ 1 bytes zero H1 (some ⟨b,0,none⟩) 0 0 p l ty fun ap al ac H2=>R (.slice ap al ac) H2):=by
 have hs:=St.nil H
 refine br_none (fun hp=>?_) (fun a hp=>?_)
 ·subst hp
  have hx:xs=[]:=List.eq_nil_iff_forall_not_mem.2 fun v hv=>by
   obtain⟨i,hi⟩:=List.getElem?_of_mem hv
   obtain⟨a,h1,_⟩:=h.get i _ (kints_get hi)
   cases h1
  have hl0:l=0:=by have:=h.length;rw[hx] at this;exact this.symm
  subst hx hl0
  exact hR none 0 H (hs.nilSl ty 1)
 ·refine hs.alc fun b H1 hs=>?_
  have hs:St H H1 [.sl (some ⟨b,0,none⟩) 0 0 ty 1 []]:=hs.toSl 0 rfl rfl rfl (by simp)
  refine hs.appI 0 rfl (h.ext hs.ext) (kints_one k xs) hz (by rw[Nat.zero_add];exact hl) (by omega) fun p' c' H2 hs=>?_
  rw[Nat.zero_add] at hs ⊢
  exact hR p' c' H2 hs
theorem c18{p:Option Addr}{l c:Nat}{xs:List Int}(h:IS H p l (kints .u8 xs))(hl:l≤1000000000000)
 (hR: ∀q m H',St H H' [.sl q l m 5 1 (kints .u8 xs)]→R (.slice q l m) H'):CallsH Try.prog 18 #[.slice p l c] H R:=
 Try.s18 (clone_of h (by omega) (by omega) rfl hR)
def fillM(ws:List Int)(v:Int):List Int:=ws++List.replicate ((8-ws.length%8)%8) (v%2)
theorem c76(hs:St H0 H σ){i b:Nat}{hi:Bool}{ws:List Int}(hi':σ[i]?=some (wrR b hi ws))(hl:ws.length<999999990){v:Int}
 (hR: ∀H',St H0 H' (σ.set i (wrR b hi (fillM ws v)))→R (.tuple #[]) H'):CallsH Try.prog 76 #[.pointer (some ⟨b,0,none⟩),.int .i64 v] H R:=by
 refine Try.s76 ?_
 unfold Try.S76
 intro X hX
 have go: ∀k,k≤(8-ws.length%8)%8→ ∀H',St H0 H' (σ.set i (wrR b hi (ws++List.replicate k (v%2))))→X [] H':=upto fun k hk ih H' hs=>by
  obtain⟨p,l,c,B,_,_,_,hs2⟩:=wrR_op (hs.front i (setget hi' _))
  refine hX H' ⟨_,rfl,_,hs2.get 0 (j:=1) rfl rfl,by decide,?_⟩
  rw[tmod8,List.length_append,List.length_replicate]
  refine br_ne (fun hne=>?_) (fun he=>?_)
  ·refine c64 hs (setget hi' _) (by rw[List.length_append,List.length_replicate];omega) fun H2 hs=>⟨rfl,ih (by omega) H2 ?_⟩
   rw[setset] at hs
   rw[List.replicate_succ',←List.append_assoc];exact hs
  ·have:k=(8-ws.length%8)%8:=by omega
   subst this
   exact hR H' hs
 refine go 0 (by omega) H ?_
 rw[List.replicate_zero,List.append_nil]
 obtain⟨h1,h2⟩:=List.getElem?_eq_some_iff.1 hi'
 rw[←h2,List.set_getElem_self];exact hs
theorem c50(hs:St H0 H σ){i b:Nat}{hi:Bool}{ws:List Int}(hi':σ[i]?=some (wrR b hi ws))
 (hR: ∀q l m B H',WOk hi ws B→l=B.length→St H0 H' (.sl q l m 5 1 (kints .u8 B)::σ)→R (.slice q l m) H'):CallsH Try.prog 50 #[.pointer (some ⟨b,0,none⟩)] H R:=by
 obtain⟨p,l,c,B,ok,hw,hl,hs2⟩:=wrR_op (hs.front i hi')
 have:=ok.len
 refine Try.s50 ⟨_,rfl,_,_,_,hs2.get 0 rfl rfl,c18 (hs2.is 1 rfl) (by omega) fun q m H' hs'=>⟨_,_,_,rfl,hR q l m B H' ok hl (hs.call hs')⟩⟩
def rdR(b:Nat)(B:List Int)(at_:Nat)(hi:Bool):Rs:=
 .ex fun(x:Option Addr×Nat)=> .pu (at_≤8*B.length∧B.length≤1000000000∧ ∀x∈B,0≤x∧x<256) (.star (.cell b #[.slice x.1 B.length x.2,.int .i64 at_,.bool hi] 120) (.sl x.1 B.length x.2 5 1 (kints .u8 B)))
theorem rdR_mk{b at_ c:Nat}{B:List Int}{hi:Bool}{p:Option Addr}(h1:at_≤8*B.length)(h2:B.length≤1000000000)(h3: ∀x∈B,0≤x∧x<256)
 (hs:St H0 H (.cell b #[.slice p B.length c,.int .i64 at_,.bool hi] 120:: .sl p B.length c 5 1 (kints .u8 B)::σ)):St H0 H (rdR b B at_ hi::σ):=
 St.inex (f:=fun(x:Option Addr×Nat)=> .pu (at_≤8*B.length∧B.length≤1000000000∧ ∀x∈B,0≤x∧x<256) (.star (.cell b #[.slice x.1 B.length x.2,.int .i64 at_,.bool hi] 120) (.sl x.1 B.length x.2 5 1 (kints .u8 B)))) (p,c) (St.with ⟨h1,h2,h3⟩ hs.cat)
theorem rdR_op{b at_:Nat}{B:List Int}{hi:Bool}(hs:St H0 H (rdR b B at_ hi::σ)): ∃p c,at_≤8*B.length∧B.length≤1000000000∧(∀x∈B,0≤x∧x<256)∧
 St H0 H (.cell b #[.slice p B.length c,.int .i64 at_,.bool hi] 120:: .sl p B.length c 5 1 (kints .u8 B)::σ):=by
 obtain⟨⟨p,c⟩,hs⟩:=hs.unex
 obtain⟨⟨h1,h2,h3⟩,hs⟩:=hs.fact
 exact⟨p,c,h1,h2,h3,hs.cut⟩
theorem c54{p:Option Addr}{l c:Nat}{B:List Int}{hi:Bool}(h:IS H p l (kints .u8 B))(hl:l≤1000000000)(hB: ∀x∈B,0≤x∧x<256)
 (hR: ∀b H',St H H' [rdR b B 0 hi]→R (.pointer (some ⟨b,0,none⟩)) H'):CallsH Try.prog 54 #[.slice p l c,.bool hi] H R:=by
 have hBl:=h.length
 subst hBl
 exact Try.s54 (c18 h (by omega) fun q m H' hs=>⟨_,_,_,rfl,hs.alc fun b H2 hs=>hR b H2 (rdR_mk (Nat.zero_le _) hl hB hs)⟩)
theorem c92(hs:St H0 H σ){i b at_:Nat}{B:List Int}{hi:Bool}(hi':σ[i]?=some (rdR b B at_ hi))(hR:R (.int .i64 ((8*B.length-at_:Nat):Int)) H):
 CallsH Try.prog 92 #[.pointer (some ⟨b,0,none⟩)] H R:=by
 obtain⟨p,c,h1,h2,h3,hs2⟩:=rdR_op (hs.front i hi')
 refine Try.s92 ⟨_,rfl,_,_,_,hs2.get 0 rfl rfl,_,rfl,_,hs2.get 0 (j:=1) rfl rfl,?_⟩
 rw[wrap_id (n:=(8:Int)*(B.length:Int)) (by omega) (by omega),wrap_id (by omega) (by omega),show(8:Int)*(B.length:Int)-at_=((8*B.length-at_:Nat):Int) from by omega]
 exact hR
theorem c61(hs:St H0 H σ){i b at_:Nat}{B:List Int}{hi:Bool}(hi':σ[i]?=some (rdR b B at_ hi))(hR:R (.int .i64 at_) H):
 CallsH Try.prog 61 #[.pointer (some ⟨b,0,none⟩)] H R:=by
 obtain⟨p,c,h1,h2,h3,hs2⟩:=rdR_op (hs.front i hi')
 exact Try.s61 ⟨_,rfl,_,hs2.get 0 (j:=1) rfl rfl,hR⟩
theorem c78(hs:St H0 H σ){i b at_:Nat}{B:List Int}{hi:Bool}(hi':σ[i]?=some (rdR b B at_ hi))
 (hR: ∀H',St H0 H' (σ.set i (rdR b B ((at_+7)/8*8) hi))→R (.tuple #[]) H'):CallsH Try.prog 78 #[.pointer (some ⟨b,0,none⟩)] H R:=by
 obtain⟨p,c,h1,h2,h3,hs2⟩:=rdR_op (hs.front i hi')
 refine Try.s78 ⟨_,rfl,_,hs2.get 0 (j:=1) rfl rfl,by decide,_,rfl,?_⟩
 rw[wrap_id (n:=(at_:Int)+7) (by omega) (by omega),show(at_:Int)+7=((at_+7:Nat):Int) from rfl,wdiv8 _ (by omega),wrap_id (by omega) (by omega)]
 refine hs2.put 0 rfl (by simp) rfl fun H2 hs=>hR H2 (St.back hi' (rdR_mk (p:=p) (c:=c) (by omega) h2 h3 ?_))
 have e:(((at_+7)/8:Nat):Int)*8=(((at_+7)/8*8:Nat):Int):=by omega
 rw[e] at hs
 exact hs
theorem numB_snoc{hi:Bool}{B:List Int}{a k:Nat}(hk:k<24):(if hi then orI .i64 (shlI .i64 (numB hi B a k) (1:Int)) (bitB hi B (a+k)) else orI .i64 (numB hi B a k) (shlI .i64 (bitB hi B (a+k)) (k:Int)))=numB hi B a (k+1):=by
 have h:=numB_rng hi B a k
 have hp:(2:Int)^k≤2^24:=pow_le (by omega)
 have e24:(2:Int)^24=16777216:=by decide
 rw[numB]
 have hb:0≤bitB hi B (a+k)∧bitB hi B (a+k)<2:=by rcases bitB_rng hi B (a+k) with h|h<;>omega
 split
 ·have h1:shlI .i64 (numB hi B a k) (1:Int)=numB hi B a k*2^1:=shl_of (k:=1) h.1 (by omega) (by omega)
  rw[h1,or_sum' (k:=1) hb.1 (by omega) h.1 (by omega)]
  omega
 ·have h2:bitB hi B (a+k)*2^k≤1*2^k:=Int.mul_le_mul_of_nonneg_right (by omega) (by have:=two_pow_pos k;omega)
  rw[shl_of hb.1 (by omega) (by omega),or_sum h.1 h.2 hb.1 (by omega)]
theorem c77(hs:St H0 H σ){i b at_:Nat}{B:List Int}{hi:Bool}(hi':σ[i]?=some (rdR b B at_ hi)){n:Int}
 (hbad: ¬(0≤n∧n≤24∧at_+n≤8*B.length)→R (.tuple #[.int .i64 0,.bool false]) H)
 (hR:(0≤n∧n≤24∧at_+n≤8*B.length)→ ∀H',St H0 H' (σ.set i (rdR b B (at_+n.toNat) hi))→R (.tuple #[.int .i64 (numB hi B at_ n.toNat),.bool true]) H'):
 CallsH Try.prog 77 #[.pointer (some ⟨b,0,none⟩),.int .i64 n] H R:=by
 obtain⟨_,_,h1,h2,h3,_⟩:=rdR_op (hs.front i hi')
 refine Try.s77 ?_
 unfold Try.S77
 intro J hJ
 refine br_dec (fun h=>hbad (by omega)) (fun n0=>br_dec (fun h=>hbad (by omega)) (fun n1=>c92 hs hi' ⟨_,rfl,br_dec (fun h=>hbad (by omega)) (fun n2=>hJ H ?_)⟩))
 obtain⟨m,rfl⟩:=Int.eq_ofNat_of_zero_le (show 0≤n by omega)
 have hR:=hR ⟨by omega,by omega,by omega⟩
 rw[Int.toNat_natCast] at hR
 intro X hX
 have go: ∀k,k≤m→ ∀H',St H0 H' (σ.set i (rdR b B (at_+k) hi))→X [.int .i64 (numB hi B at_ k),.int .i64 k] H':=upto fun k hk ih H' hs=>by
  refine hX _ _ H' (br_dec (fun hlt=>?_) (fun hge=>?_))
  ·have hlt:k<m:=by omega
   obtain⟨p,c,g1,g2,g3,hs2⟩:=rdR_op (hs.front i (setget hi' _))
   refine⟨_,rfl,_,_,_,hs2.get 0 rfl rfl,_,rfl,_,hs2.get 0 (j:=1) rfl rfl,by decide,?_⟩
   rw[wdiv8 _ (by omega)]
   have hg:=(hs2.is 1 rfl).rd (i:=(((at_+k)/8:Nat):Int)) (by omega) (by omega) (by rw[Int.toNat_natCast];exact get_gD _ 0 (by omega)) (K:=fun y=>y=B.getD ((at_+k)/8) 0) rfl
   obtain⟨a,ha,q0,q1,y,q2,rfl⟩:=hg
   have hyr:=getD_rng g3 ((at_+k)/8)
   refine⟨a,ha,q0,q1,_,q2,_,rfl,_,hs2.get 0 (j:=1) rfl rfl,_,rfl,_,hs2.get 0 (j:=2) rfl rfl,c83 ⟨_,rfl,.inl (Ext.refl _),by omega,?_⟩⟩
   have hbit:andI .i64 (IntKind.wrap .i64 (shrI .u8 (B.getD ((at_+k)/8) 0) ((bpos hi (at_+k):Nat):Int))) (1:Int)=bitB hi B (at_+k):=by
    have:=bpos_lt hi (at_+k)
    have hd0:=Int.ediv_nonneg hyr.1 (Int.le_of_lt (two_pow_pos (bpos hi (at_+k))))
    have hd1:=Int.ediv_le_self (2^bpos hi (at_+k)) hyr.1
    rw[shr8_of _ (by omega),wrap_id (by omega) (by omega),andI_1]
    rfl
   rw[hbit]
   intro J2 hJ2
   have nx:J2 [.int .i64 (numB hi B at_ (k+1))] H':=by
    refine hJ2 _ H' ⟨_,rfl,_,hs2.get 0 (j:=1) rfl rfl,_,rfl,?_⟩
    rw[wrap_id (by omega) (by omega),wrap_id (by omega) (by omega)]
    refine hs2.put 0 rfl (by simp) rfl fun H2 hs3=>ih hlt H2 ?_
    have:=St.back (setget hi' _) (rdR_mk (p:=p) (c:=c) (at_:=at_+(k+1)) (hi:=hi) (by omega) g2 g3 hs3)
    rw[setset] at this;exact this
   have hn:=numB_snoc (hi:=hi) (B:=B) (a:=at_) (k:=k) (by omega)
   refine⟨_,rfl,_,hs2.get 0 (j:=2) rfl rfl,br_i (fun hh=>⟨by decide,?_⟩) (fun hh=>⟨by omega,?_⟩)⟩
   ·rw[if_pos hh] at hn;rw[hn];exact nx
   ·rw[if_neg (by rw[hh];decide)] at hn;rw[hn];exact nx
  ·have:k=m:=by omega
   subst this
   exact hR H' hs
 refine go 0 (by omega) H ?_
 obtain⟨h1,h2⟩:=List.getElem?_eq_some_iff.1 hi'
 rw[Nat.add_zero,←h2,List.set_getElem_self];exact hs
end Go.Proofs
namespace Go.Proofs
open Go.Sh
variable {H0 H:Heap} {σ:List Rs} {R:Value→Heap→Prop}
theorem c86{p:Option Addr}{l c:Nat}{xs:List Int}(h:IS H p l (kints .i64 xs))(hl:l≤1000000000)
 (hR: ∀q m H',St H H' [.sl q l m 3 1 (kints .i64 xs)]→R (.slice q l m) H'):CallsH Try.prog 86 #[.slice p l c] H R:=
 Try.s86 (clone_of h (by omega) (by omega) rfl hR)
structure PB(H:Heap)(p:Option Addr)(l:Nat)(ps:List (List Int)):Prop where
 len:ps.length=l
 get: ∀(i:Nat) x,ps[i]?=some x→ ∃a q n c,p=some a∧Go.Sh.cell H (a.add i)=some (.slice q n c)∧IS H q n (kints .u8 x)
theorem PB.ext{H H':Heap}{p:Option Addr}{l:Nat}{ps:List (List Int)}(h:PB H p l ps)(e:Ext H H'):PB H' p l ps:=⟨h.len,fun i x hx=>by
 obtain⟨a,q,n,c,h1,h2,h3⟩:=h.get i x hx
 exact⟨a,q,n,c,h1,e.cell h2,h3.ext e⟩⟩
def AllIS(H:Heap):List (Option Addr×Nat×Nat)→List (List Int)→Prop
 |[],[]=>True
 |v::vs,x::ps=>IS H v.1 v.2.1 (kints .u8 x)∧AllIS H vs ps
 |_,_=>False
theorem AllIS.get: ∀{vs:List (Option Addr×Nat×Nat)} {ps:List (List Int)},AllIS H vs ps→vs.length=ps.length∧ ∀(i:Nat) x,ps[i]?=some x→ ∃v,vs[i]?=some v∧IS H v.1 v.2.1 (kints .u8 x)
 |[],[],_=>⟨rfl,fun i x hx=>by simp at hx⟩
 |v::vs,x::ps,h=>by
  obtain⟨h1,h2⟩:=AllIS.get h.2
  refine⟨by simp[h1],fun i y hy=>?_⟩
  cases i with
  |zero=>simp at hy;subst hy;exact⟨v,rfl,h.1⟩
  |succ i=>exact h2 i y (by simpa using hy)
theorem pb_blk{b:Nat}{ty:TypeId}{vs:List (Option Addr×Nat×Nat)}{ps:List (List Int)}(hb:H[b]?=some (.cells (vs.map fun v=>Value.slice v.1 v.2.1 v.2.2).toArray ty))(hv:AllIS H vs ps):PB H (some ⟨b,0,none⟩) vs.length ps:=by
 obtain⟨hl,hg⟩:=hv.get
 refine⟨hl.symm,fun i x hx=>?_⟩
 obtain⟨v,h1,h2⟩:=hg i x hx
 refine⟨_,v.1,v.2.1,v.2.2,rfl,?_,h2⟩
 rw[add_none,Nat.zero_add]
 exact cell_get hb (by simp[h1])
theorem c35{n:Nat}(hn:n≤1000000000)(hR: ∀H' p' c',St H H' [.sl p' 0 c' 5 1 []]→R (.slice p' 0 c') H'):
 CallsH Try.prog 35 #[.slice none 0 0,.int .i64 n] H R:=by
 refine Try.s35 ?_
 unfold Try.S35
 intro J hJ
 refine br_n (by omega) (hJ H ?_)
 have w1:IntKind.wrap .i64 (((0:Nat):Int)-((0:Nat):Int))=0:=by decide
 have w2:IntKind.wrap .i64 ((n:Int)-0)=(n:Int):=by rw[wrap_id (by omega) (by omega)];omega
 rw[w1,w2]
 refine br_dec (fun hp=>⟨by omega,by omega,by omega,by omega,?_,by omega,fun h0=>by omega,fun _=>⟨#[],rfl,fun c' hc'=>⟨by omega,by omega,?_⟩⟩⟩) (fun h0=>hR H none 0 ((St.nil H).nilSl 5 1))
 ·simp;omega
 ·have hc0:c'≠0:=by simp at hc';omega
  simp only[hc0,if_false,Option.map_some,Nat.sub_zero,Int.toNat_natCast,Nat.zero_mul,add_none,Nat.zero_add]
  refine hR _ _ c' ((St.nil H).newSl (Ext.push _ _) ⟨rfl,Nat.zero_le _,by simp,.inr ⟨H.size,_,rfl,Nat.le_refl _,get_push_self _ _,?_,fun i v hv=>by simp at hv⟩⟩)
  rw[zeroCells_eq _ _ (by simp)]
  simp[reps_length] at hc' ⊢
  omega
theorem flatB_take{ps:List (List Int)}{k:Nat}{x:List Int}(h:ps[k]?=some x):(ps.take (k+1)).flatten=(ps.take k).flatten++x:=by
 rw[List.take_add_one,h,Option.toList_some,List.flatten_append];simp
theorem flat_le(ps:List (List Int))(k:Nat):(ps.take k).flatten.length≤ps.flatten.length:=by
 conv=>rhs;rw[←List.take_append_drop k ps,List.flatten_append,List.length_append]
 omega
theorem c23{p:Option Addr}{l c:Nat}{ps:List (List Int)}(h:PB H p l ps)(hl:l≤1000000000)(hn:ps.flatten.length≤1000000000)
 (hR: ∀q c' H',St H H' [.sl q ps.flatten.length c' 5 1 (kints .u8 ps.flatten)]→R (.slice q ps.flatten.length c') H'):CallsH Try.prog 23 #[.slice p l c] H R:=by
 have hpl:=h.len
 refine Try.s23 ?_
 unfold Try.S23
 intro X2 hX2
 have go: ∀k,k≤l→X2 [.int .i64 ((ps.take k).flatten.length:Nat),.int .i64 (k:Nat)] H:=upto fun k hk ih=>by
  have hf:=flat_le ps k
  refine hX2 _ _ H (br_dec (fun hlt=>?_) (fun hge=>?_))
  ·have hlt:k<l:=by omega
   obtain⟨x,hx⟩: ∃x,ps[k]?=some x:=⟨_,List.getElem?_eq_getElem (by omega)⟩
   obtain⟨a,q,n,c2,h1,h2,h3⟩:=h.get k x hx
   have h3l:=h3.length
   have hf2:=flat_le ps (k+1)
   have ih:=ih hlt
   rw[flatB_take hx,List.length_append,h3l] at ih hf2
   refine⟨a,h1,by omega,by omega,q,n,c2,by rw[Int.toNat_natCast,Nat.mul_one];exact h2,?_⟩
   rw[wrap_id (n:=_+(n:Int)) (by omega) (by omega),wrap_id (n:=(k:Int)+1) (by omega) (by omega)]
   exact br_n (by omega) ih
  ·have:k=l:=by omega
   subst this
   rw[List.take_of_length_le (by omega)]
   refine c35 hn fun H9 q0 c0 hs9=>⟨_,_,_,rfl,?_⟩
   intro X11 hX
   have add: ∀j,j≤k→ ∀q c' H1,St H H1 [.sl q (ps.take j).flatten.length c' 5 1 (kints .u8 (ps.take j).flatten)]→X11 [.slice q (ps.take j).flatten.length c',.int .i64 (j:Nat)] H1:=upto fun j hj ih q c' H1 hs1=>by
    have hf:=flat_le ps j
    refine hX _ _ _ _ H1 (br_dec (fun hlt=>?_) (fun hge=>?_))
    ·have hlt:j<k:=by omega
     obtain⟨x,hx⟩: ∃x,ps[j]?=some x:=⟨_,List.getElem?_eq_getElem (by omega)⟩
     obtain⟨a,q2,n,c2,h1,h2,h3⟩:=(h.ext hs1.ext).get j x hx
     have h3l:=h3.length
     have hf2:=flat_le ps (j+1)
     have ih:=ih hlt
     rw[flatB_take hx,List.length_append,h3l] at ih hf2
     refine⟨a,h1,by omega,by omega,q2,n,c2,by rw[Int.toNat_natCast,Nat.mul_one];exact h2,?_⟩
     refine hs1.appI 0 rfl h3 (kints_one _ _) rfl (by omega) (by omega) fun p' c3 H2 hs2=>?_
     rw[wrap_id (by omega) (by omega)]
     refine ih p' c3 H2 ?_
     rw[kints_append]
     exact hs2
    ·have:j=k:=by omega
     subst this
     rw[List.take_of_length_le (by omega)] at hs1 ⊢
     exact hR q c' H1 hs1
   exact add 0 (by omega) q0 c0 H9 hs9
 exact go 0 (by omega)
theorem c15{p q:Option Addr}{l c l2 c2:Nat}{xs ys:List Int}(h1:IS H p l (kints .u8 xs))(h2:IS H q l2 (kints .u8 ys))(hl:l+l2≤1000000000)
 (hR: ∀r c' H',St H H' [.sl r (xs++ys).length c' 5 1 (kints .u8 (xs++ys))]→R (.slice r (xs++ys).length c') H'):CallsH Try.prog 15 #[.slice p l c,.slice q l2 c2] H R:=by
 have e1:=h1.length
 have e2:=h2.length
 refine Try.s15 ((St.nil H).alc fun b H1 hs1=>?_)
 have hs1:St H H1 [.sl (some ⟨b,0,none⟩) 0 0 5 1 []]:=hs1.toSl 0 rfl rfl rfl (by simp)
 refine hs1.appI 0 rfl (h1.ext hs1.ext) (kints_one _ _) rfl (by omega) (by omega) fun p1 c1 H2 hs2=>?_
 refine hs2.appI 0 rfl (h2.ext hs2.ext) (kints_one _ _) rfl (by omega) (by omega) fun p2 c3 H3 hs3=>?_
 have:=hR p2 c3 H3 (by
  rw[List.length_append,e1,e2]
  rw[kints_append]
  rw[Nat.zero_add] at hs3
  exact hs3)
 rw[List.length_append,e1,e2] at this
 rw[Nat.zero_add]
 exact this
end Go.Proofs
namespace Go.Proofs
open Go.Sh
theorem shl64{x k:Int}(h0:0≤x)(h1:x≤1099511627776)(k0:0≤k)(k1:k≤16):shlI .i64 x k=x*2^k.toNat:=by
 unfold shlI
 have hb:min k.toNat (IntKind.bits .i64)=k.toNat:=by
  have:IntKind.bits .i64=64:=rfl
  rw[this];omega
 rw[hb]
 have hp:(2:Int)^k.toNat≤65536:=by
  have h2:2^k.toNat≤2^16:=Nat.pow_le_pow_right (by omega) (by omega)
  have h3:((2^k.toNat:Nat):Int)=(2:Int)^k.toNat:=by simp
  have h4:(2:Nat)^16=65536:=rfl
  omega
 have hq:(0:Int)≤2^k.toNat:=Int.pow_nonneg (by omega)
 have hm:x*2^k.toNat≤1099511627776*65536:=Int.mul_le_mul h1 hp hq (by omega)
 have hm0:0≤x*2^k.toNat:=Int.mul_nonneg h0 hq
 exact wrap_id (by omega) (by omega)
theorem shr64{x k:Int}(k0:0≤k)(k1:k≤16):shrI .i64 x k=x/2^k.toNat:=by
 unfold shrI
 have hb:min k.toNat (IntKind.bits .i64)=k.toNat:=by
  have:IntKind.bits .i64=64:=rfl
  rw[this];omega
 rw[hb]
 exact Int.fdiv_eq_ediv_of_nonneg _ (Int.pow_nonneg (by omega))
def wt(n:Int):Int:=if n>0 then 2^(16-n).toNat else 0
def wtM(ls:List Int):Int:=(ls.map wt).sum
structure OkW(ls:List Int):Prop where
 len:ls.length≤300
 rng: ∀n∈ls,0≤n∧n≤16
theorem wt_rng{n:Int}(h:0≤n∧n≤16):0≤wt n∧wt n≤32768:=by
 unfold wt
 have:n=0∨n=1∨n=2∨n=3∨n=4∨n=5∨n=6∨n=7∨n=8∨n=9∨n=10∨n=11∨n=12∨n=13∨n=14∨n=15∨n=16:=by omega
 rcases this with h|h|h|h|h|h|h|h|h|h|h|h|h|h|h|h|h<;>subst h<;>decide
theorem wt_shl{n:Int}(h:0<n∧n≤16):shlI .i64 (1:Int) (16-n)=wt n:=by
 rw[shl64 (by omega) (by omega) (by omega) (by omega)]
 unfold wt
 rw[if_pos h.1]
 omega
theorem sum_append(a b:List Int):(a++b).sum=a.sum+b.sum:=by
 induction a with
 |nil=>simp
 |cons x r ih=>simp[ih];omega
theorem wtM_snoc(a:List Int)(n:Int):wtM (a++[n])=wtM a+wt n:=by unfold wtM;rw[List.map_append,sum_append];simp
theorem wtM_rng{ls:List Int}(h: ∀n∈ls,0≤n∧n≤16):0≤wtM ls∧wtM ls≤32768*ls.length:=by
 induction ls with
 |nil=>simp[wtM]
 |cons n r ih=>
  have h1:=wt_rng (h n List.mem_cons_self)
  have h2:=ih fun x hx=>h x (List.mem_cons_of_mem _ hx)
  unfold wtM at*
  simp only[List.map_cons,List.sum_cons,List.length_cons]
  omega
theorem c85{H:Heap}{p:Option Addr}{l c:Nat}{ls:List Int}(h:IS H p l (ints ls)){R:Value→Heap→Prop}(hbad: ¬OkW ls→R (.tuple #[.int .i64 0,.bool false]) H)(hgood:OkW ls→R (.tuple #[.int .i64 (wtM ls),.bool true]) H):
 CallsH Try.prog 85 #[.slice p l c] H R:=by
 have hl:ls.length=l:=by have:=h.len;rw[ints_len] at this;omega
 refine Try.s85 ?_
 unfold Try.S85
 refine br_dec (fun hb=>hbad fun ok=>by have:=ok.len;omega) (fun hb=>?_)
 intro X hX
 have loop: ∀(m s:Nat),l-s=m→s≤l→(∀n∈ls.take s,0≤n∧n≤16)→X [.int .i64 (wtM (ls.take s)),.int .i64 s] H:=by
  intro m
  induction m with
  |zero=>
   intro s hm hs rg
   rw[List.take_of_length_le (by omega)] at rg ⊢
   exact hX _ _ H (br_n (by omega) (hgood ⟨by omega,rg⟩))
  |succ m ih=>
   intro s hm hs rg
   have ws:IntKind.wrap .i64 ((s:Int)+1)=((s+1:Nat):Int):=by rw[wrap_id (by omega) (by omega)];omega
   have hsl:s<ls.length:=by omega
   have hv:ls[s]?=some ls[s]:=List.getElem?_eq_getElem hsl
   have htake:ls.take (s+1)=ls.take s++[ls[s]]:=List.take_succ_eq_append_getElem hsl
   have hmem:ls[s]∈ls:=List.getElem_mem hsl
   have hnx:=ih (s+1) (by omega) (by omega)
   rw[htake] at hnx
   generalize ls[s]=n at hv htake hmem hnx
   obtain⟨blk,hp,cv⟩:=h.cell (ints_get hv)
   have hw:=wtM_rng rg
   have htl:(ls.take s).length≤300:=by simp;omega
   refine hX _ _ H (br_y (by omega) ⟨_,hp,by omega,by omega,n,by simpa using cv,?_⟩)
   rw[ws]
   intro J hJ
   refine br_dec (fun hn=>hbad fun ok=>by have:=ok.rng n hmem;omega) (fun n0=>br_dec (fun hn=>hbad fun ok=>by have:=ok.rng n hmem;omega) (fun n16=>hJ H ?_))
   have rg': ∀x∈ls.take s++[n],0≤x∧x≤16:=fun x hx=>by
    rcases List.mem_append.1 hx with hx|hx
    ·exact rg x hx
    ·rw[List.mem_singleton] at hx;subst hx;omega
   have hwn:=wt_rng (n:=n) (by omega)
   have hnx:=hnx rg'
   rw[wtM_snoc] at hnx
   refine br_dec (fun hpos=>?_) (fun hz=>?_)
   ·have w1:IntKind.wrap .i64 ((16:Int)-n)=16-n:=wrap_id (by omega) (by omega)
    rw[w1,wt_shl (by omega),wrap_id (n:=wtM (ls.take s)+wt n) (by omega) (by omega)]
    exact⟨by omega,hnx⟩
   ·have:wt n=0:=by unfold wt;rw[if_neg hz]
    rw[this,Int.add_zero] at hnx
    exact hnx
 have:=loop l 0 (by omega) (by omega) (fun n hn=>by simp at hn)
 simpa[wtM] using this
def rank(ls:List Int)(s n:Nat):Nat:=(ls.take s).countP (fun x=>x==(n:Int))
def cnt(ls:List Int)(n:Nat):Nat:=if n=0 then 0 else rank ls ls.length n
def base(ls:List Int):Nat→Int
 |0=>0
 |n+1=>2*(base ls n+cnt ls n)
def codeM(ls:List Int)(s:Nat):Int:=match ls[s]? with
 |some n=>if n>0 then base ls n.toNat+rank ls s n.toNat else 0
 |none=>0
def codesM(ls:List Int):List Int:=(List.range ls.length).map (codeM ls)
structure OkC(ls:List Int):Prop where
 w:OkW ls
 le:wtM ls≤65536
theorem rank_le(ls:List Int)(s n:Nat):rank ls s n≤ls.length:=Nat.le_trans List.countP_le_length (by simp;omega)
theorem cnt_le(ls:List Int)(n:Nat):cnt ls n≤ls.length:=by unfold cnt;split;omega;exact rank_le _ _ _
theorem base_rng(ls:List Int): ∀n,0≤base ls n∧base ls n≤ls.length*(2^(n+1)-2)
 |0=>by simp[base]
 |n+1=>by
  have ih:=base_rng ls n
  have hc:=cnt_le ls n
  have e:(2:Int)^(n+1+1)=2^(n+1)*2:=Int.pow_succ ..
  rw[e]
  show 0≤2*(base ls n+cnt ls n)∧2*(base ls n+cnt ls n)≤_
  generalize (2:Int)^(n+1)=z at*
  have e2:(ls.length:Int)*(z*2-2)=2*(ls.length*(z-2))+2*ls.length:=by
   rw[Int.mul_sub,Int.mul_sub,←Int.mul_assoc];omega
  rw[e2]
  omega
theorem base_small{ls:List Int}(hl:ls.length≤300){n:Nat}(hn:n≤16):0≤base ls n∧base ls n≤40000000:=by
 have h:=base_rng ls n
 have h2:2^(n+1)≤2^17:=Nat.pow_le_pow_right (by omega) (by omega)
 have h3:((2^(n+1):Nat):Int)=(2:Int)^(n+1):=by simp
 have h4:(2:Nat)^17=131072:=rfl
 have h5:(ls.length:Int)*(2^(n+1)-2)≤300*(2^(n+1)-2):=Int.mul_le_mul_of_nonneg_right (by omega) (by have:=Nat.one_le_two_pow (n:=n);have:(2:Nat)^(n+1)=2^n*2:=Nat.pow_succ ..;omega)
 omega
theorem rank_snoc{ls:List Int}{s:Nat}{v:Int}(h:ls[s]?=some v)(n:Nat):rank ls (s+1) n=rank ls s n+if v=(n:Int) then 1 else 0:=by
 obtain⟨hl,hv⟩:=List.getElem?_eq_some_iff.1 h
 unfold rank
 rw[List.take_succ_eq_append_getElem hl,List.countP_append,hv]
 by_cases hvn:v=(n:Int)<;>simp[hvn]
def partM(ls:List Int)(n s i:Nat):Int:=match ls[i]? with
 |some v=>if v>0∧(v<n∨(v=n∧i<s)) then codeM ls i else 0
 |none=>0
def partsM(ls:List Int)(n s:Nat):List Int:=(List.range ls.length).map (partM ls n s)
theorem partsM_set{ls:List Int}{n s:Nat}{v:Int}(h:ls[s]?=some v)(hv:v=(n:Int))(hn:0<n):(partsM ls n s).set s (codeM ls s)=partsM ls n (s+1):=by
 apply List.ext_getElem?
 intro i
 have hsl:=(List.getElem?_eq_some_iff.1 h).1
 have hpl:(partsM ls n s).length=ls.length:=by simp[partsM]
 rw[List.getElem?_set]
 by_cases hi:i<ls.length
 ·have e1:(partsM ls n (s+1))[i]?=some (partM ls n (s+1) i):=by simp[partsM,hi]
  have e0:(partsM ls n s)[i]?=some (partM ls n s i):=by simp[partsM,hi]
  rw[e1,e0]
  by_cases hsi:s=i
  ·subst hsi
   rw[if_pos rfl,if_pos (by omega)]
   unfold partM
   rw[h]
   simp only
   rw[if_pos ⟨by omega,by omega⟩]
  ·rw[if_neg hsi]
   unfold partM
   have hg:ls[i]?=some ls[i]:=List.getElem?_eq_getElem hi
   rw[hg]
   simp only
   by_cases hc:ls[i]>0∧(ls[i]<n∨(ls[i]=n∧i<s))
   ·rw[if_pos hc,if_pos ⟨hc.1,by omega⟩]
   ·rw[if_neg hc,if_neg fun hh=>hc ⟨hh.1,by omega⟩]
 ·rw[List.getElem?_eq_none_iff.2 (by simp[partsM];omega),List.getElem?_eq_none_iff.2 (by simp[partsM];omega),if_neg (by omega)]
theorem partsM_skip{ls:List Int}{n s:Nat}{v:Int}(h:ls[s]?=some v)(hv:v≠(n:Int)):partsM ls n s=partsM ls n (s+1):=by
 apply List.map_congr_left
 intro i hi
 unfold partM
 have hil:i<ls.length:=List.mem_range.1 hi
 have hg:ls[i]?=some ls[i]:=List.getElem?_eq_getElem hil
 rw[hg]
 simp only
 by_cases hsi:i=s
 ·subst hsi
  rw[hg] at h;cases h
  by_cases hc:ls[i]>0∧(ls[i]<n∨(ls[i]=n∧i<i))
  ·rw[if_pos hc,if_pos ⟨hc.1,by omega⟩]
  ·rw[if_neg hc,if_neg fun hh=>hc ⟨hh.1,by omega⟩]
 ·by_cases hc:ls[i]>0∧(ls[i]<n∨(ls[i]=n∧i<s))
  ·rw[if_pos hc,if_pos ⟨hc.1,by omega⟩]
  ·rw[if_neg hc,if_neg fun hh=>hc ⟨hh.1,by omega⟩]
theorem partsM_next(ls:List Int)(n:Nat):partsM ls n ls.length=partsM ls (n+1) 0:=by
 apply List.map_congr_left
 intro i hi
 unfold partM
 have hil:i<ls.length:=List.mem_range.1 hi
 have hg:ls[i]?=some ls[i]:=List.getElem?_eq_getElem hil
 rw[hg]
 simp only
 by_cases hc:ls[i]>0∧(ls[i]<n∨(ls[i]=n∧i<ls.length))
 ·rw[if_pos hc,if_pos ⟨hc.1,by omega⟩]
 ·rw[if_neg hc,if_neg fun hh=>hc ⟨hh.1,by omega⟩]
theorem partsM_first(ls:List Int):partsM ls 1 0=List.replicate ls.length 0:=by
 apply List.ext_getElem?
 intro i
 by_cases hi:i<ls.length
 ·simp only[partsM,List.getElem?_map,List.getElem?_range hi,Option.map_some,List.getElem?_replicate,if_pos hi]
  unfold partM
  have hg:ls[i]?=some ls[i]:=List.getElem?_eq_getElem hi
  rw[hg]
  simp only
  rw[if_neg (by omega)]
 ·rw[List.getElem?_eq_none_iff.2 (by simp[partsM];omega),List.getElem?_eq_none_iff.2 (by simp;omega)]
theorem partsM_last{ls:List Int}(h: ∀n∈ls,0≤n∧n≤16):partsM ls 17 0=codesM ls:=by
 apply List.map_congr_left
 intro i hi
 have hil:i<ls.length:=List.mem_range.1 hi
 have hg:ls[i]?=some ls[i]:=List.getElem?_eq_getElem hil
 have hr:=h _ (List.getElem_mem hil)
 unfold partM
 rw[hg]
 simp only
 by_cases hp:ls[i]>0
 ·rw[if_pos ⟨hp,by omega⟩]
 ·rw[if_neg (fun hh=>hp hh.1)]
  unfold codeM
  rw[hg]
  simp only
  rw[if_neg hp]
set_option maxHeartbeats 1000000 in
theorem c69{H:Heap}{p:Option Addr}{l c:Nat}{ls:List Int}(h:IS H p l (ints ls)){R:Value→Heap→Prop}(hbad: ¬OkC ls→R (.tuple #[.slice none 0 0,.bool false]) H)
 (hgood:OkC ls→ ∀H' b,FS H.size H' (some ⟨b,0,none⟩) l l 3 1 (ints (codesM ls))→Ext H H'→R (.tuple #[.slice (some ⟨b,0,none⟩) l l,.bool true]) H'):CallsH Try.prog 69 #[.slice p l c] H R:=by
 have hl:ls.length=l:=by have:=h.len;rw[ints_len] at this;omega
 refine Try.s69 ?_
 unfold Try.S69 alc
 refine c85 h (fun hn=>⟨_,_,rfl,fun J hJ=>br_t rfl (hbad fun ok=>hn ok.w)⟩) (fun okw=>⟨_,_,rfl,?_⟩)
 intro J hJ
 refine br_f rfl (br_dec (fun hgt=>hbad fun ok=>by have:=ok.le;omega) (fun hle=>hJ H ?_))
 have ok:OkC ls:=⟨okw,by omega⟩
 have l300:=okw.len
 rw[Int.toNat_natCast]
 refine⟨by omega,by omega,by omega,by omega,?_⟩
 have hb2:=get_push_self H (.cells (List.toArray (reps l [Value.int .i64 0])) 3)
 have e2:Ext H (H.push (.cells (List.toArray (reps l [Value.int .i64 0])) 3)):=Ext.push _ _
 have out2:FS H.size (H.push (.cells (List.toArray (reps l [Value.int .i64 0])) 3)) (some ⟨H.size,0,none⟩) l l 3 1 (ints (partsM ls 1 0)):=by
  rw[partsM_first,hl];exact zeros_FS (Nat.le_refl _) hb2
 generalize H.push (.cells (List.toArray (reps l [Value.int .i64 0])) 3)=H2 at e2 out2
 intro X hX
 have one:(0:Int)≤1:=by omega
 have levels: ∀(m n:Nat) (H3:Heap),17-n=m→1≤n→n≤17→Ext H H3→FS H.size H3 (some ⟨H.size,0,none⟩) l l 3 1 (ints (partsM ls n 0))→X [.int .i64 (base ls (n-1)+cnt ls (n-1)),.int .i64 n] H3:=by
  intro m
  induction m with
  |zero=>
   intro n H3 hm hn1 hn e3 f3
   have:n=17:=by omega
   subst this
   rw[partsM_last okw.rng] at f3
   exact hX _ _ H3 (br_n (by omega) (hgood ok H3 H.size f3 e3))
  |succ m ih=>
   intro n H3 hm hn1 hn e3 f3
   have wn:IntKind.wrap .i64 ((n:Int)+1)=((n+1:Nat):Int):=by rw[wrap_id (by omega) (by omega)];omega
   have hbs:=base_small l300 (n:=n-1) (by omega)
   have hcs:=cnt_le ls (n-1)
   have hbn:shlI .i64 (base ls (n-1)+cnt ls (n-1)) (1:Int)=base ls n:=by
    rw[shl64 (by omega) (by omega) (by omega) (by omega)]
    have:n=n-1+1:=by omega
    rw[this]
    show _=2*(base ls (n-1)+cnt ls (n-1))
    simp;omega
   refine hX _ _ H3 (br_y (by omega) ⟨one,?_⟩)
   rw[hbn,wn]
   intro Y hY
   have inner: ∀(m2 s:Nat) (H4:Heap),l-s=m2→s≤l→Ext H H4→FS H.size H4 (some ⟨H.size,0,none⟩) l l 3 1 (ints (partsM ls n s))→Y [.int .i64 (base ls n+rank ls s n),.int .i64 s] H4:=by
    intro m2
    induction m2 with
    |zero=>
     intro s H4 hm2 hs e4 f4
     have:s=ls.length:=by omega
     subst this
     refine hY _ _ H4 (br_n (by omega) ?_)
     rw[partsM_next] at f4
     have:=ih (n+1) H4 (by omega) (by omega) (by omega) e4 f4
     have hc:cnt ls (n+1-1)=rank ls ls.length n:=by rw[Nat.add_sub_cancel];unfold cnt;rw[if_neg (by omega)]
     rw[hc,Nat.add_sub_cancel] at this
     exact this
    |succ m2 ih2=>
     intro s H4 hm2 hs e4 f4
     have ws:IntKind.wrap .i64 ((s:Int)+1)=((s+1:Nat):Int):=by rw[wrap_id (by omega) (by omega)];omega
     have hsl:s<ls.length:=by omega
     have hv:ls[s]?=some ls[s]:=List.getElem?_eq_getElem hsl
     generalize ls[s]=v at hv
     obtain⟨blk,hp,cv⟩:=(h.ext e4).cell (ints_get hv)
     have hb:=base_small l300 (n:=n) (by omega)
     have hr:=rank_le ls s n
     have hrs:=rank_snoc hv n
     refine hY _ _ H4 (br_y (by omega) ⟨_,hp,by omega,by omega,v,by simpa using cv,br_eq (fun heq=>⟨_,rfl,by omega,by omega,?_⟩) (fun hne=>?_)⟩)
     ·rw[ws]
      simp only[add_none,Nat.zero_add,Nat.mul_one,Int.toNat_natCast]
      have hcode:base ls n+(rank ls s n:Int)=codeM ls s:=by
       unfold codeM
       rw[hv]
       simp only
       rw[if_pos (by omega),heq,Int.toNat_natCast]
      have hw:IntKind.wrap .i64 (base ls n+(rank ls s n:Int)+1)=base ls n+(rank ls (s+1) n:Int):=by
       rw[wrap_id (by omega) (by omega),hrs,if_pos heq];omega
      rw[hw]
      refine f4.set (by rw[ints_len];simp[partsM];omega) rfl fun H5 f5 hk5 hs5=>?_
      rw[ints_set,hcode,partsM_set hv heq (by omega)] at f5
      exact ih2 (s+1) H5 (by omega) (by omega) (fun b o hb=>hk5 b o (e4 b o hb) (by have:=lt_of_get hb;omega)) f5
     ·rw[ws]
      rw[partsM_skip hv hne] at f4
      have:=ih2 (s+1) H4 (by omega) (by omega) e4 f4
      rw[hrs,if_neg hne,Nat.add_zero] at this
      exact this
   have:=inner l 0 H3 (by omega) (by omega) e3 f3
   simpa[rank] using this
 have:=levels 16 1 H2 rfl (by omega) (by omega) e2 out2
 simpa[base,cnt] using this
end Go.Proofs
namespace Go.Proofs
open Go.Sh
def W(ls:List Int):Nat→Int
 |0=>0
 |n+1=>W ls n+(rank ls ls.length (n+1):Int)*2^(16-(n+1))
theorem rank_all_cons(n:Int)(r:List Int)(k:Nat):(rank (n::r) (n::r).length k:Int)=rank r r.length k+if n=(k:Int) then 1 else 0:=by
 unfold rank
 rw[List.take_length,List.take_length,List.countP_cons]
 by_cases h:n=(k:Int)<;>simp[h]
theorem W_cons(n:Int)(r:List Int)(h0:0≤n): ∀m:Nat,W (n::r) m=W r m+if 1≤n∧n≤(m:Int) then 2^(16-n.toNat) else 0
 |0=>by
  simp only[W]
  rw[if_neg (by omega)];rfl
 |m+1=>by
  simp only[W]
  rw[W_cons n r h0 m,rank_all_cons,Int.add_mul]
  by_cases hn:n=((m+1:Nat):Int)
  ·rw[if_neg (by omega),if_pos hn,if_pos (by omega)]
   have:n.toNat=m+1:=by omega
   rw[this];omega
  ·rw[if_neg hn]
   by_cases h:1≤n∧n≤(m:Int)
   ·rw[if_pos h,if_pos (by omega)];omega
   ·rw[if_neg h,if_neg (by omega)];omega
theorem W_all{ls:List Int}(h: ∀n∈ls,0≤n∧n≤16):W ls 16=wtM ls:=by
 induction ls with
 |nil=>simp[W,wtM,rank]
 |cons n r ih=>
  have hn:=h n List.mem_cons_self
  rw[W_cons n r hn.1,ih fun x hx=>h x (List.mem_cons_of_mem _ hx)]
  unfold wtM
  simp only[List.map_cons,List.sum_cons]
  unfold wt
  by_cases hp:n>0
  ·rw[if_pos (by omega),if_pos hp]
   have:(16-n).toNat=16-n.toNat:=by omega
   rw[this];omega
  ·rw[if_neg (by omega),if_neg hp];omega
theorem W_mono(ls:List Int){m n:Nat}(h:m≤n):W ls m≤W ls n:=by
 induction n with
 |zero=>
  have:m=0:=by omega
  subst this;exact Int.le_refl _
 |succ n ih=>
  by_cases hm:m=n+1
  ·subst hm;exact Int.le_refl _
  ·have:=ih (by omega)
   have h2:0≤(rank ls ls.length (n+1):Int)*2^(16-(n+1)):=Int.mul_nonneg (by omega) (Int.pow_nonneg (by omega))
   simp only[W]
   omega
theorem base_W(ls:List Int): ∀n:Nat,n≤16→(base ls n+cnt ls n)*2^(16-n)=W ls n
 |0,_=>by simp[base,cnt,W]
 |n+1,h=>by
  have ih:=base_W ls n (by omega)
  have hc:cnt ls (n+1)=rank ls ls.length (n+1):=by unfold cnt;rw[if_neg (by omega)]
  have e:16-n=16-(n+1)+1:=by omega
  rw[e,Int.pow_succ] at ih
  simp only[W,base]
  rw[hc,Int.add_mul,←ih]
  generalize (2:Int)^(16-(n+1))=z
  rw[Int.mul_comm z 2,←Int.mul_assoc,Int.mul_comm (base ls n+(cnt ls n:Int)) 2]
theorem pow_split{n:Nat}(h:n≤16):(65536:Int)=2^n*2^(16-n):=by
 rw[←Int.pow_add]
 have:n+(16-n)=16:=by omega
 rw[this];decide
theorem base_cnt_le{ls:List Int}(ok:OkC ls){n:Nat}(hn:n≤16):base ls n+cnt ls n≤2^n:=by
 have h1:=base_W ls n hn
 have h2:=W_mono ls hn
 rw[W_all ok.w.rng] at h2
 have h3:=ok.le
 have h4:=pow_split hn
 have hp:(0:Int)<2^(16-n):=Int.pow_pos (by omega)
 rw[←h1] at h2
 have:(base ls n+cnt ls n)*2^(16-n)≤2^n*2^(16-n):=by omega
 exact Int.le_of_mul_le_mul_right this hp
theorem rank_mono(ls:List Int)(n:Nat){i j:Nat}(h:i≤j):rank ls i n≤rank ls j n:=by
 unfold rank
 have:(ls.take i)=(ls.take j).take i:=by rw[List.take_take];congr 1;omega
 rw[this]
 exact List.Sublist.countP_le (List.take_sublist _ _)
theorem rank_lt{ls:List Int}{i j n:Nat}(hi:ls[i]?=some (n:Int))(h:i<j):rank ls i n<rank ls j n:=by
 have h1:=rank_snoc hi n
 rw[if_pos rfl] at h1
 have:=rank_mono ls n (show i+1≤j by omega)
 omega
theorem rank_lt_cnt{ls:List Int}{i n:Nat}(hi:ls[i]?=some (n:Int))(hn:0<n):rank ls i n<cnt ls n:=by
 unfold cnt
 rw[if_neg (by omega)]
 exact rank_lt hi (List.getElem?_eq_some_iff.1 hi).1
theorem codeM_pos{ls:List Int}{i n:Nat}(hi:ls[i]?=some (n:Int))(hn:0<n):codeM ls i=base ls n+rank ls i n:=by
 unfold codeM
 rw[hi]
 simp only
 rw[if_pos (by omega),Int.toNat_natCast]
theorem code_rng{ls:List Int}(ok:OkC ls){i n:Nat}(hi:ls[i]?=some (n:Int))(hn:0<n):0≤codeM ls i∧codeM ls i<2^n:=by
 have hr:=ok.w.rng _ (List.mem_of_getElem? hi)
 have h1:=base_cnt_le ok (n:=n) (by omega)
 have h2:=rank_lt_cnt hi hn
 have h3:=(base_rng ls n).1
 rw[codeM_pos hi hn]
 omega
theorem base_later{ls:List Int}{n:Nat}(hn:0<n): ∀d:Nat,0<d→(base ls n+cnt ls n)*2^d≤base ls (n+d)
 |0,h=>by omega
 |1,_=>by
  show _≤2*(base ls n+cnt ls n)
  simp;omega
 |d+2,_=>by
  have ih:=base_later (ls:=ls) hn (d+1) (by omega)
  have e:n+(d+2)=n+(d+1)+1:=by omega
  rw[e,Int.pow_succ,←Int.mul_assoc]
  show _≤2*(base ls (n+(d+1))+cnt ls (n+(d+1)))
  omega
theorem no_prefix{ls:List Int}(ok:OkC ls){i j n m:Nat}(hij:i≠j)(hi:ls[i]?=some (n:Int))(hj:ls[j]?=some (m:Int))(hn:0<n)(hnm:n≤m):codeM ls j/2^(m-n)≠codeM ls i:=by
 intro he
 have ci:=codeM_pos hi hn
 have cj:=codeM_pos hj (by omega)
 have ri:=rank_lt_cnt hi hn
 by_cases h:m=n
 ·subst h
  rw[Nat.sub_self,Int.pow_zero,Int.ediv_one,ci,cj] at he
  rcases Nat.lt_or_ge i j with h|h
  ·have:=rank_lt hi h;omega
  ·have:=rank_lt hj (show j<i by omega);omega
 ·have hb:=base_later (ls:=ls) hn (m-n) (by omega)
  have e:n+(m-n)=m:=by omega
  rw[e] at hb
  have hp:(0:Int)<2^(m-n):=Int.pow_pos (by omega)
  have h1:base ls n+cnt ls n≤codeM ls j/2^(m-n):=by
   refine(Int.le_ediv_iff_mul_le hp).2 ?_
   rw[cj];omega
  rw[he,ci] at h1
  omega
theorem codesM_get{ls:List Int}{i:Nat}(hi:i<ls.length):(codesM ls)[i]?=some (codeM ls i):=by simp[codesM,hi]
end Go.Proofs
namespace Go.Proofs
open Go.Sh
theorem andI_one(a:Int):andI .i64 a (1:Int)=a%2:=by
 unfold andI
 have hb:IntKind.bits .i64=64:=rfl
 rw[hb,BitVec.toNat_and,BitVec.toNat_ofInt,BitVec.toNat_ofInt]
 have h1:((1:Int)%((2^64:Nat):Int)).toNat=1:=by decide
 rw[h1,Nat.and_one_is_mod]
 have h2:(((a%((2^64:Nat):Int)).toNat%2:Nat):Int)=a%2:=by
  have e:((2^64:Nat):Int)=18446744073709551616:=by decide
  rw[e];omega
 rw[h2]
 exact wrap_id (by omega) (by omega)
structure Trie(ls:List Int)(Ins Beg:Nat→Prop)(P:List (Nat×Int))(F:List Int):Prop where
 len:F.length=P.length*2
 root:P[0]?=some (0,0)
 inj: ∀(i j:Nat) (x:Nat×Int),P[i]?=some x→P[j]?=some x→i=j
 up: ∀(k n:Nat) (v:Int) (b:Nat) (x:Int),P[k]?=some (n,v)→b<2→F[k*2+b]?=some x→0<x→P[x.toNat]?=some (n+1,2*v+b)
 sy: ∀(k n:Nat) (v:Int) (b:Nat) (x:Int),P[k]?=some (n,v)→b<2→F[k*2+b]?=some x→x<0→ ∃s:Nat,Ins s∧x= -1-(s:Int)∧ls[s]?=some ((n+1:Nat):Int)∧codeM ls s=2*v+b
 no: ∀(k n:Nat) (v:Int) (b:Nat),P[k]?=some (n,v)→b<2→F[k*2+b]?=some 0→(∀j:Nat,P[j]?≠some (n+1,2*v+b))∧ ∀s:Nat,Ins s→ls[s]?=some ((n+1:Nat):Int)→codeM ls s≠2*v+b
 par: ∀(k n:Nat) (v:Int),P[k]?=some (n+1,v)→ ∃j:Nat,P[j]?=some (n,v/2)
 ins: ∀(s n:Nat),Ins s→ls[s]?=some (n:Int)→0<n→ ∀j,j<n→ ∃k:Nat,P[k]?=some (j,codeM ls s/2^(n-j))
 beg: ∀(k n:Nat) (v:Int),P[k]?=some (n,v)→0<n→ ∃s m:Nat,Beg s∧ls[s]?=some (m:Int)∧n<m∧codeM ls s/2^(m-n)=v
section
variable {ls:List Int} {Ins Beg:Nat→Prop} {P:List (Nat×Int)} {F:List Int}
theorem Trie.get(t:Trie ls Ins Beg P F){k:Nat}{y:Nat×Int}(h:P[k]?=some y){b:Nat}(hb:b<2): ∃x,F[k*2+b]?=some x:=by
 have:=(List.getElem?_eq_some_iff.1 h).1
 have:=t.len
 exact⟨_,List.getElem?_eq_getElem (by omega)⟩
theorem half_bit(v:Int)(b:Nat)(hb:b<2):(2*v+b)/2=v∧(2*v+b)%2=b:=by omega
theorem div_two_pow(c:Int)(d:Nat):c/2^(d+1)=c/2^d/2:=by
 rw[Int.pow_succ,Int.ediv_ediv_of_nonneg (Int.pow_nonneg (by omega))]
theorem Trie.step(t:Trie ls Ins Beg P F)(ok:OkC ls)(hb: ∀s,Beg s→s<ls.length){k n:Nat}{v x:Int}{b:Nat}(hk:P[k]?=some (n,v))(hb2:b<2)(hx:F[k*2+b]?=some x):
 (∀s:Nat,Ins s→ls[s]?=some ((n+1:Nat):Int)→codeM ls s=2*v+b→x= -1-(s:Int))∧
 (∀s m:Nat,Ins s→ls[s]?=some (m:Int)→n+1<m→codeM ls s/2^(m-(n+1))=2*v+b→0<x∧P[x.toNat]?=some (n+1,2*v+b)):=by
 have noBeg: ∀(s m s':Nat),ls[s]?=some (m:Int)→0<m→s≠s'→ ∀m':Nat,ls[s']?=some (m':Int)→m≤m'→codeM ls s'/2^(m'-m)≠codeM ls s:=fun s m s' h1 h2 h3 m' h4 h5=>no_prefix ok h3 h1 h4 h2 h5
 refine⟨fun s hs hl hc=>?_,fun s m hs hl hm hc=>?_⟩
 ·rcases Int.lt_trichotomy x 0 with h|h|h
  ·obtain⟨s',i',e,l',c'⟩:=t.sy k n v b x hk hb2 hx h
   by_cases hss:s=s'
   ·rw[hss];exact e
   ·have:=noBeg s (n+1) s' hl (by omega) hss (n+1) l' (Nat.le_refl _)
    rw[Nat.sub_self,Int.pow_zero,Int.ediv_one,hc,c'] at this
    exact absurd rfl this
  ·subst h
   exact absurd hc ((t.no k n v b hk hb2 hx).2 s hs hl)
  ·have hp:=t.up k n v b x hk hb2 hx h
   obtain⟨s',m',_,l',hm',c'⟩:=t.beg _ _ _ hp (by omega)
   have hss:s≠s':=fun hh=>by subst hh;rw[hl] at l';have:=Option.some.inj l';omega
   have:=noBeg s (n+1) s' hl (by omega) hss m' l' (by omega)
   rw[c',hc] at this
   exact absurd rfl this
 ·obtain⟨k',hk'⟩:=t.ins s m hs hl (by omega) (n+1) hm
  rw[hc] at hk'
  rcases Int.lt_trichotomy x 0 with h|h|h
  ·obtain⟨s',i',e,l',c'⟩:=t.sy k n v b x hk hb2 hx h
   have hss:s'≠s:=fun hh=>by subst hh;rw[hl] at l';have:=Option.some.inj l';omega
   have:=noBeg s' (n+1) s l' (by omega) hss m hl (by omega)
   rw[hc,c'] at this
   exact absurd rfl this
  ·subst h
   exact absurd hk' ((t.no k n v b hk hb2 hx).1 k')
  ·exact⟨h,t.up k n v b x hk hb2 hx h⟩
theorem Trie.leaf(t:Trie ls Ins Beg P F)(ok:OkC ls){s n:Nat}(hl:ls[s]?=some ((n+1:Nat):Int))(hs:Beg s)(hns: ¬Ins s){k:Nat}(hk:P[k]?=some (n,codeM ls s/2))(hib: ∀i,Ins i→Beg i)
 (path: ∀j,j≤n→ ∃k:Nat,P[k]?=some (j,codeM ls s/2^(n+1-j))):
 Trie ls (fun i=>Ins i∨i=s) Beg P (F.set (k*2+(codeM ls s%2).toNat) (-1-(s:Int))):=by
 have hb2:(codeM ls s%2).toNat<2:=by omega
 have hcode:2*(codeM ls s/2)+((codeM ls s%2).toNat:Int)=codeM ls s:=by omega
 obtain⟨x,hx⟩:=t.get hk hb2
 have hx0:x=0:=by
  rcases Int.lt_trichotomy x 0 with h|h|h
  ·obtain⟨s',i',e,l',c'⟩:=t.sy _ _ _ _ _ hk hb2 hx h
   rw[hcode] at c'
   have hss:s≠s':=fun hh=>by subst hh;exact hns i'
   have:=no_prefix ok hss hl l' (by omega) (Nat.le_refl _)
   rw[Nat.sub_self,Int.pow_zero,Int.ediv_one,c'] at this
   exact absurd rfl this
  ·exact h
  ·have hp:=t.up _ _ _ _ _ hk hb2 hx h
   rw[hcode] at hp
   obtain⟨s',m',_,l',hm',c'⟩:=t.beg _ _ _ hp (by omega)
   have hss:s≠s':=fun hh=>by subst hh;rw[hl] at l';have:=Option.some.inj l';omega
   exact absurd c' (no_prefix ok hss hl l' (by omega) (by omega))
 subst hx0
 have hkl:=(List.getElem?_eq_some_iff.1 hx).1
 have get: ∀(k' b:Nat) (y:Int),b<2→(F.set (k*2+(codeM ls s%2).toNat) (-1-(s:Int)))[k'*2+b]?=some y→(k'=k∧b=(codeM ls s%2).toNat∧y= -1-(s:Int))∨(¬(k'=k∧b=(codeM ls s%2).toNat)∧F[k'*2+b]?=some y):=fun k' b y hb hy=>by
  rw[List.getElem?_set] at hy
  split at hy
  ·rename_i he
   left
   first
    |(cases hy;exact⟨by omega,by omega,rfl⟩)
    |(
     split at hy
     ·cases hy;exact⟨by omega,by omega,rfl⟩
     ·cases hy)
  ·rename_i he
   exact .inr ⟨fun hh=>he (by rw[hh.1,hh.2]),hy⟩
 refine⟨by rw[List.length_set];exact t.len,t.root,t.inj,fun k' n' v b y h1 h2 h3 h4=>?_,fun k' n' v b y h1 h2 h3 h4=>?_,fun k' n' v b h1 h2 h3=>?_,t.par,fun i m h1 h2 h3 j hj=>?_,t.beg⟩
 ·rcases get k' b y h2 h3 with ⟨_,_,rfl⟩|⟨_,h⟩
  ·omega
  ·exact t.up k' n' v b y h1 h2 h h4
 ·rcases get k' b y h2 h3 with ⟨rfl,rfl,rfl⟩|⟨_,h⟩
  ·rw[hk] at h1;cases h1
   exact⟨s,.inr rfl,rfl,hl,hcode.symm⟩
  ·obtain⟨s',a,b',c⟩:=t.sy k' n' v b y h1 h2 h h4
   exact⟨s',.inl a,b',c⟩
 ·rcases get k' b 0 h2 h3 with ⟨rfl,rfl,h⟩|⟨hne,h⟩
  ·omega
  ·obtain⟨a,c⟩:=t.no k' n' v b h1 h2 h
   refine⟨a,fun i hi hli hci=>?_⟩
   rcases hi with hi|rfl
   ·exact c i hi hli hci
   ·rw[hl] at hli
    have hnn:n=n':=by have:=Option.some.inj hli;omega
    subst hnn
    have hv:codeM ls i/2=v:=by rw[hci];exact(half_bit v b h2).1
    rw[hv] at hk
    have:=t.inj _ _ _ hk h1
    subst this
    refine hne ⟨rfl,?_⟩
    rw[hci,(half_bit v b h2).2];omega
 ·rcases h1 with h1|rfl
  ·exact t.ins i m h1 h2 h3 j hj
  ·rw[hl] at h2
   have hm:n+1=m:=by have:=Option.some.inj h2;omega
   subst hm
   exact path j (by omega)
theorem Trie.node(t:Trie ls Ins Beg P F)(ok:OkC ls){s m n:Nat}{v:Int}{b:Nat}(hl:ls[s]?=some (m:Int))(hs:Beg s)(hk0:n+1<m){k:Nat}(hk:P[k]?=some (n,v))(hb2:b<2)(hcode:codeM ls s/2^(m-(n+1))=2*v+b)
 (hx:F[k*2+b]?=some 0):Trie ls Ins Beg (P++[(n+1,2*v+b)]) ((F++[0,0]).set (k*2+b) P.length):=by
 have hF:=t.len
 have hkl:=(List.getElem?_eq_some_iff.1 hk).1
 obtain⟨hno1,hno2⟩:=t.no k n v b hk hb2 hx
 have pg: ∀(i:Nat) y,(P++[(n+1,2*v+b)])[i]?=some y→(P[i]?=some y)∨(i=P.length∧y=(n+1,2*v+b)):=fun i y hy=>by
  by_cases hi:i<P.length
  ·rw[List.getElem?_append_left hi] at hy;exact .inl hy
  ·rw[List.getElem?_append_right (by omega)] at hy
   have hlt:=(List.getElem?_eq_some_iff.1 hy).1
   have:i-P.length=0:=by simpa using hlt
   rw[this] at hy
   simp at hy
   exact .inr ⟨by omega,hy.symm⟩
 have pk: ∀{i:Nat} {y:Nat×Int},P[i]?=some y→(P++[(n+1,2*v+b)])[i]?=some y:=fun{i y} hy=>by
  rw[List.getElem?_append_left (List.getElem?_eq_some_iff.1 hy).1];exact hy
 have pnew:(P++[(n+1,2*v+b)])[P.length]?=some (n+1,2*v+b):=by simp
 have get: ∀(k' b':Nat) (y:Int),b'<2→((F++[0,0]).set (k*2+b) (P.length:Int))[k'*2+b']?=some y→(k'=k∧b'=b∧y=P.length)∨(k'=P.length∧y=0)∨(¬(k'=k∧b'=b)∧F[k'*2+b']?=some y):=fun k' b' y hb hy=>by
  rw[List.getElem?_set] at hy
  split at hy
  ·rename_i he
   left
   first
    |(cases hy;exact⟨by omega,by omega,rfl⟩)
    |(
     split at hy
     ·cases hy;exact⟨by omega,by omega,rfl⟩
     ·cases hy)
  ·rename_i he
   by_cases hlt:k'*2+b'<F.length
   ·rw[List.getElem?_append_left hlt] at hy
    exact .inr (.inr ⟨fun hh=>he (by rw[hh.1,hh.2]),hy⟩)
   ·rw[List.getElem?_append_right (by omega)] at hy
    have hlt2:=(List.getElem?_eq_some_iff.1 hy).1
    simp at hlt2
    refine .inr (.inl ⟨by omega,?_⟩)
    have:k'*2+b'-F.length=0∨k'*2+b'-F.length=1:=by omega
    rcases this with h|h<;>(rw[h] at hy;simp at hy;exact hy.symm)
 -- nothing is below the new node yet
 have below: ∀(w:Int) (b':Nat),b'<2→w=2*v+b→ ∀j:Nat,P[j]?≠some (n+1+1,2*w+b'):=fun w b' hb' hw j hj=>by
  obtain⟨j',hj'⟩:=t.par j (n+1) _ hj
  rw[(half_bit w b' hb').1,hw] at hj'
  exact hno1 j' hj'
 refine⟨by simp;omega,pk t.root,fun i j y h1 h2=>?_,fun k' n' v' b' y h1 h2 h3 h4=>?_,fun k' n' v' b' y h1 h2 h3 h4=>?_,fun k' n' v' b' h1 h2 h3=>?_,fun k' n' v' h1=>?_,fun i m' h1 h2 h3 j hj=>?_,fun k' n' v' h1 h2=>?_⟩
 ·rcases pg i y h1 with h1|⟨e1,y1⟩
  ·rcases pg j y h2 with h2|⟨e2,y2⟩
   ·exact t.inj i j y h1 h2
   ·rw[y2] at h1;exact absurd h1 (hno1 i)
  ·rcases pg j y h2 with h2|⟨e2,y2⟩
   ·rw[y1] at h2;exact absurd h2 (hno1 j)
   ·omega
 ·rcases get k' b' y h2 h3 with ⟨rfl,rfl,rfl⟩|⟨rfl,rfl⟩|⟨_,h⟩
  ·rw[pk hk] at h1;cases h1
   rw[Int.toNat_natCast];exact pnew
  ·omega
  ·rcases pg k' _ h1 with h1|⟨e,_⟩
   ·exact pk (t.up k' n' v' b' y h1 h2 h h4)
   ·have:=(List.getElem?_eq_some_iff.1 h).1;omega
 ·rcases get k' b' y h2 h3 with ⟨rfl,rfl,rfl⟩|⟨rfl,rfl⟩|⟨_,h⟩
  ·omega
  ·omega
  ·rcases pg k' _ h1 with h1|⟨e,_⟩
   ·exact t.sy k' n' v' b' y h1 h2 h h4
   ·have:=(List.getElem?_eq_some_iff.1 h).1;omega
 ·rcases get k' b' 0 h2 h3 with ⟨rfl,rfl,h⟩|⟨rfl,_⟩|⟨hne,h⟩
  ·omega
  ·rw[pnew] at h1;cases h1
   refine⟨fun j hj=>?_,fun i hi hli hci=>?_⟩
   ·rcases pg j _ hj with hj|⟨_,he⟩
    ·exact below _ b' h2 rfl j hj
    ·cases he
   ·obtain⟨k2,hk2⟩:=t.ins i (n+1+1) hi hli (by omega) (n+1) (by omega)
    have e:n+1+1-(n+1)=1:=by omega
    rw[e,Int.pow_one,hci,(half_bit _ b' h2).1] at hk2
    exact hno1 k2 hk2
  ·rcases pg k' _ h1 with h1|⟨e,_⟩
   ·obtain⟨a,c⟩:=t.no k' n' v' b' h1 h2 h
    refine⟨fun j hj=>?_,c⟩
    rcases pg j _ hj with hj|⟨_,he⟩
    ·exact a j hj
    ·rw[Prod.mk.injEq] at he
     have hv:v'=v∧b'=b:=by omega
     have hn:n'=n:=by omega
     rw[hn,hv.1] at h1
     exact hne ⟨t.inj _ _ _ h1 hk,hv.2⟩
   ·have:=(List.getElem?_eq_some_iff.1 h).1;omega
 ·rcases pg k' _ h1 with h1|⟨_,he⟩
  ·obtain⟨j,hj⟩:=t.par k' n' v' h1;exact⟨j,pk hj⟩
  ·rw[Prod.mk.injEq] at he
   refine⟨k,?_⟩
   rw[he.2,(half_bit v b hb2).1]
   have:n'=n:=by omega
   rw[this];exact pk hk
 ·obtain⟨k',hk'⟩:=t.ins i m' h1 h2 h3 j hj
  exact⟨k',pk hk'⟩
 ·rcases pg k' _ h1 with h1|⟨_,he⟩
  ·exact t.beg k' n' v' h1 h2
  ·rw[Prod.mk.injEq] at he
   exact⟨s,m,hs,hl,by omega,by rw[he.1,he.2];exact hcode⟩
theorem Trie.first(ls:List Int)(Beg:Nat→Prop):Trie ls (fun _=>False) Beg [(0,0)] [0,0]:=by
 have one: ∀{k:Nat} {y:Nat×Int},[((0:Nat),(0:Int))][k]?=some y→k=0∧y=(0,0):=fun{k y} h=>by
  cases k with
  |zero=>simp at h;exact⟨rfl,h.symm⟩
  |succ k=>simp at h
 have zz: ∀{k b:Nat} {y:Int},k=0→b<2→([0,0]:List Int)[k*2+b]?=some y→y=0:=fun{k b y} hk hb h=>by
  subst hk
  have:b=0∨b=1:=by omega
  rcases this with rfl|rfl<;>(simp at h;exact h.symm)
 refine⟨rfl,rfl,fun i j x h1 h2=>by rw[(one h1).1,(one h2).1],fun k n v b x h1 h2 h3 h4=>?_,fun k n v b x h1 h2 h3 h4=>?_,fun k n v b h1 h2 h3=>⟨fun j hj=>?_,fun s hs=>hs.elim⟩,fun k n v h1=>?_,fun s n hs=>hs.elim,fun k n v h1 h2=>?_⟩
 ·have:=zz (one h1).1 h2 h3;omega
 ·have:=zz (one h1).1 h2 h3;omega
 ·have:=(one hj).2;simp at this
 ·have:=(one h1).2;simp at this
 ·have:=(one h1).2;rw[Prod.mk.injEq] at this;omega
theorem Trie.mono{Ins' Beg':Nat→Prop}(t:Trie ls Ins Beg P F)(h1: ∀s,Ins s↔Ins' s)(h2: ∀s,Beg s→Beg' s):Trie ls Ins' Beg' P F:=by
 refine⟨t.len,t.root,t.inj,t.up,fun k n v b x a1 a2 a3 a4=>?_,fun k n v b a1 a2 a3=>?_,t.par,fun s n a1=>t.ins s n ((h1 s).2 a1),fun k n v a1 a2=>?_⟩
 ·obtain⟨s,a,b'⟩:=t.sy k n v b x a1 a2 a3 a4;exact⟨s,(h1 s).1 a,b'⟩
 ·obtain⟨a,b'⟩:=t.no k n v b a1 a2 a3;exact⟨a,fun s hs=>b' s ((h1 s).2 hs)⟩
 ·obtain⟨s,m,a,b'⟩:=t.beg k n v a1 a2;exact⟨s,m,h2 s a,b'⟩
end
end Go.Proofs
namespace Go.Proofs
open Go.Sh
theorem Trie.mono2{ls:List Int}{Ins Beg Ins' Beg':Nat→Prop}{P:List (Nat×Int)}{F:List Int}(t:Trie ls Ins Beg P F)(h1: ∀s,Ins s→Ins' s)(h1': ∀s n:Nat,Ins' s→ls[s]?=some (n:Int)→0<n→Ins s)(h2: ∀s,Beg s→Beg' s):Trie ls Ins' Beg' P F:=by
 refine⟨t.len,t.root,t.inj,t.up,fun k n v b x a1 a2 a3 a4=>?_,fun k n v b a1 a2 a3=>?_,t.par,fun s n a1 a2 a3=>t.ins s n (h1' s n a1 a2 a3) a2 a3,fun k n v a1 a2=>?_⟩
 ·obtain⟨s,a,b'⟩:=t.sy k n v b x a1 a2 a3 a4;exact⟨s,h1 s a,b'⟩
 ·obtain⟨a,b'⟩:=t.no k n v b a1 a2 a3;exact⟨a,fun s hs hl=>b' s (h1' s _ hs hl (by omega)) hl⟩
 ·obtain⟨s,m,a,b'⟩:=t.beg k n v a1 a2;exact⟨s,m,h2 s a,b'⟩
theorem Trie.rng{ls:List Int}{Beg:Nat→Prop}{P:List (Nat×Int)}{F:List Int}{S:Nat}(t:Trie ls (· <S) Beg P F): ∀x∈F,-(S:Int)≤x∧x<P.length:=fun x hx=>by
 obtain⟨i,hi⟩:=List.getElem?_of_mem hx
 have hil:=(List.getElem?_eq_some_iff.1 hi).1
 have hl:=t.len
 obtain⟨y,hy⟩: ∃y,P[i/2]?=some y:=⟨_,List.getElem?_eq_getElem (by omega)⟩
 obtain⟨n,v⟩:=y
 have e:i/2*2+i%2=i:=by omega
 have hi':F[i/2*2+i%2]?=some x:=by rw[e];exact hi
 have hp:0<P.length:=by have:=(List.getElem?_eq_some_iff.1 t.root).1;omega
 rcases Int.lt_trichotomy x 0 with h|h|h
 ·obtain⟨s,a,b,_⟩:=t.sy _ _ _ _ _ hy (by omega) hi' h
  have a:s<S:=a
  omega
 ·omega
 ·have:=(List.getElem?_eq_some_iff.1 (t.up _ _ _ _ _ hy (by omega) hi' h)).1
  omega
set_option maxHeartbeats 4000000 in
theorem newDec{H:Heap}{p:Option Addr}{l c:Nat}{ls:List Int}(h:IS H p l (ints ls)){R:Value→Heap→Prop}(hbad: ¬OkC ls→R (.tuple #[.pointer none,.bool false]) H)
 (hgood:OkC ls→ ∀H' b q L k P F,H.size≤b→H'[b]?=some (.cells #[.slice q L k] 125)→FS H.size H' q L k 126 2 (ints F)→P.length=L→L≤5000→Trie ls (· <ls.length) (· <ls.length) P F→Ext H H'→R (.tuple #[.pointer (some ⟨b,0,none⟩),.bool true]) H'):
 CallsH Try.prog 57 #[.slice p l c] H R:=by
 have hl:ls.length=l:=by have:=h.len;rw[ints_len] at this;omega
 refine Try.s57 ?_
 unfold Try.S57 alc
 refine c69 h (fun hn=>⟨_,_,_,_,rfl,br_t rfl (hbad hn)⟩) fun ok H1 cb fc e1=>⟨_,_,_,_,rfl,br_f rfl ⟨by omega,by omega,by omega,by omega,?_⟩⟩
 have l300:=ok.w.len
 have hz:(List.toArray (reps (Int.toNat (1:Int)) (Array.toList #[Value.int .i64 0,Value.int .i64 0])))=#[Value.int .i64 0,Value.int .i64 0]:=rfl
 have h1:Int.toNat (1:Int)=1:=rfl
 rw[hz,h1]
 dsimp only
 have hb2:=get_push_self H1 (.cells #[Value.int .i64 0,Value.int .i64 0] 126)
 have e2:Ext H1 (H1.push (.cells #[Value.int .i64 0,Value.int .i64 0] 126)):=Ext.push _ _
 have hs2:(H1.push (.cells #[Value.int .i64 0,Value.int .i64 0] 126)).size=H1.size+1:=by simp
 generalize H1.push (.cells #[Value.int .i64 0,Value.int .i64 0] 126)=H2 at hb2 e2 hs2
 have hb3:=get_push_self H2 (.cells #[Value.slice (some ⟨H1.size,0,none⟩) 1 1] 125)
 have e3:Ext H2 (H2.push (.cells #[Value.slice (some ⟨H1.size,0,none⟩) 1 1] 125)):=Ext.push _ _
 have hs3:(H2.push (.cells #[Value.slice (some ⟨H1.size,0,none⟩) 1 1] 125)).size=H2.size+1:=by simp
 generalize H2.push (.cells #[Value.slice (some ⟨H1.size,0,none⟩) 1 1] 125)=H3 at hb3 e3 hs3
 have hsz1:=e1.size
 have fs3:FS H.size H3 (some ⟨H1.size,0,none⟩) 1 1 126 2 (ints [0,0]):=⟨rfl,Nat.le_refl _,ints_one _,.inr ⟨H1.size,_,rfl,hsz1,e3 _ _ hb2,rfl,fun i v hv=>by simpa[ints] using hv⟩⟩
 have cget: ∀{Hx:Heap},RS Hx (some ⟨cb,0,none⟩) l 3 1 (ints (codesM ls))→ ∀i,i<l→cell Hx ⟨cb,i,none⟩=some (.int .i64 (codeM ls i)):=fun hx i hi=>by
  obtain⟨blk,q1,v1⟩:=hx.cell (ints_get (codesM_get (ls:=ls) (i:=i) (by omega)))
  cases q1;exact v1
 have lget: ∀i,i<l→ ∃n:Nat,ls[i]?=some (n:Int)∧n≤16:=fun i hi=>by
  have hv:ls[i]?=some ls[i]:=List.getElem?_eq_getElem (by omega)
  have hr:=ok.w.rng _ (List.mem_of_getElem? hv)
  refine⟨ls[i].toNat,?_,by omega⟩
  rw[hv];congr 1;omega
 generalize hB:H2.size=B at hb3 ⊢
 have dget: ∀{Hx:Heap} {q:Option Addr} {L k:Nat},Hx[B]?=some (.cells #[.slice q L k] 125)→cell Hx ⟨B,0,none⟩=some (.slice q L k):=fun h=>cell_get h rfl
 have hBs:H.size≤B:=by omega
 intro X hX
 have outer: ∀(m s:Nat) (H4:Heap) (q:Option Addr) (L k:Nat) (P:List (Nat×Int)) (F:List Int),l-s=m→s≤l→Ext H H4→RS H4 (some ⟨cb,0,none⟩) l 3 1 (ints (codesM ls))→H4[B]?=some (.cells #[.slice q L k] 125)→FS H.size H4 q L k 126 2 (ints F)→
  P.length=L→L≤1+16*s→Trie ls (· <s) (· <s) P F→X [.int .i64 s] H4:=by
  intro m
  induction m with
  |zero=>
   intro s H4 q L k P F hm hs e4 rc hd fs hP hL t
   have:s=ls.length:=by omega
   subst this
   exact hX _ H4 (br_n (by omega) (hgood ok H4 B q L k P F hBs hd fs hP (by omega) t e4))
  |succ m ih=>
   intro s H4 q L k P F hm hs e4 rc hd fs hP hL t
   have ws:IntKind.wrap .i64 ((s:Int)+1)=((s+1:Nat):Int):=by rw[wrap_id (by omega) (by omega)];omega
   have wns:IntKind.wrap .i64 ((-1:Int)-(s:Int))= -1-(s:Int):=wrap_id (by omega) (by omega)
   obtain⟨n,hn,hn16⟩:=lget s (by omega)
   obtain⟨a,hp,cv⟩:=(h.ext e4).cell (ints_get hn)
   refine hX _ H4 (br_y (by omega) ⟨_,hp,by omega,by omega,n,by simpa using cv,?_⟩)
   rw[ws,wns]
   have nxt: ∀(H5:Heap) (q:Option Addr) (L k:Nat) (P:List (Nat×Int)) (F:List Int),Ext H H5→RS H5 (some ⟨cb,0,none⟩) l 3 1 (ints (codesM ls))→H5[B]?=some (.cells #[.slice q L k] 125)→FS H.size H5 q L k 126 2 (ints F)→
    P.length=L→L≤1+16*(s+1)→Trie ls (· <s+1) (· <s+1) P F→X [.int .i64 ((s+1:Nat):Int)] H5:=fun H5 q L k P F e5 rc hd fs hP hL t=>ih (s+1) H5 q L k P F (by omega) (by omega) e5 rc hd fs hP hL t
   intro Y hY
   by_cases hn0:n=0
   ·have w0:IntKind.wrap .i64 ((n:Int)-1)= -1:=by subst hn0;decide
    rw[w0]
    refine hY _ _ H4 (br_n (by omega) (nxt H4 q L k P F e4 rc hd fs hP (by omega) (t.mono2 (fun i hi=>by omega) (fun i n' hi hl' hn'=>?_) (fun i hi=>by omega))))
    by_cases his:i=s
    ·subst his
     rw[hn] at hl'
     have:=Option.some.inj hl';omega
    ·have hi:i<s+1:=hi
     show i<s
     omega
   ·have w0:IntKind.wrap .i64 ((n:Int)-1)=((n-1:Nat):Int):=by rw[wrap_id (by omega) (by omega)];omega
    rw[w0]
    have crng:=code_rng ok hn (by omega)
    have inner: ∀(k0:Nat) (st:Nat) (H5:Heap) (q:Option Addr) (L k:Nat) (P:List (Nat×Int)) (F:List Int),k0+1≤n→Ext H H5→RS H5 (some ⟨cb,0,none⟩) l 3 1 (ints (codesM ls))→H5[B]?=some (.cells #[.slice q L k] 125)→FS H.size H5 q L k 126 2 (ints F)→
     P.length=L→L≤1+16*s+(n-1-k0)→Trie ls (· <s) (· <s+1) P F→P[st]?=some (n-1-k0,codeM ls s/2^(k0+1))→(∀j,j≤n-1-k0→ ∃i:Nat,P[i]?=some (j,codeM ls s/2^(n-j)))→Y [.int .i64 st,.int .i64 k0] H5:=by
     intro k0
     induction k0 with
     |zero=>
      intro st H5 q L k P F hk0 e5 rc hd fs hP hL t hst path
      have hstl:=(List.getElem?_eq_some_iff.1 hst).1
      have hFl:=t.len
      rw[Nat.zero_add,Int.pow_one] at hst
      refine hY _ _ H5 (br_y (by omega) ⟨_,rfl,by omega,by omega,codeM ls s,by simpa using cget rc s (by omega),by omega,?_⟩)
      have hbit:andI .i64 (shrI .i64 (codeM ls s) ((0:Nat):Int)) (1:Int)=codeM ls s%2:=by
       rw[andI_one,shr64 (by omega) (by omega)];simp
      rw[hbit]
      refine br_t rfl ⟨_,rfl,q,L,k,by simpa using dget hd,?_⟩
      have hbt:(codeM ls s%2).toNat<2:=by omega
      rcases fs.at_ with ⟨hq0,hk00⟩|⟨blk,cs,hq,hq2,hq3,hq4,hq5⟩
      ·have:=fs.le;omega
      ·refine⟨_,hq,by omega,by omega,by omega,by omega,?_⟩
       subst hq
       simp only[add_none,Nat.zero_add,Nat.mul_one,Int.toNat_natCast]
       refine fs.set (by rw[ints_len];omega) rfl fun H6 f6 hk6 hs6=>?_
       rw[ints_set] at f6
       have hBne:B≠blk:=fun hh=>by rw[←hh,hd] at hq3;cases hq3
       refine nxt H6 _ L k P _ (fun b o hb=>hk6 b o (e5 b o hb) (by have:=lt_of_get hb;omega)) (rc.keep fun b cs' hb hg=>hk6 b _ hg fun hh=>by rw[hh,hq3] at hg;cases hg) (hk6 _ _ hd hBne) f6 hP (by omega) ?_
       have hn1:n=n-1+1:=by omega
       rw[hn1] at hn
       refine(t.leaf ok hn (by show s<s+1;omega) (by show ¬s<s;omega) (k:=st) hst (fun i hi=>by show i<s+1;have:i<s:=hi;omega) (fun j hj=>?_)).mono2 (fun i hi=>?_) (fun i n' hi _ _=>?_) (fun i hi=>hi)
       ·obtain⟨i,hi⟩:=path j (by omega)
        refine⟨i,?_⟩
        have:n-1+1-j=n-j:=by omega
        rw[this];exact hi
       ·rcases hi with hi|rfl
        ·have:i<s:=hi
         show i<s+1;omega
        ·show i<i+1;omega
       ·have hi:i<s+1:=hi
        by_cases h:i<s
        ·exact .inl h
        ·exact .inr (by omega)
     |succ k0 ihk=>
      intro st H5 q L k P F hk0 e5 rc hd fs hP hL t hst path
      have hstl:=(List.getElem?_eq_some_iff.1 hst).1
      have hFl:=t.len
      have wk:IntKind.wrap .i64 (((k0+1:Nat):Int)-1)=(k0:Int):=by rw[wrap_id (by omega) (by omega)];omega
      have hbit:andI .i64 (shrI .i64 (codeM ls s) ((k0+1:Nat):Int)) (1:Int)=codeM ls s/2^(k0+1)%2:=by
       rw[andI_one,shr64 (by omega) (by omega),Int.toNat_natCast]
      have hhalf:codeM ls s/2^(k0+1+1)=codeM ls s/2^(k0+1)/2:=div_two_pow _ _
      generalize hv:codeM ls s/2^(k0+1)=v at hbit hhalf
      rw[hhalf] at hst
      have hbt:(v%2).toNat<2:=by omega
      have hvv:2*(v/2)+((v%2).toNat:Int)=v:=by omega
      refine hY _ _ H5 (br_y (by omega) ⟨_,rfl,by omega,by omega,codeM ls s,by simpa using cget rc s (by omega),by omega,?_⟩)
      rw[hbit,wk]
      refine br_f (by simp;omega) ?_
      intro J hJ
      obtain⟨x,hx⟩:=t.get hst hbt
      -- behind the look at the child
      have go: ∀(H6:Heap) (q:Option Addr) (L k:Nat) (P:List (Nat×Int)) (F:List Int) (x:Int),Ext H H6→RS H6 (some ⟨cb,0,none⟩) l 3 1 (ints (codesM ls))→H6[B]?=some (.cells #[.slice q L k] 125)→FS H.size H6 q L k 126 2 (ints F)→
       P.length=L→L≤1+16*s+(n-1-k0)→Trie ls (· <s) (· <s+1) P F→st<P.length→F[st*2+(v%2).toNat]?=some x→0<x→P[x.toNat]?=some (n-1-k0,codeM ls s/2^(k0+1))→(∀j,j≤n-1-k0→ ∃i:Nat,P[i]?=some (j,codeM ls s/2^(n-j)))→J [] H6:=by
       intro H6 q L k P F x e6 rc hd fs hP hL t hstl hx hx0 hPx path
       have hFl:=t.len
       rcases fs.at_ with ⟨hq0,hk00⟩|⟨blk,cs,hq,hq2,hq3,hq4,hq5⟩
       ·have:=fs.le;omega
       ·obtain⟨blk',hq',cx⟩:=fs.rs.cell (ints_get hx)
        rw[hq] at hq';cases hq'
        have hxl:=(List.getElem?_eq_some_iff.1 hPx).1
        refine hJ H6 ⟨_,rfl,q,L,k,by simpa using dget hd,_,hq,by omega,by omega,by omega,by omega,x,?_,?_⟩
        ·simp only[add_none,Nat.zero_add,Nat.mul_one,Int.toNat_natCast];exact cx
        ·have hxn:x=((x.toNat:Nat):Int):=by omega
         rw[hxn]
         exact ihk x.toNat H6 q L k P F (by omega) e6 rc hd fs hP hL t hPx path
      rcases fs.at_ with ⟨hq0,hk00⟩|⟨blk,cs,hq,hq2,hq3,hq4,hq5⟩
      ·have:=fs.le;omega
      obtain⟨blk',hq',cx⟩:=fs.rs.cell (ints_get hx)
      rw[hq] at hq';cases hq'
      refine⟨_,rfl,q,L,k,by simpa using dget hd,_,hq,by omega,by omega,by omega,by omega,x,?_,br_eq (fun hx0=>?_) (fun hxne=>?_)⟩
      ·simp only[add_none,Nat.zero_add,Nat.mul_one,Int.toNat_natCast];exact cx
      ·-- a new node
       subst hx0
       refine⟨_,rfl,q,L,k,by simpa using dget hd,rfl,by omega,?_⟩
       have hz:(List.toArray (setL [Value.int .i64 0,Value.int .i64 0] 0 (Array.toList #[Value.int .i64 0,Value.int .i64 0])))=#[Value.int .i64 0,Value.int .i64 0]:=rfl
       rw[hz]
       have hb6:=get_push_self H5 (.cells #[Value.int .i64 0,Value.int .i64 0] 126)
       have e6:Ext H5 (H5.push (.cells #[Value.int .i64 0,Value.int .i64 0] 126)):=Ext.push _ _
       generalize H5.push (.cells #[Value.int .i64 0,Value.int .i64 0] 126)=H6 at hb6 e6
       have src:RS H6 (some ⟨H5.size,0,none⟩) 1 126 2 (ints [0,0]):=⟨rfl,ints_one _,.inr ⟨H5.size,_,rfl,hb6,fun i v hv=>by simpa[ints] using hv⟩⟩
       have f6:=fs.ext e6
       have hd6:=e6 _ _ hd
       have rc6:=rc.ext e6
       refine f6.app src (by decide) (by have:=(e5.trans e6).size;omega) rfl (by omega) (by omega) fun q7 k7 H7 f7 hk7 hs7=>⟨_,rfl,?_⟩
       rw[←ints_append] at f7
       have hBne:q≠some ⟨B,0,none⟩:=fun hh=>by rw[hq] at hh;cases hh;rw[hd] at hq3;cases hq3
       have hd7:=hk7 _ _ hd6 hBne
       have rc7:RS H7 (some ⟨cb,0,none⟩) l 3 1 (ints (codesM ls)):=rc6.keep fun b cs' hb hg=>hk7 b _ hg fun hh=>by
        rw[hq] at hh;cases hh;rw[e6 _ _ hq3] at hg;cases hg
       have e7:Ext H H7:=fun b o hb=>hk7 b o ((e5.trans e6) b o hb) fun hh=>by
        rw[hq] at hh;cases hh;have:=lt_of_get hb;omega
       simp only[add_none,Nat.zero_add]
       refine stAt_one hd7 (by show 0<1;omega) rfl ?_
       have hset:(#[Value.slice q L k]:Array Value).setIfInBounds 0 (Value.slice q7 (L+1) k7)=#[Value.slice q7 (L+1) k7]:=rfl
       rw[hset]
       have hd8:=get_set_self (o:=Obj.cells #[Value.slice q7 (L+1) k7] 125 (0,0)) hd7
       have hk8: ∀(b:Nat) (o:Obj),H7[b]?=some o→b≠B→(H7.setIfInBounds B (.cells #[Value.slice q7 (L+1) k7] 125 (0,0)))[b]?=some o:=fun b o hb hn=>get_set_ne (Ne.symm hn) hb
       generalize H7.setIfInBounds B (.cells #[Value.slice q7 (L+1) k7] 125 (0,0))=H8 at hd8 hk8
       have f8:FS H.size H8 q7 (L+1) k7 126 2 (ints (F++[0,0])):=f7.keep fun b cs' hb hg=>hk8 b _ hg fun hh=>by rw[hh,hd7] at hg;cases hg
       have rc8:RS H8 (some ⟨cb,0,none⟩) l 3 1 (ints (codesM ls)):=rc7.keep fun b cs' hb hg=>hk8 b _ hg fun hh=>by rw[hh,hd7] at hg;cases hg
       have e8:Ext H H8:=fun b o hb=>hk8 b o (e7 b o hb) (by have:=lt_of_get hb;omega)
       have wl:IntKind.wrap .i64 (((L+1:Nat):Int)-1)=(L:Int):=by rw[wrap_id (by omega) (by omega)];omega
       rcases f8.at_ with ⟨hq0,hk00⟩|⟨blk8,cs8,hq8,hq82,hq83,hq84,hq85⟩
       ·have:=f8.le;omega
       ·refine⟨_,rfl,q7,L+1,k7,by simpa using dget hd8,_,rfl,q7,L+1,k7,by simpa using dget hd8,_,hq8,by omega,by omega,by omega,by omega,?_⟩
        subst hq8
        rw[wl]
        simp only[add_none,Nat.zero_add,Nat.mul_one,Int.toNat_natCast]
        refine f8.set (by rw[ints_len];simp;omega) rfl fun H9 f9 hk9 hs9=>?_
        rw[ints_set] at f9
        have hB9:B≠blk8:=fun hh=>by rw[←hh,hd8] at hq83;cases hq83
        have ndc:codeM ls s/2^(n-(n-1-(k0+1)+1))=2*(v/2)+((v%2).toNat:Int):=by
         have:n-(n-1-(k0+1)+1)=k0+1:=by omega
         rw[this,hv,hvv]
        have t9:=t.node ok (s:=s) (m:=n) (b:=(v%2).toNat) hn (by show s<s+1;omega) (by omega) hst hbt ndc hx
        rw[hvv] at t9
        have hdep:n-1-(k0+1)+1=n-1-k0:=by omega
        rw[hdep] at t9
        have e9:Ext H H9:=fun b o hb=>hk9 b o (e8 b o hb) (by have:=lt_of_get hb;omega)
        rw[hP] at t9
        refine go H9 _ (L+1) k7 (P++[(n-1-k0,v)]) _ (L:Int) e9 (rc8.keep fun b cs' hb hg=>hk9 b _ hg fun hh=>by rw[hh,hq83] at hg;cases hg) (hk9 _ _ hd8 hB9) f9 (by simp;omega) (by omega) t9 (by simp;omega) ?_ (by omega) ?_ (fun j hj=>?_)
        ·rw[List.getElem?_set_self (by simp;omega)]
        ·rw[Int.toNat_natCast,←hP,hv];simp
        ·by_cases hj1:j≤n-1-(k0+1)
         ·obtain⟨i,hi⟩:=path j hj1
          exact⟨i,by rw[List.getElem?_append_left (List.getElem?_eq_some_iff.1 hi).1];exact hi⟩
         ·have hje:j=n-1-k0:=by omega
          refine⟨P.length,?_⟩
          have:n-j=k0+1:=by omega
          rw[this,hv,hje];simp
      ·-- the child is there
       have hxpos:0<x:=by
        rcases Int.lt_trichotomy x 0 with h|h|h
        ·obtain⟨s',i',_,l',c'⟩:=t.sy _ _ _ _ _ hst hbt hx h
         have i':s'<s:=i'
         rw[hvv] at c'
         have:=no_prefix ok (i:=s') (j:=s) (by omega) l' hn (by omega) (by omega)
         have e:n-(n-1-(k0+1)+1)=k0+1:=by omega
         rw[e,hv] at this
         exact absurd c'.symm this
        ·exact absurd h hxne
        ·exact h
       have hPx:=t.up _ _ _ _ _ hst hbt hx hxpos
       rw[hvv] at hPx
       have hdep:n-1-(k0+1)+1=n-1-k0:=by omega
       rw[hdep] at hPx
       refine go H5 q L k P F x e5 rc hd fs hP (by omega) t hstl hx hxpos (by rw[hv];exact hPx) (fun j hj=>?_)
       by_cases hj1:j≤n-1-(k0+1)
       ·exact path j hj1
       ·have hje:j=n-1-k0:=by omega
        refine⟨x.toNat,?_⟩
        have:n-j=k0+1:=by omega
        rw[this,hv,hje];exact hPx
    have hcode0:codeM ls s/2^n=0:=Int.ediv_eq_zero_of_lt crng.1 crng.2
    refine inner (n-1) 0 H4 q L k P F (by omega) e4 rc hd fs hP (by omega) (t.mono2 (fun i hi=>hi) (fun i n' hi _ _=>hi) (fun i hi=>by have:i<s:=hi;show i<s+1;omega)) ?_ (fun j hj=>⟨0,?_⟩)
    ·have e1:n-1-(n-1)=0:=by omega
     have e2:n-1+1=n:=by omega
     rw[e1,e2,hcode0];exact t.root
    ·have e1:j=0:=by omega
     subst e1
     rw[Nat.sub_zero,hcode0];exact t.root
 refine outer l 0 H3 (some ⟨H1.size,0,none⟩) 1 1 [(0,0)] [0,0] (by omega) (by omega) (e1.trans (e2.trans e3)) (fc.rs.ext (e2.trans e3)) hb3 fs3 rfl (by omega) ((Trie.first ls (· <0)).mono2 (fun i hi=>hi.elim) (fun i n hi=>absurd hi (by omega)) (fun i hi=>hi))
def stepM(F:List Int)(L:Nat)(st bit:Int):Int×Int:=
 if st<0∨st≥L then(-1,-1)
 else if F.getD (st.toNat*2+(bit%2).toNat) 0>0 then(F.getD (st.toNat*2+(bit%2).toNat) 0,-1)
 else if F.getD (st.toNat*2+(bit%2).toNat) 0<0 then(0,-1-F.getD (st.toNat*2+(bit%2).toNat) 0) else(-1,-1)
theorem c93{H:Heap}{b:Nat}{q:Option Addr}{L k:Nat}{F:List Int}(hd:H[b]?=some (.cells #[.slice q L k] 125))(hf:RS H q L 126 2 (ints F))(hr: ∀x∈F,-1000000≤x∧x≤1000000)(hL:L≤1000000)(st bit:Int){R:Value→Heap→Prop}
 (h:R (.tuple #[.int .i64 (stepM F L st bit).1,.int .i64 (stepM F L st bit).2]) H):CallsH Try.prog 93 #[.pointer (some ⟨b,0,none⟩),.int .i64 st,.int .i64 bit] H R:=by
 have hFl:F.length=L*2:=by have:=hf.len;rw[ints_len] at this;exact this
 have dget:cell H ⟨b,0,none⟩=some (.slice q L k):=cell_get hd rfl
 refine Try.s93 ?_
 unfold Try.S93
 rw[andI_one]
 intro J hJ
 unfold stepM at h
 refine br_dec (fun hn=>?_) (fun h0=>⟨_,rfl,q,L,k,by simpa using dget,br_dec (fun hge=>?_) (fun hlt=>hJ H ?_)⟩)
 ·rw[if_pos (.inl hn)] at h;exact h
 ·rw[if_pos (.inr hge)] at h;exact h
 ·rw[if_neg (by omega)] at h
  have hb2:(bit%2).toNat<2:=by omega
  have hx:F[st.toNat*2+(bit%2).toNat]?=some (F.getD (st.toNat*2+(bit%2).toNat) 0):=by
   rw[List.getD_eq_getElem?_getD,List.getElem?_eq_getElem (by omega)];rfl
  have hxr:=hr _ (List.mem_of_getElem? hx)
  obtain⟨blk,hq,cx⟩:=hf.cell (ints_get hx)
  generalize F.getD (st.toNat*2+(bit%2).toNat) 0=x at h hx cx hxr
  refine⟨_,rfl,q,L,k,by simpa using dget,_,hq,by omega,by omega,by omega,by omega,x,?_,br_dec (fun hp=>?_) (fun hp=>br_dec (fun hn=>?_) (fun hn=>?_))⟩
  ·simp only[add_none,Nat.zero_add,Nat.mul_one];exact cx
  ·rw[if_pos hp] at h;exact h
  ·rw[if_neg hp,if_pos hn] at h
   rw[wrap_id (by omega) (by omega)];exact h
  ·rw[if_neg hp,if_neg hn] at h;exact h
end Go.Proofs
namespace Go.Proofs
open Go.Sh
theorem rank_ex{ls:List Int}{n r:Nat}: ∀{S:Nat},S≤ls.length→r<rank ls S n→ ∃s:Nat,s<S∧ls[s]?=some (n:Int)∧rank ls s n=r
 |0,_,h=>by simp[rank] at h
 |S+1,hS,h=>by
  have hv:ls[S]?=some ls[S]:=List.getElem?_eq_getElem (by omega)
  rw[rank_snoc hv] at h
  by_cases hr:r<rank ls S n
  ·obtain⟨s,a,b⟩:=rank_ex (by omega) hr
   exact⟨s,by omega,b⟩
  ·split at h
   ·rename_i he
    exact⟨S,by omega,by rw[hv,he],by omega⟩
   ·omega
theorem whole{ls:List Int}(ok:OkC ls)(hw:wtM ls=65536){x:Int}(h0:0≤x)(h1:x<65536): ∃s n:Nat,ls[s]?=some (n:Int)∧1≤n∧n≤16∧codeM ls s=x/2^(16-n):=by
 have hW:W ls 16=65536:=by rw[W_all ok.w.rng,hw]
 have find: ∀m:Nat,m≤16→x<W ls m→ ∃n,n<m∧W ls n≤x∧x<W ls (n+1):=by
  intro m
  induction m with
  |zero=>intro _ h;simp[W] at h;omega
  |succ m ih=>
   intro hm h
   by_cases hx:x<W ls m
   ·obtain⟨n,a,b⟩:=ih (by omega) hx
    exact⟨n,by omega,b⟩
   ·exact⟨m,by omega,by omega,h⟩
 obtain⟨n,hn,w1,w2⟩:=find 16 (Nat.le_refl _) (by omega)
 have b1:=base_W ls n (by omega)
 have b2:=base_W ls (n+1) (by omega)
 have hp:(0:Int)<2^(16-(n+1)):=Int.pow_pos (by omega)
 have hb:base ls (n+1)*2^(16-(n+1))=W ls n:=by
  rw[←b1]
  have e:16-n=16-(n+1)+1:=by omega
  rw[e,Int.pow_succ]
  show 2*(base ls n+cnt ls n)*2^(16-(n+1))=_
  generalize (2:Int)^(16-(n+1))=z
  rw[Int.mul_comm z 2,←Int.mul_assoc,Int.mul_comm (base ls n+(cnt ls n:Int)) 2]
 have y1:base ls (n+1)≤x/2^(16-(n+1)):=(Int.le_ediv_iff_mul_le hp).2 (by omega)
 have y2:x/2^(16-(n+1))<base ls (n+1)+cnt ls (n+1):=Int.ediv_lt_of_lt_mul hp (by omega)
 have hc:cnt ls (n+1)=rank ls ls.length (n+1):=by unfold cnt;rw[if_neg (by omega)]
 obtain⟨s,_,hs,hr⟩:=rank_ex (ls:=ls) (n:=n+1) (r:=(x/2^(16-(n+1))-base ls (n+1)).toNat) (S:=ls.length) (Nat.le_refl _) (by omega)
 refine⟨s,n+1,hs,by omega,by omega,?_⟩
 rw[codeM_pos hs (by omega),hr]
 omega
section
variable {ls:List Int} {P:List (Nat×Int)} {F:List Int}
theorem stepM_of{L:Nat}(hP:P.length=L)(t:Trie ls (· <ls.length) (· <ls.length) P F){k:Nat}{y:Nat×Int}(hk:P[k]?=some y)(bit:Int): ∃x,F[k*2+(bit%2).toNat]?=some x∧stepM F L (k:Int) bit=if x>0 then(x,-1) else if x<0 then(0,-1-x) else(-1,-1):=by
 have hb:(bit%2).toNat<2:=by omega
 obtain⟨x,hx⟩:=t.get hk hb
 have hkl:=(List.getElem?_eq_some_iff.1 hk).1
 refine⟨x,hx,?_⟩
 unfold stepM
 rw[if_neg (by omega),Int.toNat_natCast,List.getD_eq_getElem?_getD,hx]
 rfl
theorem step_sym{L:Nat}(ok:OkC ls)(hP:P.length=L)(t:Trie ls (· <ls.length) (· <ls.length) P F){k n s:Nat}{v bit:Int}(hk:P[k]?=some (n,v))(hs:ls[s]?=some ((n+1:Nat):Int))(hc:codeM ls s=2*v+bit%2):stepM F L (k:Int) bit=(0,(s:Int)):=by
 obtain⟨x,hx,e⟩:=stepM_of hP t hk bit
 have hb:(bit%2).toNat<2:=by omega
 have hsl:=(List.getElem?_eq_some_iff.1 hs).1
 have:=(t.step ok (fun s hs=>hs) hk hb hx).1 s hsl hs (by omega)
 rw[e,if_neg (by omega),if_pos (by omega)]
 congr 1;omega
theorem step_on{L:Nat}(ok:OkC ls)(hP:P.length=L)(t:Trie ls (· <ls.length) (· <ls.length) P F){k n s m:Nat}{v bit:Int}(hk:P[k]?=some (n,v))(hs:ls[s]?=some (m:Int))(hm:n+1<m)(hc:codeM ls s/2^(m-(n+1))=2*v+bit%2):
 ∃j:Nat,0<j∧stepM F L (k:Int) bit=((j:Int),-1)∧P[j]?=some (n+1,2*v+bit%2):=by
 obtain⟨x,hx,e⟩:=stepM_of hP t hk bit
 have hb:(bit%2).toNat<2:=by omega
 have hsl:=(List.getElem?_eq_some_iff.1 hs).1
 have hbb:2*v+((bit%2).toNat:Int)=2*v+bit%2:=by omega
 obtain⟨h0,hp⟩:=(t.step ok (fun s hs=>hs) hk hb hx).2 s m hsl hs hm (by rw[hbb];exact hc)
 rw[hbb] at hp
 refine⟨x.toNat,by omega,?_,hp⟩
 rw[e,if_pos h0]
 congr 1;omega
theorem step_off{L:Nat}(hP:P.length=L)(t:Trie ls (· <ls.length) (· <ls.length) P F){k n:Nat}{v bit:Int}(hk:P[k]?=some (n,v))(h1: ∀s:Nat,ls[s]?=some ((n+1:Nat):Int)→codeM ls s≠2*v+bit%2)
 (h2: ∀s m:Nat,ls[s]?=some (m:Int)→n+1<m→codeM ls s/2^(m-(n+1))≠2*v+bit%2):stepM F L (k:Int) bit=(-1,-1):=by
 obtain⟨x,hx,e⟩:=stepM_of hP t hk bit
 have hb:(bit%2).toNat<2:=by omega
 have hbb:2*v+((bit%2).toNat:Int)=2*v+bit%2:=by omega
 have n1: ¬x>0:=fun h=>by
  have hp:=t.up _ _ _ _ _ hk hb hx h
  obtain⟨s,m,_,a,b,c⟩:=t.beg _ _ _ hp (by omega)
  rw[hbb] at c
  exact h2 s m a b c
 have n2: ¬x<0:=fun h=>by
  obtain⟨s,_,_,a,b⟩:=t.sy _ _ _ _ _ hk hb hx h
  rw[hbb] at b
  exact h1 s a b
 rw[e,if_neg n1,if_neg n2]
theorem Trie.rng2{L:Nat}(hP:P.length=L)(hL:L≤5000)(hl:ls.length≤300)(t:Trie ls (· <ls.length) (· <ls.length) P F): ∀x∈F,-1000000≤x∧x≤1000000:=fun x hx=>by
 have:=t.rng x hx;omega
theorem Trie.val(ok:OkC ls)(t:Trie ls (· <ls.length) (· <ls.length) P F){k n:Nat}{v:Int}(hk:P[k]?=some (n,v))(hn:0<n):n≤16∧0≤v∧v≤65536:=by
 obtain⟨s,m,_,a,b,c⟩:=t.beg _ _ _ hk hn
 have hm:=ok.w.rng _ (List.mem_of_getElem? a)
 have hr:=code_rng ok a (by omega)
 have h2:(2:Int)^m≤65536:=by
  have h2:2^m≤2^16:=Nat.pow_le_pow_right (by omega) (by omega)
  have h3:((2^m:Nat):Int)=(2:Int)^m:=by simp
  have h4:(2:Nat)^16=65536:=rfl
  omega
 have h5:0≤codeM ls s/2^(m-n):=Int.ediv_nonneg hr.1 (Int.pow_nonneg (by omega))
 have h6:codeM ls s/2^(m-n)≤codeM ls s:=Int.ediv_le_self _ hr.1
 omega
end
theorem div_bit(x:Int)(k:Nat):2*(x/2^(k+1))+x/2^k%2=x/2^k:=by rw[div_two_pow];omega
end Go.Proofs
namespace Go.Proofs
open Go.Sh
def getM(B:List Int)(n at_:Nat):Except Int (Int×Nat):=
 if at_+n≤8*B.length then .ok (numB false B at_ n,at_+n) else .error 20
def findM(ls:List Int)(n:Nat)(v:Int):Option Nat:=(List.range ls.length).find? fun s=>ls.getD s 0==(n:Int)&&codeM ls s==v
def begM(ls:List Int)(n:Nat)(v:Int):Bool:=(List.range ls.length).any fun s=>decide ((n:Int)<ls.getD s 0)&&codeM ls s/2^((ls.getD s 0).toNat-n)==v
theorem findM_some{ls:List Int}{n s:Nat}{v:Int}(h:findM ls n v=some s):ls[s]?=some (n:Int)∧codeM ls s=v:=by
 unfold findM at h
 have h1:=List.find?_some h
 have h2:=List.mem_range.1 (List.mem_of_find?_eq_some h)
 simp only[Bool.and_eq_true,beq_iff_eq] at h1
 exact⟨by rw[get_gD ls 0 h2,h1.1],h1.2⟩
theorem findM_none{ls:List Int}{n:Nat}{v:Int}(h:findM ls n v=none){s:Nat}(hs:ls[s]?=some (n:Int)):codeM ls s≠v:=fun hc=>by
 unfold findM at h
 rw[List.find?_eq_none] at h
 have:=h s (List.mem_range.2 (List.getElem?_eq_some_iff.1 hs).1)
 rw[gD_get hs,hc] at this
 simp at this
theorem findM_eq{ls:List Int}(ok:OkC ls){n s:Nat}{v:Int}(hn:0<n)(hs:ls[s]?=some (n:Int))(hc:codeM ls s=v):findM ls n v=some s:=by
 cases h:findM ls n v with
 |none=>exact absurd hc (findM_none h hs)
 |some t=>
  obtain⟨h1,h2⟩:=findM_some h
  by_cases he:t=s
  ·rw[he]
  ·have:=no_prefix ok he h1 hs hn (Nat.le_refl n)
   rw[Nat.sub_self,Int.pow_zero,Int.ediv_one] at this
   exact absurd (hc.trans h2.symm) this
theorem begM_true{ls:List Int}(hr: ∀x∈ls,0≤x∧x≤16){n:Nat}{v:Int}(h:begM ls n v=true): ∃s m:Nat,ls[s]?=some (m:Int)∧n<m∧codeM ls s/2^(m-n)=v:=by
 unfold begM at h
 rw[List.any_eq_true] at h
 obtain⟨s,h1,h2⟩:=h
 have h1:=List.mem_range.1 h1
 simp only[Bool.and_eq_true,decide_eq_true_eq,beq_iff_eq] at h2
 have hs:=get_gD ls 0 h1
 have:=hr _ (List.mem_of_getElem? hs)
 refine⟨s,(ls.getD s 0).toNat,by rw[hs];congr 1;omega,by omega,h2.2⟩
theorem begM_false{ls:List Int}{n:Nat}{v:Int}(h:begM ls n v=false){s m:Nat}(hs:ls[s]?=some (m:Int))(hm:n<m):codeM ls s/2^(m-n)≠v:=fun hc=>by
 unfold begM at h
 rw[List.any_eq_false] at h
 have:=h s (List.mem_range.2 (List.getElem?_eq_some_iff.1 hs).1)
 rw[gD_get hs] at this
 simp only[Int.toNat_natCast,hc,beq_self_eq_true,Bool.and_true,decide_eq_true_eq] at this
 omega
theorem begM_mk{ls:List Int}{n s m:Nat}{v:Int}(hs:ls[s]?=some (m:Int))(hm:n<m)(hc:codeM ls s/2^(m-n)=v):begM ls n v=true:=by
 cases h:begM ls n v with
 |true=>rfl
 |false=>exact absurd hc (begM_false h hs hm)
def symG(ls B:List Int):Nat→Nat→Int→Nat→Except Int (Nat×Nat)
 |0,_,_,_=> .error 21
 |f+1,n,v,at_=>match getM B 1 at_ with
  | .error e=> .error e
  | .ok (b,at')=>match findM ls (n+1) (2*v+b) with
   |some s=> .ok (s,at')
   |none=>if begM ls (n+1) (2*v+b) then symG ls B f (n+1) (2*v+b) at' else .error 21
def symM(ls B:List Int)(at_:Nat):Except Int (Nat×Nat):=symG ls B 17 0 0 at_
def lenB(s:Nat):Nat×Nat:=if s<265 then(s-254,0) else if s=285 then(258,0) else(3+(4+(s-257)%4)*2^((s-257)/4-1),(s-257)/4-1)
def dstB(s:Nat):Nat×Nat:=if s<4 then(1+s,0) else(1+(2+s%2)*2^(s/2-1),s/2-1)
def copyM(d:Nat):Nat→List Int→List Int
 |0,out=>out
 |n+1,out=>copyM d n (out++[out.getD (out.length-d) 0])
theorem copyM_len(d:Nat): ∀(n:Nat) (out:List Int),(copyM d n out).length=out.length+n
 |0,out=>rfl
 |n+1,out=>by rw[copyM,copyM_len d n,List.length_append,List.length_singleton];omega
def copiesM(B:List Int)(most:Int)(dl:List Int)(s at_:Nat)(out:List Int):Except Int (Nat×List Int):=
 if s>285 then .error 25 else
 match getM B (lenB s).2 at_ with
 | .error e=> .error e
 | .ok (x,at1)=>match symM dl B at1 with
  | .error e=> .error e
  | .ok (t,at2)=>if t>29 then .error 25 else match getM B (dstB t).2 at2 with
   | .error e=> .error e
   | .ok (y,at3)=>
    if (dstB t).1+y>out.length then .error 22 else if (lenB s).1+x>most-out.length then .error 24 else .ok (at3,copyM ((dstB t).1+y.toNat) ((lenB s).1+x.toNat) out)
def symsM(B:List Int)(most:Int)(ll dl:List Int):Nat→Nat→List Int→Except Int (Nat×List Int)
 |0,_,_=> .error 20
 |f+1,at_,out=>match symM ll B at_ with
  | .error e=> .error e
  | .ok (s,at1)=>if s=256 then .ok (at1,out) else if s>256 then(match copiesM B most dl s at1 out with
   | .error e=> .error e
   | .ok (at2,out2)=>symsM B most ll dl f at2 out2)
   else if (out.length:Int)≥most then .error 24 else symsM B most ll dl f at1 (out++[(s:Int)])
def symbolsM(B:List Int)(most:Int)(ll dl:List Int)(at_:Nat)(out:List Int):Except Int (Nat×List Int):=symsM B most ll dl (8*B.length+1) at_ out
def bytesM(B:List Int):Nat→Nat→List Int→Except Int (Nat×List Int)
 |0,at_,out=> .ok (at_,out)
 |n+1,at_,out=>match getM B 8 at_ with
  | .error e=> .error e
  | .ok (c,at1)=>bytesM B n at1 (out++[c])
def storedM(B:List Int)(most:Int)(at_:Nat)(out:List Int):Except Int (Nat×List Int):=
 match getM B 16 ((at_+7)/8*8) with
 | .error e=> .error e
 | .ok (n,at1)=>match getM B 16 at1 with
  | .error e=> .error e
  | .ok (m,at2)=>if m≠65535-n then .error 25 else if n>most-out.length then .error 24 else bytesM B n.toNat at2 out
def fixL:List Int:=List.replicate 144 8++List.replicate 112 9++List.replicate 24 7++List.replicate 8 8
def fixD:List Int:=List.replicate 32 5
def ordL:List Nat:=[16,17,18,0,8,7,9,6,10,5,11,4,12,3,13,2,14,1,15]
def firstM(B:List Int):List Nat→Nat→List Int→Except Int (Nat×List Int)
 |[],at_,fs=> .ok (at_,fs)
 |s::r,at_,fs=>match getM B 3 at_ with
  | .error e=> .error e
  | .ok (v,at1)=>firstM B r at1 (fs.set s v)
def rightM(ls:List Int)(single none_:Bool):Bool:=
 (decide (ls.length≤300)&&ls.all fun n=>decide (0≤n∧n≤16))&&(wtM ls==65536||(single&&wtM ls==32768&&ls.countP (fun x=>decide (x>0))==1)||(none_&&wtM ls==0))
def listM(B:List Int)(first:List Int)(total:Nat):Nat→Nat→List Int→Except Int (Nat×List Int)
 |0,_,_=> .error 20
 |f+1,at_,ls=>if ls.length≥total then .ok (at_,ls) else match symM first B at_ with
  | .error e=> .error e
  | .ok (s,at1)=>
   if s=16 then(match getM B 2 at1 with
    | .error e=> .error e
    | .ok (x,at2)=>match ls.getLast? with
     |none=> .error 21
     |some v=>if 3+x>(total:Int)-ls.length then .error 21 else listM B first total f at2 (ls++List.replicate (3+x).toNat v))
   else if s=17 then(match getM B 3 at1 with
    | .error e=> .error e
    | .ok (x,at2)=>if 3+x>(total:Int)-ls.length then .error 21 else listM B first total f at2 (ls++List.replicate (3+x).toNat 0))
   else if s=18 then(match getM B 7 at1 with
    | .error e=> .error e
    | .ok (x,at2)=>if 11+x>(total:Int)-ls.length then .error 21 else listM B first total f at2 (ls++List.replicate (11+x).toNat 0))
   else listM B first total f at1 (ls++[(s:Int)])
def tablesM(B:List Int)(at_:Nat):Except Int (Nat×List Int×List Int):=
 match getM B 5 at_ with
 | .error e=> .error e
 | .ok (hl,at1)=>match getM B 5 at1 with
  | .error e=> .error e
  | .ok (hd,at2)=>match getM B 4 at2 with
   | .error e=> .error e
   | .ok (hc,at3)=>if hl>29∨hd>29 then .error 25 else match firstM B (ordL.take (hc.toNat+4)) at3 (List.replicate 19 0) with
    | .error e=> .error e
    | .ok (at4,first)=>if rightM first false false=false then .error 21 else match listM B first (hl.toNat+hd.toNat+258) (8*B.length+2) at4 [] with
     | .error e=> .error e
     | .ok (at5,ls)=>if rightM (ls.take (hl.toNat+257)) true false=false∨rightM (ls.drop (hl.toNat+257)) true true=false then .error 21 else .ok (at5,ls.take (hl.toNat+257),ls.drop (hl.toNat+257))
abbrev TabT:=List Int→Nat→Except Int (Nat×List Int×List Int)
def blocksM(T:TabT)(B:List Int)(most:Int):Nat→Nat→List Int→Except Int (Nat×List Int)
 |0,_,_=> .error 20
 |f+1,at_,out=>match getM B 1 at_ with
  | .error e=> .error e
  | .ok (last,at1)=>match getM B 2 at1 with
   | .error e=> .error e
   | .ok (kind,at2)=>
    match (if kind=0 then storedM B most at2 out else if kind=1 then symbolsM B most fixL fixD at2 out else if kind=2 then(match T B at2 with
     | .error e=> .error e
     | .ok (at3,ll,dl)=>symbolsM B most ll dl at3 out) else .error 25) with
    | .error e=> .error e
    | .ok (at3,out3)=>if last=1 then .ok (at3,out3) else blocksM T B most f at3 out3
def inflM(T:TabT)(B:List Int)(most:Int):Except Int (List Int×Nat):=
 match blocksM T B (max most 0) (8*B.length+1) 0 [] with
 | .error e=> .error e
 | .ok (at_,out)=> .ok (out,(at_+7)/8)
def noT:TabT:=fun _ _=> .error 99
end Go.Proofs
