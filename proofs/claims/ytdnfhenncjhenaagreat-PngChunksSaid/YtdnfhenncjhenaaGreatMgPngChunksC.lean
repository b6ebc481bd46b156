/-
  OWN WORK. Several texts in one: GFunD, GFunE, GFunF, GFun, ShS, ShT, FlA, FlB, FlC, FlUa, HuffH, HuffI.
-/
import Derived.Test.YtdnfhenncjhenaaGreatMgPngChunksB

set_option linter.unusedVariables false
set_option maxRecDepth 100000
set_option linter.unusedSimpArgs false
namespace Go.Proofs
open Go.Sh Go.Sh.Plan
open Go.IntKind (wrap)
open Int (toNat)
def Tryz.S74(le1p:OA)(le1l le1c:Nat)(H:Heap)(R:Kv):Prop:=
 Tryz.C 86 #[.slice le1p le1l le1c] H fun r2 H3=> ∃r4p r4l r4c r5,r2= .tuple #[.slice r4p r4l r4c,.bool r5]∧br (!r5)
 (R (.tuple #[.pointer none,.bool false]) H3)
 (0≤(1:Int)∧(1:Int)≤(1:Int)∧((16:Nat):Int)*(1:Int)≤281474976710656∧(1:Int)≤281474976710656∧alc H3 (.cells (List.toArray (reps (toNat 1) (Array.toList #[.int .i64 0,.int .i64 0]))) 155) fun b6 H7=>alc H7 (.cells #[.slice (some ⟨b6,0,none⟩) (toNat 1) (toNat 1)] 154) fun b8 H9=> ∀X10:Kl,(∀(s11:Int) H12,(br (decide (s11<(le1l:Int))) (∃a13,le1p=some a13∧0≤s11∧s11<(le1l:Int)∧ ∃n14,cell H12 (.add a13 (toNat s11*1))=some (.int .i64 n14)∧ ∀X15:Kl,(∀(at_16 k17:Int) H18,(br (decide (k17≥0)) (∃a19,r4p=some a19∧0≤s11∧s11<(r4l:Int)∧ ∃v20,cell H18 (.add a19 (toNat s11*1))=some (.int .i64 v20)∧0≤k17∧br (k17==0) (∃a21,(some ⟨b8,0,none⟩)=some a21∧ ∃no22p no22l no22c,cell H18 (.add a21 0)=some (.slice no22p no22l no22c)∧ ∃a23,no22p=some a23∧0≤at_16∧at_16<(no22l:Int)∧0≤(andI .i64 (shrI .i64 v20 k17) 1)∧(andI .i64 (shrI .i64 v20 k17) 1)<((2:Nat):Int)∧stAt H18 (.add (.add a23 (toNat at_16*2)) (toNat (andI .i64 (shrI .i64 v20 k17) 1)*1)) [.int .i64 (wrap .i64 ((-1:Int)-s11))] fun H24=>X10 [.int .i64 (wrap .i64 (s11+1))] H24) (∀J25:Kl,(∀H26,(∃a27,(some ⟨b8,0,none⟩)=some a27∧ ∃no28p no28l no28c,cell H26 (.add a27 0)=some (.slice no28p no28l no28c)∧ ∃a29,no28p=some a29∧0≤at_16∧at_16<(no28l:Int)∧0≤(andI .i64 (shrI .i64 v20 k17) 1)∧(andI .i64 (shrI .i64 v20 k17) 1)<((2:Nat):Int)∧ ∃at_30,cell H26 (.add (.add a29 (toNat at_16*2)) (toNat (andI .i64 (shrI .i64 v20 k17) 1)*1))=some (.int .i64 at_30)∧X15 [.int .i64 at_30,.int .i64 (wrap .i64 (k17-1))] H26)→J25 [] H26)→ ∃a31,(some ⟨b8,0,none⟩)=some a31∧ ∃no32p no32l no32c,cell H18 (.add a31 0)=some (.slice no32p no32l no32c)∧ ∃a33,no32p=some a33∧0≤at_16∧at_16<(no32l:Int)∧0≤(andI .i64 (shrI .i64 v20 k17) 1)∧(andI .i64 (shrI .i64 v20 k17) 1)<((2:Nat):Int)∧ ∃v34,cell H18 (.add (.add a33 (toNat at_16*2)) (toNat (andI .i64 (shrI .i64 v20 k17) 1)*1))=some (.int .i64 v34)∧br (v34==0) (∃a35,(some ⟨b8,0,none⟩)=some a35∧ ∃no36p no36l no36c,cell H18 (.add a35 0)=some (.slice no36p no36l no36c)∧#[Value.int .i64 0,Value.int .i64 0].size=2∧0+2≤2∧alc H18 (.cells (List.toArray (setL [.int .i64 0,.int .i64 0] 0 (Array.toList #[.int .i64 0,.int .i64 0]))) 155) fun b37 H38=>appQ 2 16 #[.int .i64 0,.int .i64 0] H38 no36p no36l no36c (some ⟨b37,0,none⟩) 1 155 fun ap39p ap39l ap39c H40=> ∃a41,(some ⟨b8,0,none⟩)=some a41∧stAt H40 (.add a41 0) [.slice ap39p ap39l ap39c] fun H42=> ∃a43,(some ⟨b8,0,none⟩)=some a43∧ ∃no44p no44l no44c,cell H42 (.add a43 0)=some (.slice no44p no44l no44c)∧ ∃a45,(some ⟨b8,0,none⟩)=some a45∧ ∃no46p no46l no46c,cell H42 (.add a45 0)=some (.slice no46p no46l no46c)∧ ∃a47,no44p=some a47∧0≤at_16∧at_16<(no44l:Int)∧0≤(andI .i64 (shrI .i64 v20 k17) 1)∧(andI .i64 (shrI .i64 v20 k17) 1)<((2:Nat):Int)∧stAt H42 (.add (.add a47 (toNat at_16*2)) (toNat (andI .i64 (shrI .i64 v20 k17) 1)*1)) [.int .i64 (wrap .i64 ((no46l:Int)-1))] fun H48=>J25 [] H48) (J25 [] H18))) (X10 [.int .i64 (wrap .i64 (s11+1))] H18))→X15 [.int .i64 at_16,.int .i64 k17] H18)→X15 [.int .i64 0,.int .i64 (wrap .i64 (n14-1))] H12) (R (.tuple #[.pointer (some ⟨b8,0,none⟩),.bool true]) H12))→X10 [.int .i64 s11] H12)→X10 [.int .i64 0] H9)
def Tryz.p74:Plan:=(tl (tl (tg (tl (two (tl (one (loop [(24,3)] [4,6,22,23] (tl (two (tl leaf) (two (one (tl (tl (tl (one (loop [(9,3),(10,3)] [4,6,7,22,23,24] (two (tl (tl leaf)) (two (one (tl (tg (two (join [] [4,6,7,9,10,11,22,23,24] g0) leaf)))) leaf)))))))) leaf)))))) (tl leaf))))))
theorem Tryz.s74{le1p:OA}{le1l le1c:Nat}{H R}(h:Tryz.S74 le1p le1l le1c H R):Tryz.C 74 #[.slice le1p le1l le1c] H R:=vcs Tryz.tab_ok Tryz.mixed Tryz.func74 Tryz.cal74 Tryz.p74 h (by kernel_rfl)
def Tryz.S75(f1 li2 di3:OA)(H:Heap)(R:Kv):Prop:=
 ∀X4:Kl,(∀H5,(∃a6,f1=some a6∧ ∃e7,cell H5 (.add a6 3)=some (.int .i64 e7)∧br (e7 != 0) (R (.tuple #[]) H5) (Tryz.C 102 #[.pointer f1,.pointer li2] H5 fun r8 H9=> ∃s10,r8= .int .i64 s10∧ ∃a11,f1=some a11∧ ∃e12,cell H9 (.add a11 3)=some (.int .i64 e12)∧br (e12 != 0) (R (.tuple #[]) H9) (br (s10==256) (R (.tuple #[]) H9) (br (decide (s10>256)) (Tryz.C 103 #[.pointer f1,.int .i64 s10,.pointer di3] H9 fun r13 H14=>r13= .tuple #[]∧X4 [] H14) (∃a15,f1=some a15∧ ∃ou16p ou16l ou16c,cell H9 (.add a15 1)=some (.slice ou16p ou16l ou16c)∧ ∃a17,f1=some a17∧ ∃mo18,cell H9 (.add a17 2)=some (.int .i64 mo18)∧br (decide (((ou16l:Int):Int)≥mo18)) (Tryz.C 77 #[.pointer f1,.int .i64 24] H9 fun r19 H20=>r19= .tuple #[]∧X4 [] H20) (∃a21,f1=some a21∧ ∃ou22p ou22l ou22c,cell H9 (.add a21 1)=some (.slice ou22p ou22l ou22c)∧alc H9 (.cells #[.int .u8 (wrap .u8 s10)] 5) fun b23 H24=>appQ 1 1 #[.int .u8 0] H24 ou22p ou22l ou22c (some ⟨b23,0,none⟩) 1 5 fun ap25p ap25l ap25c H26=> ∃a27,f1=some a27∧stAt H26 (.add a27 1) [.slice ap25p ap25l ap25c] fun H28=>X4 [] H28))))))→X4 [] H5)→X4 [] H
def Tryz.p75:Plan:=(scope [] [0,1,2] leaf (two (tl (tl leaf)) (tl (two (one (tl (tl (tl (tl (tl (tl leaf))))))) leaf))))
theorem Tryz.s75{f1 li2 di3:OA}{H R}(h:Tryz.S75 f1 li2 di3 H R):Tryz.C 75 #[.pointer f1,.pointer li2,.pointer di3] H R:=vcs Tryz.tab_ok Tryz.mixed Tryz.func75 Tryz.cal75 Tryz.p75 h (by kernel_rfl)
def Tryz.S76(f1:OA)(H:Heap)(R:Kv):Prop:=
 Tryz.C 72 #[.pointer f1,.int .i64 5] H fun r2 H3=> ∃hl4,r2= .int .i64 hl4∧Tryz.C 72 #[.pointer f1,.int .i64 5] H3 fun r5 H6=> ∃hd7,r5= .int .i64 hd7∧Tryz.C 72 #[.pointer f1,.int .i64 4] H6 fun r8 H9=> ∃hc10,r8= .int .i64 hc10∧ ∀J11:Kl,(∀H12,(0≤(19:Int)∧(19:Int)≤(19:Int)∧((8:Nat):Int)*(19:Int)≤281474976710656∧(19:Int)≤281474976710656∧alc H12 (.cells (List.toArray (reps (toNat 19) (Array.toList #[.int .i64 0]))) 3) fun b13 H14=>Tryz.C 92 #[] H14 fun r15 H16=> ∃r17p r17l r17c,r15= .slice r17p r17l r17c∧0≤(wrap .i64 (hc10+4))∧(wrap .i64 (hc10+4))≤(r17c:Int)∧ ∀X18:Kl,(∀(t19:Int) H20,(br (decide (t19<((((toNat (wrap .i64 (hc10+4)))-0):Nat):Int))) (∃a21,(if r17c=0 then r17p else Option.map (fun x=>Addr.add x (0*1)) r17p)=some a21∧0≤t19∧t19<((((toNat (wrap .i64 (hc10+4)))-0):Nat):Int)∧ ∃s22,cell H20 (.add a21 (toNat t19*1))=some (.int .i64 s22)∧Tryz.C 72 #[.pointer f1,.int .i64 3] H20 fun r23 H24=> ∃r25,r23= .int .i64 r25∧ ∃a26,(some ⟨b13,0,none⟩)=some a26∧0≤s22∧s22<(((toNat 19):Nat):Int)∧stAt H24 (.add a26 (toNat s22*1)) [.int .i64 r25] fun H27=>X18 [.int .i64 (wrap .i64 (t19+1))] H27) (∃a28,f1=some a28∧ ∃e29,cell H20 (.add a28 3)=some (.int .i64 e29)∧br (e29 != 0) (R (.tuple #[.pointer none,.pointer none]) H20) (Tryz.C 104 #[.pointer f1,.slice (some ⟨b13,0,none⟩) (toNat 19) (toNat 19),.bool false,.bool false] H20 fun r30 H31=> ∃d32,r30= .pointer d32∧ ∀J33:Kl,(∀(li34p:OA) (li34l li34c:Nat) H35,(∃a36,f1=some a36∧ ∃e37,cell H35 (.add a36 3)=some (.int .i64 e37)∧br (e37 != 0) (R (.tuple #[.pointer none,.pointer none]) H35) (0≤(wrap .i64 (hl4+257))∧(wrap .i64 (hl4+257))≤(li34c:Int)∧0≤(wrap .i64 (hl4+257))∧(wrap .i64 (hl4+257))≤(li34l:Int)∧Tryz.C 104 #[.pointer f1,.slice (if li34c=0 then li34p else Option.map (fun x=>Addr.add x (0*1)) li34p) ((toNat (wrap .i64 (hl4+257)))-0) (li34c-0),.bool true,.bool false] H35 fun r38 H39=> ∃li40,r38= .pointer li40∧Tryz.C 104 #[.pointer f1,.slice (if li34c=(toNat (wrap .i64 (hl4+257))) then li34p else Option.map (fun x=>Addr.add x ((toNat (wrap .i64 (hl4+257)))*1)) li34p) (li34l-(toNat (wrap .i64 (hl4+257)))) (li34c-(toNat (wrap .i64 (hl4+257)))),.bool true,.bool true] H39 fun r41 H42=> ∃di43,r41= .pointer di43∧R (.tuple #[.pointer li40,.pointer di43]) H42))→J33 [.slice li34p li34l li34c] H35)→ ∀X44:Kl,(∀(li45p:OA) (li45l li45c:Nat) H46,(∀J47:Kl,(∀H48,(Tryz.C 102 #[.pointer f1,.pointer d32] H48 fun r49 H50=> ∃s51,r49= .int .i64 s51∧ ∀J52:Kl,(∀(v53 n54:Int) H55,(∀J56:Kl,(∀H57,(∀X58:Kl,(∀(li59p:OA) (li59l li59c:Nat) (t60:Int) H61,(br (decide (t60<n54)) (alc H61 (.cells #[.int .i64 v53] 3) fun b62 H63=>appQ 1 8 #[.int .i64 0] H63 li59p li59l li59c (some ⟨b62,0,none⟩) 1 3 fun li64p li64l li64c H65=>X58 [.slice li64p li64l li64c,.int .i64 (wrap .i64 (t60+1))] H65) (X44 [.slice li59p li59l li59c] H61))→X58 [.slice li59p li59l li59c,.int .i64 t60] H61)→X58 [.slice li45p li45l li45c,.int .i64 0] H57)→J56 [] H57)→br (decide (n54>(wrap .i64 ((wrap .i64 ((wrap .i64 ((wrap .i64 (hl4+257))+hd7))+1))-(li45l:Int))))) (Tryz.C 77 #[.pointer f1,.int .i64 21] H55 fun r66 H67=>r66= .tuple #[]∧J56 [] H67) (J56 [] H55))→J52 [.int .i64 v53,.int .i64 n54] H55)→br (s51==16) (Tryz.C 72 #[.pointer f1,.int .i64 2] H50 fun r68 H69=> ∃r70,r68= .int .i64 r70∧br (((li45l:Int):Int)==0) (Tryz.C 77 #[.pointer f1,.int .i64 21] H69 fun r71 H72=>r71= .tuple #[]∧R (.tuple #[.pointer none,.pointer none]) H72) (∃a73,li45p=some a73∧0≤(wrap .i64 ((li45l:Int)-1))∧(wrap .i64 ((li45l:Int)-1))<(li45l:Int)∧ ∃v74,cell H69 (.add a73 (toNat (wrap .i64 ((li45l:Int)-1))*1))=some (.int .i64 v74)∧J52 [.int .i64 v74,.int .i64 (wrap .i64 ((3:Int)+r70))] H69)) (br (s51==17) (Tryz.C 72 #[.pointer f1,.int .i64 3] H50 fun r75 H76=> ∃r77,r75= .int .i64 r77∧J52 [.int .i64 0,.int .i64 (wrap .i64 ((3:Int)+r77))] H76) (br (s51==18) (Tryz.C 72 #[.pointer f1,.int .i64 7] H50 fun r78 H79=> ∃r80,r78= .int .i64 r80∧J52 [.int .i64 0,.int .i64 (wrap .i64 ((11:Int)+r80))] H79) (J52 [.int .i64 s51,.int .i64 1] H50))))→J47 [] H48)→br (decide (((li45l:Int):Int)<(wrap .i64 ((wrap .i64 ((wrap .i64 (hl4+257))+hd7))+1)))) (∃a81,f1=some a81∧ ∃e82,cell H46 (.add a81 3)=some (.int .i64 e82)∧br (e82==0) (J47 [] H46) (J33 [.slice li45p li45l li45c] H46)) (J33 [.slice li45p li45l li45c] H46))→X44 [.slice li45p li45l li45c] H46)→X44 [.slice none 0 0] H31)))→X18 [.int .i64 t19] H20)→X18 [.int .i64 0] H16)→J11 [] H12)→
 ∃a83,f1=some a83∧ ∃e84,cell H9 (.add a83 3)=some (.int .i64 e84)∧br (e84==0) (br (decide (hl4>29)) (Tryz.C 77 #[.pointer f1,.int .i64 25] H9 fun r85 H86=>r85= .tuple #[]∧J11 [] H86) (br (decide (hd7>29)) (Tryz.C 77 #[.pointer f1,.int .i64 25] H9 fun r87 H88=>r87= .tuple #[]∧J11 [] H88) (J11 [] H9))) (J11 [] H9)
def Tryz.p76:Plan:=(tl (tl (two (join [] [0,4,5,6] (tl (tl leaf))) (tl (two (tl (one (loop [(43,3)] [0,4,5,7,41,42] (tl (two (tl leaf) (two (one (tl leaf)) leaf)))))) (tg (tl (tl (two (join [(11,86)] [0,4] (tl (one (loop [(11,86)] [0,4,10,12] (two (join [] [0,4,10,11,12] (tl (tl leaf))) (one (tl (tl (two (join [(14,3),(15,3)] [0,4,10,11,12] (tl (one (tl (two (tl (two (tl (two (tl (tl leaf)) leaf)) leaf)) (tl (tl (tl (tl leaf))))))))) (two (join [] [0,4,10,11,12,14,15] (tl (tl leaf))) (tl (one (loop [(11,86),(117,3)] [0,4,10,12,14,116] (tl (two (tl leaf) (two (one leaf) leaf)))))))))))))))) (tg (tl leaf)))))))))))
theorem Tryz.s76{f1:OA}{H R}(h:Tryz.S76 f1 H R):Tryz.C 76 #[.pointer f1] H R:=vcs Tryz.tab_ok Tryz.mixed Tryz.func76 Tryz.cal76 Tryz.p76 h (by kernel_rfl)
def Tryz.S77(f1:OA)(e2:Int)(H:Heap)(R:Kv):Prop:=
 ∃a3,f1=some a3∧ ∃e4,cell H (.add a3 3)=some (.int .i64 e4)∧br (e4==0)
 (∃a5,f1=some a5∧stAt H (.add a5 3) [.int .i64 e2] fun H6=>R (.tuple #[]) H6)
 (R (.tuple #[]) H)
def Tryz.p77:Plan:=(tl (tl leaf))
theorem Tryz.s77{f1:OA}{e2:Int}{H R}(h:Tryz.S77 f1 e2 H R):Tryz.C 77 #[.pointer f1,.int .i64 e2] H R:=vcs Tryz.tab_ok Tryz.mixed Tryz.func77 Tryz.cal77 Tryz.p77 h (by kernel_rfl)
def Tryz.S78(r1:OA)(H:Heap)(R:Kv):Prop:=
 ∃a2,r1=some a2∧ ∃at_3,cell H (.add a2 1)=some (.int .i64 at_3)∧R (.int .i64 at_3) H
def Tryz.p78:Plan:=(tl (tl leaf))
theorem Tryz.s78{r1:OA}{H R}(h:Tryz.S78 r1 H R):Tryz.C 78 #[.pointer r1] H R:=vcs Tryz.tab_ok Tryz.mixed Tryz.func78 Tryz.cal78 Tryz.p78 h (by kernel_rfl)
def Tryz.S79(f1:OA)(at_2 ef3:Int)(H:Heap)(R:Kv):Prop:=
 ∃a4,f1=some a4∧ ∃b5p b5l b5c,cell H (.add a4 0)=some (.slice b5p b5l b5c)∧br (decide (((wrap .i64 (at_2+3)):Int)>(b5l:Int)))
 (R (.tuple #[.int .i64 0,.int .i64 0]) H)
 (∀J6:Kl,(∀(le7 di8:Int) H9,(R (.tuple #[.int .i64 le7,.int .i64 di8]) H9)→J6 [.int .i64 le7,.int .i64 di8] H9)→ ∃a10,f1=some a10∧ ∃fi11p fi11l fi11c,cell H (.add a10 1)=some (.slice fi11p fi11l fi11c)∧ ∃a12,f1=some a12∧ ∃b13p b13l b13c,cell H (.add a12 0)=some (.slice b13p b13l b13c)∧0≤at_2∧at_2≤(b13l:Int)∧Tryz.C 105 #[.slice (if b13c=(toNat at_2) then b13p else Option.map (fun x=>Addr.add x ((toNat at_2)*1)) b13p) (b13l-(toNat at_2)) (b13c-(toNat at_2))] H fun r14 H15=> ∃r16,r14= .int .i64 r16∧(Ext H H15∨(∃fi56p fi56l fi56c,cell H15 (.add a10 1)=some (.slice fi56p fi56l fi56c)∧Value.slice fi56p fi56l fi56c= .slice fi11p fi11l fi11c))∧ ∃a17,fi11p=some a17∧0≤r16∧r16<(fi11l:Int)∧ ∃p18,cell H15 (.add a17 (toNat r16*1))=some (.int .i64 p18)∧ ∀X19:Kl,(∀(le20 di21 tr22 p23:Int) H24,(∀J25:Kl,(∀H26,(∀J27:Kl,(∀(le28 di29 tr30:Int) H31,(∃a32,f1=some a32∧ ∃ah33p ah33l ah33c,cell H31 (.add a32 2)=some (.slice ah33p ah33l ah33c)∧ ∃a34,ah33p=some a34∧0≤(wrap .i64 (p23-1))∧(wrap .i64 (p23-1))<(ah33l:Int)∧ ∃p35,cell H31 (.add a34 (toNat (wrap .i64 (p23-1))*1))=some (.int .i64 p35)∧X19 [.int .i64 le28,.int .i64 di29,.int .i64 tr30,.int .i64 p35] H31)→J27 [.int .i64 le28,.int .i64 di29,.int .i64 tr30] H31)→ ∀J36:Kl,(∀(n37:Int) H38,(∀J39:Kl,(∀(le40 di41:Int) H42,(br (le40==258) (J6 [.int .i64 le40,.int .i64 di41] H42) (br (decide (le40>0)) (br (decide (((wrap .i64 (tr22+1)):Int)≥(wrap .i64 ((8:Int)*ef3)))) (J6 [.int .i64 le40,.int .i64 di41] H42) (J27 [.int .i64 le40,.int .i64 di41,.int .i64 (wrap .i64 (tr22+1))] H42)) (J27 [.int .i64 le40,.int .i64 di41,.int .i64 (wrap .i64 (tr22+1))] H42)))→J39 [.int .i64 le40,.int .i64 di41] H42)→br (decide (n37≥3)) (br (decide (n37>le20)) (J39 [.int .i64 n37,.int .i64 (wrap .i64 (at_2-(wrap .i64 (p23-1))))] H38) (J39 [.int .i64 le20,.int .i64 di21] H38)) (J39 [.int .i64 le20,.int .i64 di21] H38))→J36 [.int .i64 n37] H38)→ ∀X43:Kl,(∀(n44:Int) H45,(br (decide (n44<258)) (∃a46,f1=some a46∧ ∃b47p b47l b47c,cell H45 (.add a46 0)=some (.slice b47p b47l b47c)∧br (decide (((wrap .i64 (at_2+n44)):Int)<(b47l:Int))) (∃a48,f1=some a48∧ ∃b49p b49l b49c,cell H45 (.add a48 0)=some (.slice b49p b49l b49c)∧ ∃a50,b49p=some a50∧0≤(wrap .i64 ((wrap .i64 (p23-1))+n44))∧(wrap .i64 ((wrap .i64 (p23-1))+n44))<(b49l:Int)∧ ∃v51,cell H45 (.add a50 (toNat (wrap .i64 ((wrap .i64 (p23-1))+n44))*1))=some (.int .u8 v51)∧ ∃a52,f1=some a52∧ ∃b53p b53l b53c,cell H45 (.add a52 0)=some (.slice b53p b53l b53c)∧ ∃a54,b53p=some a54∧0≤(wrap .i64 (at_2+n44))∧(wrap .i64 (at_2+n44))<(b53l:Int)∧ ∃v55,cell H45 (.add a54 (toNat (wrap .i64 (at_2+n44))*1))=some (.int .u8 v55)∧br (v51==v55) (X43 [.int .i64 (wrap .i64 (n44+1))] H45) (J36 [.int .i64 n44] H45)) (J36 [.int .i64 n44] H45)) (J36 [.int .i64 n44] H45))→X43 [.int .i64 n44] H45)→X43 [.int .i64 0] H26)→J25 [] H26)→br (decide (p23>0)) (br (decide (((wrap .i64 (at_2-(wrap .i64 (p23-1)))):Int)≤32768)) (J25 [] H24) (J6 [.int .i64 le20,.int .i64 di21] H24)) (J6 [.int .i64 le20,.int .i64 di21] H24))→X19 [.int .i64 le20,.int .i64 di21,.int .i64 tr22,.int .i64 p23] H24)→X19 [.int .i64 0,.int .i64 0,.int .i64 0,.int .i64 p18] H15)
def Tryz.p79:Plan:=(tl (tg (tl (two (join [(6,3),(7,3)] [] (tl (one (loop [(6,3),(7,3),(8,3),(9,3)] [0,1,2] (two (join [] [0,1,2,6,7,8,9] (tl (tl leaf))) (two (join [(6,3),(7,3),(8,3)] [0,1,2,9] (one (tl (two (join [(10,3)] [0,1,2,6,7,8,9] (one (loop [(10,3)] [0,1,2,6,7,8,9] (two (tl (tl leaf)) (one leaf))))) (two (join [(6,3),(7,3)] [0,1,2,8,9] (tl (tl leaf))) (tl (tl (tl leaf)))))))) leaf)))))) (tl leaf)))))
theorem Tryz.s79{f1:OA}{at_2 ef3:Int}{H R}(h:Tryz.S79 f1 at_2 ef3 H R):Tryz.C 79 #[.pointer f1,.int .i64 at_2,.int .i64 ef3] H R:=vcs Tryz.tab_ok Tryz.mixed Tryz.func79 Tryz.cal79 Tryz.p79 h (by kernel_rfl)
def Tryz.S80(f1:OA)(at_2:Int)(H:Heap)(R:Kv):Prop:=
 ∃a3,f1=some a3∧ ∃b4p b4l b4c,cell H (.add a3 0)=some (.slice b4p b4l b4c)∧br (decide (((wrap .i64 (at_2+3)):Int)≤(b4l:Int)))
 (∃a5,f1=some a5∧ ∃b6p b6l b6c,cell H (.add a5 0)=some (.slice b6p b6l b6c)∧0≤at_2∧at_2≤(b6l:Int)∧Tryz.C 105 #[.slice (if b6c=(toNat at_2) then b6p else Option.map (fun x=>Addr.add x ((toNat at_2)*1)) b6p) (b6l-(toNat at_2)) (b6c-(toNat at_2))] H fun r7 H8=> ∃h9,r7= .int .i64 h9∧ ∃a10,f1=some a10∧ ∃ah11p ah11l ah11c,cell H8 (.add a10 2)=some (.slice ah11p ah11l ah11c)∧ ∃a12,f1=some a12∧ ∃fi13p fi13l fi13c,cell H8 (.add a12 1)=some (.slice fi13p fi13l fi13c)∧ ∃a14,f1=some a14∧ ∃fi15p fi15l fi15c,cell H8 (.add a14 1)=some (.slice fi15p fi15l fi15c)∧ ∃a16,fi15p=some a16∧0≤h9∧h9<(fi15l:Int)∧ ∃v17,cell H8 (.add a16 (toNat h9*1))=some (.int .i64 v17)∧ ∃a18,ah11p=some a18∧0≤at_2∧at_2<(ah11l:Int)∧stAt H8 (.add a18 (toNat at_2*1)) [.int .i64 v17] fun H19=> ∃a20,fi13p=some a20∧0≤h9∧h9<(fi13l:Int)∧stAt H19 (.add a20 (toNat h9*1)) [.int .i64 (wrap .i64 (at_2+1))] fun H21=>R (.tuple #[]) H21)
 (R (.tuple #[]) H)
def Tryz.p80:Plan:=g0
theorem Tryz.s80{f1:OA}{at_2:Int}{H R}(h:Tryz.S80 f1 at_2 H R):Tryz.C 80 #[.pointer f1,.int .i64 at_2] H R:=vcs Tryz.tab_ok Tryz.mixed Tryz.func80 Tryz.cal80 Tryz.p80 h (by kernel_rfl)
def Tryz.S81(w1:OA)(v2:Int)(H:Heap)(R:Kv):Prop:=
 ∀J3:Kl,(∀H4,(∃a5,w1=some a5∧ ∃b6p b6l b6c,cell H4 (.add a5 0)=some (.slice b6p b6l b6c)∧ ∃a7,w1=some a7∧ ∃n8,cell H4 (.add a7 1)=some (.int .i64 n8)∧(8:Int)≠0∧ ∃a9,b6p=some a9∧0≤(wrap .i64 (Int.tdiv n8 8))∧(wrap .i64 (Int.tdiv n8 8))<(b6l:Int)∧ ∃v10,cell H4 (.add a9 (toNat (wrap .i64 (Int.tdiv n8 8))*1))=some (.int .u8 v10)∧ ∃a11,w1=some a11∧ ∃n12,cell H4 (.add a11 1)=some (.int .i64 n12)∧ ∃a13,w1=some a13∧ ∃hi14,cell H4 (.add a13 2)=some (.bool hi14)∧Tryz.C 106 #[.int .i64 n12,.bool hi14] H4 fun r15 H16=> ∃r17,r15= .int .i64 r17∧(Ext H4 H16∨(∃v24,cell H16 (.add a9 (toNat (wrap .i64 (Int.tdiv n8 8))*1))=some (.int .u8 v24)∧Value.int .u8 v24= .int .u8 v10)∧(∃n25,cell H16 (.add a7 1)=some (.int .i64 n25)∧Value.int .i64 n25= .int .i64 n8)∧(∃b26p b26l b26c,cell H16 (.add a5 0)=some (.slice b26p b26l b26c)∧Value.slice b26p b26l b26c= .slice b6p b6l b6c))∧0≤r17∧ ∃a18,b6p=some a18∧0≤(wrap .i64 (Int.tdiv n8 8))∧(wrap .i64 (Int.tdiv n8 8))<(b6l:Int)∧stAt H16 (.add a18 (toNat (wrap .i64 (Int.tdiv n8 8))*1)) [.int .u8 (orI .u8 v10 (shlI .u8 (wrap .u8 (andI .i64 v2 1)) r17))] fun H19=> ∃a20,w1=some a20∧ ∃n21,cell H19 (.add a20 1)=some (.int .i64 n21)∧ ∃a22,w1=some a22∧stAt H19 (.add a22 1) [.int .i64 (wrap .i64 (n21+1))] fun H23=>R (.tuple #[]) H23)→J3 [] H4)→
 ∃a27,w1=some a27∧ ∃n28,cell H (.add a27 1)=some (.int .i64 n28)∧(8:Int)≠0∧br (((Int.tmod n28 8):Int)==0)
 (∃a29,w1=some a29∧ ∃b30p b30l b30c,cell H (.add a29 0)=some (.slice b30p b30l b30c)∧alc H (.cells #[.int .u8 0] 5) fun b31 H32=>appQ 1 1 #[.int .u8 0] H32 b30p b30l b30c (some ⟨b31,0,none⟩) 1 5 fun ap33p ap33l ap33c H34=> ∃a35,w1=some a35∧stAt H34 (.add a35 0) [.slice ap33p ap33l ap33c] fun H36=>J3 [] H36)
 (J3 [] H)
def Tryz.p81:Plan:=(two (join [] [0,1] (tl (tl leaf))) (tl leaf))
theorem Tryz.s81{w1:OA}{v2:Int}{H R}(h:Tryz.S81 w1 v2 H R):Tryz.C 81 #[.pointer w1,.int .i64 v2] H R:=vcs Tryz.tab_ok Tryz.mixed Tryz.func81 Tryz.cal81 Tryz.p81 h (by kernel_rfl)
def Tryz.S82(d1:AV)(co2 n3:Int)(H:Heap)(R:Kv):Prop:=
 alc H (.cells d1 84) fun b4 H5=> ∀X6:Kl,(∀(k7:Int) H8,(br (decide (k7≥0)) (∃Wr9,cell H8 (.add ⟨b4,0,none⟩ 0)=some (.pointer Wr9)∧0≤k7∧Tryz.C 54 #[.pointer Wr9,.int .i64 (andI .i64 (shrI .i64 co2 k7) 1),.int .i64 1] H8 fun r10 H11=> ∃r12,r10= .bool r12∧X6 [.int .i64 (wrap .i64 (k7-1))] H11) (R (.tuple #[]) H8))→X6 [.int .i64 k7] H8)→X6 [.int .i64 (wrap .i64 (n3-1))] H5
def Tryz.p82:Plan:=(tl (tl (one (loop [(6,3)] [1,3] (two (tl (tl leaf)) (two (one leaf) leaf))))))
theorem Tryz.s82{d1:AV}{co2 n3:Int}{H R}(h:Tryz.S82 d1 co2 n3 H R):Tryz.C 82 #[.agg d1,.int .i64 co2,.int .i64 n3] H R:=vcs Tryz.tab_ok Tryz.mixed Tryz.func82 Tryz.cal82 Tryz.p82 h (by kernel_rfl)
def Tryz.S83(n1:Int)(H:Heap)(R:Kv):Prop:=
 br (n1==258)
 (R (.tuple #[.int .i64 285,.int .i64 0,.int .i64 0]) H)
 (Tryz.C 84 #[.int .i64 n1,.int .i64 257,.int .i64 284,.func (.func 107) #[] #[]] H fun r2 H3=> ∃r4 r5 r6,r2= .tuple #[.int .i64 r4,.int .i64 r5,.int .i64 r6]∧R (.tuple #[.int .i64 r4,.int .i64 r5,.int .i64 r6]) H3)
def Tryz.p83:Plan:=(tl (tg (tl leaf)))
theorem Tryz.s83{n1:Int}{H R}(h:Tryz.S83 n1 H R):Tryz.C 83 #[.int .i64 n1] H R:=vcs Tryz.tab_ok Tryz.mixed Tryz.func83 Tryz.cal83 Tryz.p83 h (by kernel_rfl)
def Tryz.S84(v1 from_2 to3:Int)(ba4g:Nat)(ba4x ba4y:AV)(H:Heap)(R:Kv):Prop:=
 ∀X5:Kl,(∀(s6:Int) H7,(Tryz.C ba4g (List.toArray (Array.toList ba4x++[Value.int .i64 s6]++Array.toList ba4y)) H7 fun r8 H9=> ∃r10 r11,r8= .tuple #[.int .i64 r10,.int .i64 r11]∧br (decide (r10≤v1)) (br (decide (s6≥from_2)) (R (.tuple #[.int .i64 s6,.int .i64 (wrap .i64 (v1-r10)),.int .i64 r11]) H9) (X5 [.int .i64 (wrap .i64 (s6-1))] H9)) (X5 [.int .i64 (wrap .i64 (s6-1))] H9))→X5 [.int .i64 s6] H7)→X5 [.int .i64 to3] H
def Tryz.p84:Plan:=(tl (tl (one (loop [(11,3)] [0,1,3] (one (tl (tg leaf)))))))
theorem Tryz.s84{v1 from_2 to3:Int}{ba4g:Nat}{ba4x ba4y:AV}{H R}(h:Tryz.S84 v1 from_2 to3 ba4g ba4x ba4y H R):Tryz.C 84 #[.int .i64 v1,.int .i64 from_2,.int .i64 to3,.func (.func ba4g) ba4x ba4y] H R:=vcs Tryz.tab_ok Tryz.mixed Tryz.func84 Tryz.cal84 Tryz.p84 h (by kernel_rfl)
def Tryz.S85(s1:Int)(H:Heap)(R:Kv):Prop:=
 br (decide (s1<4))
 (R (.tuple #[.int .i64 (wrap .i64 ((1:Int)+s1)),.int .i64 0]) H)
 ((2:Int)≠0∧(2:Int)≠0∧0≤(wrap .i64 ((wrap .i64 (Int.tdiv s1 2))-1))∧R (.tuple #[.int .i64 (wrap .i64 ((1:Int)+(shlI .i64 (wrap .i64 ((2:Int)+(Int.tmod s1 2))) (wrap .i64 ((wrap .i64 (Int.tdiv s1 2))-1))))),.int .i64 (wrap .i64 ((wrap .i64 (Int.tdiv s1 2))-1))]) H)
def Tryz.p85:Plan:=(tl (tg (tl (tl leaf))))
theorem Tryz.s85{s1:Int}{H R}(h:Tryz.S85 s1 H R):Tryz.C 85 #[.int .i64 s1] H R:=vcs Tryz.tab_ok Tryz.mixed Tryz.func85 Tryz.cal85 Tryz.p85 h (by kernel_rfl)
def Tryz.S86(le1p:OA)(le1l le1c:Nat)(H:Heap)(R:Kv):Prop:=
 Tryz.C 108 #[.slice le1p le1l le1c] H fun r2 H3=> ∃r4 r5,r2= .tuple #[.int .i64 r4,.bool r5]∧ ∀J6:Kl,(∀H7,(0≤(le1l:Int)∧(le1l:Int)≤(le1l:Int)∧((8:Nat):Int)*(le1l:Int)≤281474976710656∧(le1l:Int)≤281474976710656∧alc H7 (.cells (List.toArray (reps (toNat (le1l:Int)) (Array.toList #[.int .i64 0]))) 3) fun b8 H9=> ∀X10:Kl,(∀(ne11 n12:Int) H13,(br (decide (n12≤16)) (0≤(1:Int)∧ ∀X14:Kl,(∀(ne15 s16:Int) H17,(br (decide (s16<(le1l:Int))) (∃a18,le1p=some a18∧0≤s16∧s16<(le1l:Int)∧ ∃l19,cell H17 (.add a18 (toNat s16*1))=some (.int .i64 l19)∧br (l19==n12) (∃a20,(some ⟨b8,0,none⟩)=some a20∧0≤s16∧s16<(((toNat (le1l:Int)):Nat):Int)∧stAt H17 (.add a20 (toNat s16*1)) [.int .i64 ne15] fun H21=>X14 [.int .i64 (wrap .i64 (ne15+1)),.int .i64 (wrap .i64 (s16+1))] H21) (X14 [.int .i64 ne15,.int .i64 (wrap .i64 (s16+1))] H17)) (X10 [.int .i64 ne15,.int .i64 (wrap .i64 (n12+1))] H17))→X14 [.int .i64 ne15,.int .i64 s16] H17)→X14 [.int .i64 (shlI .i64 ne11 1),.int .i64 0] H13) (R (.tuple #[.slice (some ⟨b8,0,none⟩) (toNat (le1l:Int)) (toNat (le1l:Int)),.bool true]) H13))→X10 [.int .i64 ne11,.int .i64 n12] H13)→X10 [.int .i64 0,.int .i64 1] H9)→J6 [] H7)→
 br (!r5) (R (.tuple #[.slice none 0 0,.bool false]) H3) (br (decide (r4>65536)) (R (.tuple #[.slice none 0 0,.bool false]) H3) (J6 [] H3))
def Tryz.p86:Plan:=(tl (tl (two (join [] [0] g0) (tl (tl (two (tl (one (loop [(7,3),(8,3)] [0,6] (two (tl (tl leaf)) (two (one (tl (tl (one (loop [(7,3),(33,3)] [0,6,8,31,32] (tl (two (tl leaf) (two (one (tl g0)) leaf)))))))) leaf))))) (tl leaf)))))))
theorem Tryz.s86{le1p:OA}{le1l le1c:Nat}{H R}(h:Tryz.S86 le1p le1l le1c H R):Tryz.C 86 #[.slice le1p le1l le1c] H R:=vcs Tryz.tab_ok Tryz.mixed Tryz.func86 Tryz.cal86 Tryz.p86 h (by kernel_rfl)
def Tryz.S87(li1p:OA)(li1l li1c:Nat)(H:Heap)(R:Kv):Prop:=
 ∀J2:Kl,(∀(li3p:OA) (li3l li3c:Nat) (di4p:OA) (di4l di4c:Nat) H5,(∃a6,li3p=some a6∧0≤(256:Int)∧(256:Int)<(li3l:Int)∧stAt H5 (.add a6 (toNat (256:Int)*1)) [.int .i64 1] fun H7=> ∀X8:Kl,(∀(t9:Int) H10,(br (decide (t9<(li1l:Int))) (∃a11,li1p=some a11∧0≤t9∧t9<(li1l:Int)∧ ∃v12,v12.size=3∧rowIn H10 (.add a11 (toNat t9*3)) v12∧alc H10 (.cells #[.int .i64 0,.int .i64 0,.int .u8 0] 120) fun b13 H14=>v12.size=3∧stAt H14 ⟨b13,0,none⟩ v12.toList fun H15=> ∃Le16,cell H15 (.add ⟨b13,0,none⟩ 0)=some (.int .i64 Le16)∧br (Le16==0) (∃Li17,cell H15 (.add ⟨b13,0,none⟩ 2)=some (.int .u8 Li17)∧ ∃a18,li3p=some a18∧0≤Li17∧Li17<(li3l:Int)∧ ∃v19,cell H15 (.add a18 (toNat Li17*1))=some (.int .i64 v19)∧ ∃a20,li3p=some a20∧0≤Li17∧Li17<(li3l:Int)∧stAt H15 (.add a20 (toNat Li17*1)) [.int .i64 (wrap .i64 (v19+1))] fun H21=>X8 [.int .i64 (wrap .i64 (t9+1))] H21) (∃Le22,cell H15 (.add ⟨b13,0,none⟩ 0)=some (.int .i64 Le22)∧Tryz.C 83 #[.int .i64 Le22] H15 fun r23 H24=> ∃r25 r26 r27,r23= .tuple #[.int .i64 r25,.int .i64 r26,.int .i64 r27]∧ ∃a28,li3p=some a28∧0≤r25∧r25<(li3l:Int)∧ ∃v29,cell H24 (.add a28 (toNat r25*1))=some (.int .i64 v29)∧ ∃a30,li3p=some a30∧0≤r25∧r25<(li3l:Int)∧stAt H24 (.add a30 (toNat r25*1)) [.int .i64 (wrap .i64 (v29+1))] fun H31=> ∃Di32,cell H31 (.add ⟨b13,0,none⟩ 1)=some (.int .i64 Di32)∧Tryz.C 84 #[.int .i64 Di32,.int .i64 0,.int .i64 29,.func (.func 85) #[] #[]] H31 fun r33 H34=> ∃r35 r36 r37,r33= .tuple #[.int .i64 r35,.int .i64 r36,.int .i64 r37]∧ ∃a38,di4p=some a38∧0≤r35∧r35<(di4l:Int)∧ ∃v39,cell H34 (.add a38 (toNat r35*1))=some (.int .i64 v39)∧ ∃a40,di4p=some a40∧0≤r35∧r35<(di4l:Int)∧stAt H34 (.add a40 (toNat r35*1)) [.int .i64 (wrap .i64 (v39+1))] fun H41=>X8 [.int .i64 (wrap .i64 (t9+1))] H41)) (R (.tuple #[.slice li3p li3l li3c,.slice di4p di4l di4c]) H10))→X8 [.int .i64 t9] H10)→X8 [.int .i64 0] H7)→J2 [.slice li3p li3l li3c,.slice di4p di4l di4c] H5)→
 (0≤(286:Int)∧(286:Int)≤(286:Int)∧((8:Nat):Int)*(286:Int)≤281474976710656∧(286:Int)≤281474976710656∧alc H (.cells (List.toArray (reps (toNat 286) (Array.toList #[.int .i64 0]))) 3) fun b42 H43=>0≤(30:Int)∧(30:Int)≤(30:Int)∧((8:Nat):Int)*(30:Int)≤281474976710656∧(30:Int)≤281474976710656∧alc H43 (.cells (List.toArray (reps (toNat 30) (Array.toList #[.int .i64 0]))) 3) fun b44 H45=>J2 [.slice (some ⟨b42,0,none⟩) (toNat 286) (toNat 286),.slice (some ⟨b44,0,none⟩) (toNat 30) (toNat 30)] H45)∧(0≤(30:Int)∧(30:Int)≤(30:Int)∧((8:Nat):Int)*(30:Int)≤281474976710656∧(30:Int)≤281474976710656∧alc H (.cells (List.toArray (reps (toNat 30) (Array.toList #[.int .i64 0]))) 3) fun b46 H47=>0≤(286:Int)∧(286:Int)≤(286:Int)∧((8:Nat):Int)*(286:Int)≤281474976710656∧(286:Int)≤281474976710656∧alc H47 (.cells (List.toArray (reps (toNat 286) (Array.toList #[.int .i64 0]))) 3) fun b48 H49=>J2 [.slice (some ⟨b48,0,none⟩) (toNat 286) (toNat 286),.slice (some ⟨b46,0,none⟩) (toNat 30) (toNat 30)] H49)
def Tryz.p87:Plan:=(tl (two (join [(2,86),(3,86)] [0] leaf) (tl (two (tl (one (loop [(15,3)] [2,3,13,14] (tl (two (tl leaf) (two (one (tl (tg (tl (tl (tl leaf)))))) leaf)))))) (tl leaf)))))
theorem Tryz.s87{li1p:OA}{li1l li1c:Nat}{H R}(h:Tryz.S87 li1p li1l li1c H R):Tryz.C 87 #[.slice li1p li1l li1c] H R:=vcs Tryz.tab_ok Tryz.mixed Tryz.func87 Tryz.cal87 Tryz.p87 h (by kernel_rfl)
def Tryz.S88(co1p:OA)(co1l co1c:Nat)(H:Heap)(R:Kv):Prop:=
 Tryz.C 109 #[.slice co1p co1l co1c] H fun r2 H3=> ∃co4p co4l co4c,r2= .slice co4p co4l co4c∧ ∀X5:Kl,(∀(n6 t7:Int) H8,(br (decide (t7<(co4l:Int))) (∃a9,co4p=some a9∧0≤t7∧t7<(co4l:Int)∧ ∃c10,cell H8 (.add a9 (toNat t7*1))=some (.int .i64 c10)∧br (decide (c10>0)) (X5 [.int .i64 (wrap .i64 (n6+1)),.int .i64 (wrap .i64 (t7+1))] H8) (X5 [.int .i64 n6,.int .i64 (wrap .i64 (t7+1))] H8)) (∀X11:Kl,(∀(n12 s13:Int) H14,(br (decide (n12<2)) (∃a15,co4p=some a15∧0≤s13∧s13<(co4l:Int)∧ ∃v16,cell H14 (.add a15 (toNat s13*1))=some (.int .i64 v16)∧br (v16==0) (∃a17,co4p=some a17∧0≤s13∧s13<(co4l:Int)∧stAt H14 (.add a17 (toNat s13*1)) [.int .i64 1] fun H18=>X11 [.int .i64 (wrap .i64 (n12+1)),.int .i64 (wrap .i64 (s13+1))] H18) (X11 [.int .i64 n12,.int .i64 (wrap .i64 (s13+1))] H14)) (Tryz.C 90 #[.slice co4p co4l co4c,.int .i64 15] H14 fun r19 H20=> ∃r21p r21l r21c r22,r19= .tuple #[.slice r21p r21l r21c,.bool r22]∧R (.slice r21p r21l r21c) H20))→X11 [.int .i64 n12,.int .i64 s13] H14)→X11 [.int .i64 n6,.int .i64 0] H8))→X5 [.int .i64 n6,.int .i64 t7] H8)→X5 [.int .i64 0,.int .i64 0] H3
def Tryz.p88:Plan:=(tl (tl (tl (two (tl (one (loop [(3,3),(13,3)] [0,11,12] (tl (two (tl leaf) (two (one (tl (tl (tl leaf)))) leaf)))))) (two (tl (one (loop [(3,3),(6,3)] [0] (two (tl (tl leaf)) (two (one g0) leaf))))) (tl (tl leaf)))))))
theorem Tryz.s88{co1p:OA}{co1l co1c:Nat}{H R}(h:Tryz.S88 co1p co1l co1c H R):Tryz.C 88 #[.slice co1p co1l co1c] H R:=vcs Tryz.tab_ok Tryz.mixed Tryz.func88 Tryz.cal88 Tryz.p88 h (by kernel_rfl)
def Tryz.S89(sl1p:OA)(sl1l sl1c:Nat)(H:Heap)(R:Kv):Prop:=
 ∀X2:Kl,(∀(si3 t4:Int) H5,(br (decide (t4<(sl1l:Int))) (∃a6,sl1p=some a6∧0≤t4∧t4<(sl1l:Int)∧ ∃s7p s7l s7c,cell H5 (.add a6 (toNat t4*1))=some (.slice s7p s7l s7c)∧br (decide (((wrap .i64 (si3+(s7l:Int))):Int)<0)) (False) (X2 [.int .i64 (wrap .i64 (si3+(s7l:Int))),.int .i64 (wrap .i64 (t4+1))] H5)) (Tryz.C 110 #[.slice none 0 0,.int .i64 si3] H5 fun r8 H9=> ∃ne10p ne10l ne10c,r8= .slice ne10p ne10l ne10c∧ ∀X11:Kl,(∀(ne12p:OA) (ne12l ne12c:Nat) (t13:Int) H14,(br (decide (t13<(sl1l:Int))) (∃a15,sl1p=some a15∧0≤t13∧t13<(sl1l:Int)∧ ∃s16p s16l s16c,cell H14 (.add a15 (toNat t13*1))=some (.slice s16p s16l s16c)∧appQ 1 8 #[.int .i64 0] H14 ne12p ne12l ne12c s16p s16l 3 fun ne17p ne17l ne17c H18=>X11 [.slice ne17p ne17l ne17c,.int .i64 (wrap .i64 (t13+1))] H18) (R (.slice ne12p ne12l ne12c) H14))→X11 [.slice ne12p ne12l ne12c,.int .i64 t13] H14)→X11 [.slice ne10p ne10l ne10c,.int .i64 0] H9))→X2 [.int .i64 si3,.int .i64 t4] H5)→X2 [.int .i64 0,.int .i64 0] H
def Tryz.p89:Plan:=(tl (tl (two (tl (one (loop [(3,3),(11,3)] [0,9,10] (tl (two (tl leaf) (two (one (tl (tl (tl (tl leaf))))) leaf)))))) (tl (two (tl (one (loop [(6,86),(27,3)] [25,26] (tl (two (tl leaf) (two (one (tl leaf)) leaf)))))) (tl leaf))))))
theorem Tryz.s89{sl1p:OA}{sl1l sl1c:Nat}{H R}(h:Tryz.S89 sl1p sl1l sl1c H R):Tryz.C 89 #[.slice sl1p sl1l sl1c] H R:=vcs Tryz.tab_ok Tryz.mixed Tryz.func89 Tryz.cal89 Tryz.p89 h (by kernel_rfl)
def Tryz.S90(co1p:OA)(co1l co1c:Nat)(mo2:Int)(H:Heap)(R:Kv):Prop:=
 ∀J3:Kl,(∀H4,(∀X5:Kl,(∀(le6p:OA) (le6l le6c:Nat) (s7:Int) H8,(br (decide (s7<(co1l:Int))) (∃a9,co1p=some a9∧0≤s7∧s7<(co1l:Int)∧ ∃n10,cell H8 (.add a9 (toNat s7*1))=some (.int .i64 n10)∧ ∀J11:Kl,(∀H12,(br (decide (n10>0)) (alc H12 (.cells #[.int .i64 s7] 3) fun b13 H14=>#[Value.int .i64 n10,Value.slice (some ⟨b13,0,none⟩) 1 1].size=2∧0+2≤2∧alc H14 (.cells (List.toArray (setL [.int .i64 0,.slice none 0 0] 0 (Array.toList #[.int .i64 n10,.slice (some ⟨b13,0,none⟩) 1 1]))) 165) fun b15 H16=>appQ 2 32 #[.int .i64 0,.slice none 0 0] H16 le6p le6l le6c (some ⟨b15,0,none⟩) 1 165 fun le17p le17l le17c H18=>X5 [.slice le17p le17l le17c,.int .i64 (wrap .i64 (s7+1))] H18) (X5 [.slice le6p le6l le6c,.int .i64 (wrap .i64 (s7+1))] H12))→J11 [] H12)→br (decide (n10<0)) (R (.tuple #[.slice none 0 0,.bool false]) H8) (br (decide (n10>1099511627776)) (R (.tuple #[.slice none 0 0,.bool false]) H8) (J11 [] H8))) (0≤(co1l:Int)∧(co1l:Int)≤(co1l:Int)∧((8:Nat):Int)*(co1l:Int)≤281474976710656∧(co1l:Int)≤281474976710656∧alc H8 (.cells (List.toArray (reps (toNat (co1l:Int)) (Array.toList #[.int .i64 0]))) 3) fun b19 H20=>0≤mo2∧br (decide (((le6l:Int):Int)>(shlI .i64 1 mo2))) (R (.tuple #[.slice none 0 0,.bool false]) H20) (br (((le6l:Int):Int)==1) (∃a21,le6p=some a21∧0≤(0:Int)∧(0:Int)<(le6l:Int)∧ ∃sy22p sy22l sy22c,cell H20 (.add (.add a21 (toNat (0:Int)*2)) 1)=some (.slice sy22p sy22l sy22c)∧ ∃a23,sy22p=some a23∧0≤(0:Int)∧(0:Int)<(sy22l:Int)∧ ∃v24,cell H20 (.add a23 (toNat (0:Int)*1))=some (.int .i64 v24)∧ ∃a25,(some ⟨b19,0,none⟩)=some a25∧0≤v24∧v24<(((toNat (co1l:Int)):Nat):Int)∧stAt H20 (.add a25 (toNat v24*1)) [.int .i64 1] fun H26=>R (.tuple #[.slice (some ⟨b19,0,none⟩) (toNat (co1l:Int)) (toNat (co1l:Int)),.bool true]) H26) (Tryz.C 111 #[.slice le6p le6l le6c,.func (.func 112) #[] #[]] H20 fun r27 H28=>r27= .tuple #[]∧ ∀X29:Kl,(∀(ro30p:OA) (ro30l ro30c:Nat) (t31:Int) H32,(br (decide (t31<mo2)) (Tryz.C 114 #[.slice ro30p ro30l ro30c] H32 fun r33 H34=> ∃r35p r35l r35c,r33= .slice r35p r35l r35c∧Tryz.C 113 #[.slice le6p le6l le6c,.slice r35p r35l r35c] H34 fun r36 H37=> ∃ro38p ro38l ro38c,r36= .slice ro38p ro38l ro38c∧X29 [.slice ro38p ro38l ro38c,.int .i64 (wrap .i64 (t31+1))] H37) (0≤(max 0 (wrap .i64 ((wrap .i64 ((2:Int)*(le6l:Int)))-2)))∧(max 0 (wrap .i64 ((wrap .i64 ((2:Int)*(le6l:Int)))-2)))≤(ro30c:Int)∧ ∀X39:Kl,(∀(t40:Int) H41,(br (decide (t40<((((toNat (max 0 (wrap .i64 ((wrap .i64 ((2:Int)*(le6l:Int)))-2))))-0):Nat):Int))) (∃a42,(if ro30c=0 then ro30p else Option.map (fun x=>Addr.add x (0*2)) ro30p)=some a42∧0≤t40∧t40<((((toNat (max 0 (wrap .i64 ((wrap .i64 ((2:Int)*(le6l:Int)))-2))))-0):Nat):Int)∧ ∃v43,v43.size=2∧rowIn H41 (.add a42 (toNat t40*2)) v43∧alc H41 (.cells #[.int .i64 0,.slice none 0 0] 165) fun b44 H45=>v43.size=2∧stAt H45 ⟨b44,0,none⟩ v43.toList fun H46=> ∃sy47p sy47l sy47c,cell H46 (.add ⟨b44,0,none⟩ 1)=some (.slice sy47p sy47l sy47c)∧ ∀X48:Kl,(∀(t49:Int) H50,(br (decide (t49<(sy47l:Int))) (∃a51,sy47p=some a51∧0≤t49∧t49<(sy47l:Int)∧ ∃s52,cell H50 (.add a51 (toNat t49*1))=some (.int .i64 s52)∧ ∃a53,(some ⟨b19,0,none⟩)=some a53∧0≤s52∧s52<(((toNat (co1l:Int)):Nat):Int)∧ ∃v54,cell H50 (.add a53 (toNat s52*1))=some (.int .i64 v54)∧ ∃a55,(some ⟨b19,0,none⟩)=some a55∧0≤s52∧s52<(((toNat (co1l:Int)):Nat):Int)∧stAt H50 (.add a55 (toNat s52*1)) [.int .i64 (wrap .i64 (v54+1))] fun H56=>X48 [.int .i64 (wrap .i64 (t49+1))] H56) (X39 [.int .i64 (wrap .i64 (t40+1))] H50))→X48 [.int .i64 t49] H50)→X48 [.int .i64 0] H46) (R (.tuple #[.slice (some ⟨b19,0,none⟩) (toNat (co1l:Int)) (toNat (co1l:Int)),.bool true]) H41))→X39 [.int .i64 t40] H41)→X39 [.int .i64 0] H32))→X29 [.slice ro30p ro30l ro30c,.int .i64 t31] H32)→X29 [.slice none 0 0,.int .i64 0] H28))))→X5 [.slice le6p le6l le6c,.int .i64 s7] H8)→X5 [.slice none 0 0,.int .i64 0] H4)→J3 [] H4)→
 br (decide (mo2<1)) (R (.tuple #[.slice none 0 0,.bool false]) H) (br (decide (mo2>16)) (R (.tuple #[.slice none 0 0,.bool false]) H) (br (decide (((co1l:Int):Int)>300)) (R (.tuple #[.slice none 0 0,.bool false]) H) (J3 [] H)))
def Tryz.p90:Plan:=(tl (two (join [] [0,1] g0) (tl (two (tl (one (loop [(6,163),(29,3)] [0,1,27,28] (tl (two (tl leaf) (two (one (tl (two (join [] [0,1,6,7,8,27,28,29] g0) (tl (tl leaf))))) leaf)))))) (tl (two (tl (one (tl (two (tl leaf) (tl (two (tl (tl leaf)) leaf)))))) (tl (tl (two (tl (one (loop [(11,163),(75,3)] [6,9,74] (tl (two (tl leaf) (two (one leaf) leaf)))))) (two (tl (one (loop [(90,3)] [9,88,89] (tl (two (tl leaf) (two (one (tl (tl (one (loop [(97,3)] [9,88,89,90,95,96] (tl (two (tl leaf) (two (one (tl leaf)) leaf)))))))) leaf)))))) (tl leaf)))))))))))
theorem Tryz.s90{co1p:OA}{co1l co1c:Nat}{mo2:Int}{H R}(h:Tryz.S90 co1p co1l co1c mo2 H R):Tryz.C 90 #[.slice co1p co1l co1c,.int .i64 mo2] H R:=vcs Tryz.tab_ok Tryz.mixed Tryz.func90 Tryz.cal90 Tryz.p90 h (by kernel_rfl)
def Tryz.S91(co1p:OA)(co1l co1c:Nat)(H:Heap)(R:Kv):Prop:=
 ∀X2:Kl,(∀(n3 t4:Int) H5,(br (decide (t4<(co1l:Int))) (∃a6,co1p=some a6∧0≤t4∧t4<(co1l:Int)∧ ∃c7,cell H5 (.add a6 (toNat t4*1))=some (.int .i64 c7)∧X2 [.int .i64 (wrap .i64 (n3+(min c7 1))),.int .i64 (wrap .i64 (t4+1))] H5) (∀X8:Kl,(∀(n9 s10:Int) H11,(br (decide (n9<2)) (∃a12,co1p=some a12∧0≤s10∧s10<(co1l:Int)∧ ∃v13,cell H11 (.add a12 (toNat s10*1))=some (.int .i64 v13)∧br (v13==0) (∃a14,co1p=some a14∧0≤s10∧s10<(co1l:Int)∧ ∃v15,cell H11 (.add a14 (toNat s10*1))=some (.int .i64 v15)∧ ∃a16,co1p=some a16∧0≤s10∧s10<(co1l:Int)∧stAt H11 (.add a16 (toNat s10*1)) [.int .i64 (wrap .i64 (v15+1))] fun H17=>X8 [.int .i64 (wrap .i64 (n9+1)),.int .i64 (wrap .i64 (s10+1))] H17) (X8 [.int .i64 n9,.int .i64 (wrap .i64 (s10+1))] H11)) (R (.slice co1p co1l co1c) H11))→X8 [.int .i64 n9,.int .i64 s10] H11)→X8 [.int .i64 n3,.int .i64 0] H5))→X2 [.int .i64 n3,.int .i64 t4] H5)→X2 [.int .i64 0,.int .i64 0] H
def Tryz.p91:Plan:=(tl (tl (two (tl (one (loop [(3,3),(9,3)] [0,7,8] (tl (two (tl leaf) (two (one (tl leaf)) leaf)))))) (two (tl (one (loop [(3,3),(6,3)] [0] (two (tl (tl leaf)) (two (one g0) leaf))))) (tl leaf)))))
theorem Tryz.s91{co1p:OA}{co1l co1c:Nat}{H R}(h:Tryz.S91 co1p co1l co1c H R):Tryz.C 91 #[.slice co1p co1l co1c] H R:=vcs Tryz.tab_ok Tryz.mixed Tryz.func91 Tryz.cal91 Tryz.p91 h (by kernel_rfl)
def Tryz.S92(H:Heap)(R:Kv):Prop:=
 alc H (.cells #[.int .i64 16,.int .i64 17,.int .i64 18,.int .i64 0,.int .i64 8,.int .i64 7,.int .i64 9,.int .i64 6,.int .i64 10,.int .i64 5,.int .i64 11,.int .i64 4,.int .i64 12,.int .i64 3,.int .i64 13,.int .i64 2,.int .i64 14,.int .i64 1,.int .i64 15] 3) fun b1 H2=>R (.slice (some ⟨b1,0,none⟩) 19 19) H2
def Tryz.p92:Plan:=(tl (tl leaf))
theorem Tryz.s92{_u:Unit}{H R}(h:Tryz.S92 H R):Tryz.C 92 #[] H R:=vcs Tryz.tab_ok Tryz.mixed Tryz.func92 Tryz.cal92 Tryz.p92 h (by kernel_rfl)
def Tryz.S93(w1:OA)(v2:Int)(H:Heap)(R:Kv):Prop:=
 ∀X3:Kl,(∀H4,(∃a5,w1=some a5∧ ∃n6,cell H4 (.add a5 1)=some (.int .i64 n6)∧(8:Int)≠0∧br (((Int.tmod n6 8):Int) != 0) (Tryz.C 81 #[.pointer w1,.int .i64 v2] H4 fun r7 H8=>r7= .tuple #[]∧X3 [] H8) (R (.tuple #[]) H4))→X3 [] H4)→X3 [] H
def Tryz.p93:Plan:=(one (loop [] [0,1] (two (tl (tl leaf)) (one leaf))))
theorem Tryz.s93{w1:OA}{v2:Int}{H R}(h:Tryz.S93 w1 v2 H R):Tryz.C 93 #[.pointer w1,.int .i64 v2] H R:=vcs Tryz.tab_ok Tryz.mixed Tryz.func93 Tryz.cal93 Tryz.p93 h (by kernel_rfl)
def Tryz.S94(v1:Int)(ad2:Addr)(H:Heap)(R:Kv):Prop:=
 ∃v3,cell H ad2=some (.int .i64 v3)∧ ∃v4,cell H ad2=some (.int .i64 v4)∧R (.int .i64 (max (wrap .i64 (v3-(wrap .i64 v1))) (wrap .i64 ((wrap .i64 v1)-v4)))) H
def Tryz.p94:Plan:=(tl (tl leaf))
theorem Tryz.s94{v1:Int}{ad2:Addr}{H R}(h:Tryz.S94 v1 ad2 H R):Tryz.C 94 #[.int .u8 v1,.pointer (some ad2)] H R:=vcs Tryz.tab_ok Tryz.mixed Tryz.func94 Tryz.cal94 Tryz.p94 h (by kernel_rfl)
def Tryz.S95(l1p:OA)(l1l l1c:Nat)(H:Heap)(R:Kv):Prop:=
 alc H (.cells #[.slice none 0 0,.slice none 0 0,.int .i64 0,.bool false] 99) fun b2 H3=>Tryz.C 115 #[.slice l1p l1l l1c] H3 fun r4 H5=> ∃r6 r7,r4= .tuple #[.int .i64 r6,.bool r7]∧Tryz.C 116 #[.slice l1p l1l l1c] H5 fun r8 H9=> ∃r10p r10l r10c r11,r8= .tuple #[.slice r10p r10l r10c,.bool r11]∧#[Value.slice l1p l1l l1c,Value.slice r10p r10l r10c,Value.int .i64 r6,Value.bool r11].size=4∧stAt H9 ⟨b2,0,none⟩ (Array.toList #[.slice l1p l1l l1c,.slice r10p r10l r10c,.int .i64 r6,.bool r11]) fun H12=> ∃re13,re13.size=4∧rowIn H12 ⟨b2,0,none⟩ re13∧R (.agg re13) H12
def Tryz.p95:Plan:=(tl (tl (tl (tl leaf))))
theorem Tryz.s95{l1p:OA}{l1l l1c:Nat}{H R}(h:Tryz.S95 l1p l1l l1c H R):Tryz.C 95 #[.slice l1p l1l l1c] H R:=vcs Tryz.tab_ok Tryz.mixed Tryz.func95 Tryz.cal95 Tryz.p95 h (by kernel_rfl)
def Tryz.S96(r1:OA)(c2:AV)(H:Heap)(R:Kv):Prop:=
 alc H (.cells c2 99) fun b3 H4=> ∀X5:Kl,(∀(v6 n7:Int) H8,(br (decide (n7≤17)) (Tryz.C 63 #[.pointer r1,.int .i64 1] H8 fun r9 H10=> ∃b11,r9= .int .i64 b11∧ ∃a12,r1=some a12∧ ∃E13,cell H10 (.add a12 4)=some (.int .i64 E13)∧br (E13 != 0) (R (.int .i64 0) H10) (∃L14p L14l L14c,cell H10 (.add ⟨b3,0,none⟩ 0)=some (.slice L14p L14l L14c)∧ ∃C15p C15l C15c,cell H10 (.add ⟨b3,0,none⟩ 1)=some (.slice C15p C15l C15c)∧Tryz.C 117 #[.slice L14p L14l L14c,.slice C15p C15l C15c,.int .i64 n7,.int .i64 (wrap .i64 ((wrap .i64 ((2:Int)*v6))+b11))] H10 fun r16 H17=> ∃s18,r16= .int .i64 s18∧br (decide (s18≥0)) (R (.int .i64 s18) H17) (∃L19p L19l L19c,cell H17 (.add ⟨b3,0,none⟩ 0)=some (.slice L19p L19l L19c)∧ ∃C20p C20l C20c,cell H17 (.add ⟨b3,0,none⟩ 1)=some (.slice C20p C20l C20c)∧Tryz.C 118 #[.slice L19p L19l L19c,.slice C20p C20l C20c,.int .i64 n7,.int .i64 (wrap .i64 ((wrap .i64 ((2:Int)*v6))+b11))] H17 fun r21 H22=> ∃r23,r21= .bool r23∧br (!r23) (Tryz.C 68 #[.pointer r1,.int .i64 21] H22 fun r24 H25=>r24= .tuple #[]∧R (.int .i64 0) H25) (X5 [.int .i64 (wrap .i64 ((wrap .i64 ((2:Int)*v6))+b11)),.int .i64 (wrap .i64 (n7+1))] H22)))) (Tryz.C 68 #[.pointer r1,.int .i64 21] H8 fun r26 H27=>r26= .tuple #[]∧R (.int .i64 0) H27))→X5 [.int .i64 v6,.int .i64 n7] H8)→X5 [.int .i64 0,.int .i64 1] H4
def Tryz.p96:Plan:=(tl (tl (two (tl (one (loop [(5,3),(6,3)] [0,3] (two (tl (tl leaf)) (two (one (tl (tg (tl (tl (tg (tl (tl leaf)))))))) leaf))))) (tl (tl leaf)))))
theorem Tryz.s96{r1:OA}{c2:AV}{H R}(h:Tryz.S96 r1 c2 H R):Tryz.C 96 #[.pointer r1,.agg c2] H R:=vcs Tryz.tab_ok Tryz.mixed Tryz.func96 Tryz.cal96 Tryz.p96 h (by kernel_rfl)
def Tryz.S97(r1:OA)(s2:Int)(d3:AV)(H:Heap)(R:Kv):Prop:=
 alc H (.cells d3 99) fun b4 H5=>br (decide (s2>285))
 (Tryz.C 68 #[.pointer r1,.int .i64 25] H5 fun r6 H7=>r6= .tuple #[]∧R (.tuple #[]) H7)
 (Tryz.C 119 #[.int .i64 s2] H5 fun r8 H9=> ∃r10 r11,r8= .tuple #[.int .i64 r10,.int .i64 r11]∧Tryz.C 63 #[.pointer r1,.int .i64 r11] H9 fun r12 H13=> ∃r14,r12= .int .i64 r14∧ ∃a15,r1=some a15∧ ∃E16,cell H13 (.add a15 4)=some (.int .i64 E16)∧br (E16 != 0) (R (.tuple #[]) H13) (∃v17,v17.size=4∧rowIn H13 ⟨b4,0,none⟩ v17∧Tryz.C 96 #[.pointer r1,.agg v17] H13 fun r18 H19=> ∃t20,r18= .int .i64 t20∧ ∃a21,r1=some a21∧ ∃E22,cell H19 (.add a21 4)=some (.int .i64 E22)∧br (E22 != 0) (R (.tuple #[]) H19) (br (decide (t20>29)) (Tryz.C 68 #[.pointer r1,.int .i64 25] H19 fun r23 H24=>r23= .tuple #[]∧R (.tuple #[]) H24) (Tryz.C 120 #[.int .i64 t20] H19 fun r25 H26=> ∃r27 r28,r25= .tuple #[.int .i64 r27,.int .i64 r28]∧Tryz.C 63 #[.pointer r1,.int .i64 r28] H26 fun r29 H30=> ∃r31,r29= .int .i64 r31∧ ∃a32,r1=some a32∧ ∃E33,cell H30 (.add a32 4)=some (.int .i64 E33)∧br (E33 != 0) (R (.tuple #[]) H30) (∃a34,r1=some a34∧ ∃Ou35p Ou35l Ou35c,cell H30 (.add a34 2)=some (.slice Ou35p Ou35l Ou35c)∧br (decide (((wrap .i64 (r27+r31)):Int)>(Ou35l:Int))) (Tryz.C 68 #[.pointer r1,.int .i64 22] H30 fun r36 H37=>r36= .tuple #[]∧R (.tuple #[]) H37) (∃a38,r1=some a38∧ ∃Ou39p Ou39l Ou39c,cell H30 (.add a38 2)=some (.slice Ou39p Ou39l Ou39c)∧ ∃a40,r1=some a40∧ ∃Mo41,cell H30 (.add a40 3)=some (.int .i64 Mo41)∧br (decide (((wrap .i64 ((Ou39l:Int)+(wrap .i64 (r10+r14)))):Int)>Mo41)) (Tryz.C 68 #[.pointer r1,.int .i64 24] H30 fun r42 H43=>r42= .tuple #[]∧R (.tuple #[]) H43) (∀X44:Kl,(∀(k45:Int) H46,(br (decide (k45<(wrap .i64 (r10+r14)))) (∃a47,r1=some a47∧ ∃Ou48p Ou48l Ou48c,cell H46 (.add a47 2)=some (.slice Ou48p Ou48l Ou48c)∧ ∃a49,r1=some a49∧ ∃Ou50p Ou50l Ou50c,cell H46 (.add a49 2)=some (.slice Ou50p Ou50l Ou50c)∧ ∃a51,r1=some a51∧ ∃Ou52p Ou52l Ou52c,cell H46 (.add a51 2)=some (.slice Ou52p Ou52l Ou52c)∧ ∃a53,Ou50p=some a53∧0≤(wrap .i64 ((Ou52l:Int)-(wrap .i64 (r27+r31))))∧(wrap .i64 ((Ou52l:Int)-(wrap .i64 (r27+r31))))<(Ou50l:Int)∧ ∃v54,cell H46 (.add a53 (toNat (wrap .i64 ((Ou52l:Int)-(wrap .i64 (r27+r31))))*1))=some (.int .u8 v54)∧alc H46 (.cells #[.int .u8 v54] 5) fun b55 H56=>(Ext H46 H56∨(∃Ou61p Ou61l Ou61c,cell H56 (.add a47 2)=some (.slice Ou61p Ou61l Ou61c)∧Value.slice Ou61p Ou61l Ou61c= .slice Ou48p Ou48l Ou48c))∧appQ 1 1 #[.int .u8 0] H56 Ou48p Ou48l Ou48c (some ⟨b55,0,none⟩) 1 5 fun ap57p ap57l ap57c H58=> ∃a59,r1=some a59∧stAt H58 (.add a59 2) [.slice ap57p ap57l ap57c] fun H60=>X44 [.int .i64 (wrap .i64 (k45+1))] H60) (R (.tuple #[]) H46))→X44 [.int .i64 k45] H46)→X44 [.int .i64 0] H30)))))))
def Tryz.p97:Plan:=(tl (tg (tl (tl (two (tl (tl leaf)) (tl (two (tl (tl leaf)) (tg (tl (tl (two (tl (tl leaf)) (tg (tg (tl (one (loop [(11,3)] [0,6,9] (two (tl (tl leaf)) (two (one leaf) leaf))))))))))))))))))
theorem Tryz.s97{r1:OA}{s2:Int}{d3:AV}{H R}(h:Tryz.S97 r1 s2 d3 H R):Tryz.C 97 #[.pointer r1,.int .i64 s2,.agg d3] H R:=vcs Tryz.tab_ok Tryz.mixed Tryz.func97 Tryz.cal97 Tryz.p97 h (by kernel_rfl)
def Tryz.S98(c1:AV)(si2 none_3:Bool)(H:Heap)(R:Kv):Prop:=
 alc H (.cells c1 99) fun b4 H5=> ∃OK6,cell H5 (.add ⟨b4,0,none⟩ 3)=some (.bool OK6)∧br (!OK6)
 (R (.bool false) H5)
 (∃W7,cell H5 (.add ⟨b4,0,none⟩ 2)=some (.int .i64 W7)∧br (W7==65536) (R (.bool true) H5) (br si2 (∃W8,cell H5 (.add ⟨b4,0,none⟩ 2)=some (.int .i64 W8)∧br (W8==32768) (∃L9p L9l L9c,cell H5 (.add ⟨b4,0,none⟩ 0)=some (.slice L9p L9l L9c)∧Tryz.C 121 #[.slice L9p L9l L9c] H5 fun r10 H11=> ∃r12,r10= .int .i64 r12∧br (r12==1) (R (.bool true) H11) (br none_3 (∃W13,cell H11 (.add ⟨b4,0,none⟩ 2)=some (.int .i64 W13)∧R (.bool (W13==0)) H11) (R (.bool false) H11))) (br none_3 (∃W14,cell H5 (.add ⟨b4,0,none⟩ 2)=some (.int .i64 W14)∧R (.bool (W14==0)) H5) (R (.bool false) H5))) (br none_3 (∃W15,cell H5 (.add ⟨b4,0,none⟩ 2)=some (.int .i64 W15)∧R (.bool (W15==0)) H5) (R (.bool false) H5))))
def Tryz.p98:Plan:=(tl (tg (tg (tl leaf))))
theorem Tryz.s98{c1:AV}{si2 none_3:Bool}{H R}(h:Tryz.S98 c1 si2 none_3 H R):Tryz.C 98 #[.agg c1,.bool si2,.bool none_3] H R:=vcs Tryz.tab_ok Tryz.mixed Tryz.func98 Tryz.cal98 Tryz.p98 h (by kernel_rfl)
end Go.Proofs
namespace Go.Proofs
open Go.Sh Go.Sh.Plan
open Go.IntKind (wrap)
open Int (toNat)
def Tryz.S99(r1:OA)(c2:AV)(li3p:OA)(li3l li3c:Nat)(to4:Int)(H:Heap)(R:Kv):Prop:=
 alc H (.cells c2 99) fun b5 H6=> ∃v7,v7.size=4∧rowIn H6 ⟨b5,0,none⟩ v7∧Tryz.C 96 #[.pointer r1,.agg v7] H6 fun r8 H9=> ∃s10,r8= .int .i64 s10∧ ∃a11,r1=some a11∧ ∃E12,cell H9 (.add a11 4)=some (.int .i64 E12)∧br (E12 != 0)
 (R (.slice li3p li3l li3c) H9)
 (∀J13:Kl,(∀(v14 n15:Int) H16,(∀J17:Kl,(∀(v18 n19:Int) H20,(∀J21:Kl,(∀(v22 n23:Int) H24,(∀J25:Kl,(∀H26,(∀X27:Kl,(∀(li28p:OA) (li28l li28c:Nat) (k29:Int) H30,(br (decide (k29<n23)) (alc H30 (.cells #[.int .i64 v22] 3) fun b31 H32=>appQ 1 8 #[.int .i64 0] H32 li28p li28l li28c (some ⟨b31,0,none⟩) 1 3 fun li33p li33l li33c H34=>X27 [.slice li33p li33l li33c,.int .i64 (wrap .i64 (k29+1))] H34) (R (.slice li28p li28l li28c) H30))→X27 [.slice li28p li28l li28c,.int .i64 k29] H30)→X27 [.slice li3p li3l li3c,.int .i64 0] H26)→J25 [] H26)→ ∃a35,r1=some a35∧ ∃E36,cell H24 (.add a35 4)=some (.int .i64 E36)∧br (E36==0) (br (decide (((wrap .i64 ((li3l:Int)+n23)):Int)>to4)) (Tryz.C 68 #[.pointer r1,.int .i64 21] H24 fun r37 H38=>r37= .tuple #[]∧J25 [] H38) (J25 [] H24)) (J25 [] H24))→J21 [.int .i64 v22,.int .i64 n23] H24)→br (s10==18) (Tryz.C 63 #[.pointer r1,.int .i64 7] H20 fun r39 H40=> ∃r41,r39= .int .i64 r41∧J21 [.int .i64 0,.int .i64 (wrap .i64 ((11:Int)+r41))] H40) (J21 [.int .i64 v18,.int .i64 n19] H20))→J17 [.int .i64 v18,.int .i64 n19] H20)→br (s10==17) (Tryz.C 63 #[.pointer r1,.int .i64 3] H16 fun r42 H43=> ∃r44,r42= .int .i64 r44∧J17 [.int .i64 0,.int .i64 (wrap .i64 ((3:Int)+r44))] H43) (J17 [.int .i64 v14,.int .i64 n15] H16))→J13 [.int .i64 v14,.int .i64 n15] H16)→br (s10==16) (Tryz.C 63 #[.pointer r1,.int .i64 2] H9 fun r45 H46=> ∃r47,r45= .int .i64 r47∧br (((li3l:Int):Int)==0) (Tryz.C 68 #[.pointer r1,.int .i64 21] H46 fun r48 H49=>r48= .tuple #[]∧R (.slice li3p li3l li3c) H49) (∃a50,li3p=some a50∧0≤(wrap .i64 ((li3l:Int)-1))∧(wrap .i64 ((li3l:Int)-1))<(li3l:Int)∧ ∃v51,cell H46 (.add a50 (toNat (wrap .i64 ((li3l:Int)-1))*1))=some (.int .i64 v51)∧J13 [.int .i64 v51,.int .i64 (wrap .i64 ((3:Int)+r47))] H46)) (J13 [.int .i64 s10,.int .i64 1] H9))
def Tryz.p99:Plan:=(tl (tl (tg (tl (tl (two (join [(10,3),(11,3)] [0,2,3,9] (tl (two (tl (two (tl (two (tl (tl leaf)) leaf)) leaf)) leaf))) (two (join [(10,3),(11,3)] [0,2,3,9] g0) (two (join [(10,3),(11,3)] [0,2,3] g0) (two (join [] [2,10,11] (tl (tl leaf))) (two (tl (one (loop [(2,86),(12,3)] [10,11] (two (tl (tl leaf)) (two (one leaf) leaf))))) (tl leaf)))))))))))
theorem Tryz.s99{r1:OA}{c2:AV}{li3p:OA}{li3l li3c:Nat}{to4:Int}{H R}(h:Tryz.S99 r1 c2 li3p li3l li3c to4 H R):Tryz.C 99 #[.pointer r1,.agg c2,.slice li3p li3l li3c,.int .i64 to4] H R:=vcs Tryz.tab_ok Tryz.mixed Tryz.func99 Tryz.cal99 Tryz.p99 h (by kernel_rfl)
def Tryz.S100(r1:OA)(n2:Int)(H:Heap)(R:Kv):Prop:=
 ∀J3:Kl,(∀H4,(∀X5:Kl,(∀(v6 k7:Int) H8,(br (decide (k7<n2)) (∃a9,r1=some a9∧ ∃b10p b10l b10c,cell H8 (.add a9 0)=some (.slice b10p b10l b10c)∧ ∃a11,r1=some a11∧ ∃at_12,cell H8 (.add a11 1)=some (.int .i64 at_12)∧(8:Int)≠0∧ ∃a13,b10p=some a13∧0≤(wrap .i64 (Int.tdiv at_12 8))∧(wrap .i64 (Int.tdiv at_12 8))<(b10l:Int)∧ ∃v14,cell H8 (.add a13 (toNat (wrap .i64 (Int.tdiv at_12 8))*1))=some (.int .u8 v14)∧ ∃a15,r1=some a15∧ ∃at_16,cell H8 (.add a15 1)=some (.int .i64 at_16)∧ ∃a17,r1=some a17∧ ∃hi18,cell H8 (.add a17 2)=some (.bool hi18)∧Tryz.C 106 #[.int .i64 at_16,.bool hi18] H8 fun r19 H20=> ∃r21,r19= .int .i64 r21∧(Ext H8 H20∨(∃v31,cell H20 (.add a13 (toNat (wrap .i64 (Int.tdiv at_12 8))*1))=some (.int .u8 v31)∧Value.int .u8 v31= .int .u8 v14)∧(∃at_32,cell H20 (.add a11 1)=some (.int .i64 at_32)∧Value.int .i64 at_32= .int .i64 at_12)∧(∃b33p b33l b33c,cell H20 (.add a9 0)=some (.slice b33p b33l b33c)∧Value.slice b33p b33l b33c= .slice b10p b10l b10c))∧0≤r21∧ ∀J22:Kl,(∀(v23:Int) H24,(∃a25,r1=some a25∧ ∃at_26,cell H24 (.add a25 1)=some (.int .i64 at_26)∧ ∃a27,r1=some a27∧stAt H24 (.add a27 1) [.int .i64 (wrap .i64 (at_26+1))] fun H28=>X5 [.int .i64 v23,.int .i64 (wrap .i64 (k7+1))] H28)→J22 [.int .i64 v23] H24)→ ∃a29,r1=some a29∧ ∃hi30,cell H20 (.add a29 2)=some (.bool hi30)∧br hi30 (0≤(1:Int)∧J22 [.int .i64 (orI .i64 (shlI .i64 v6 1) (andI .i64 (wrap .i64 (shrI .u8 v14 r21)) 1))] H20) (0≤k7∧J22 [.int .i64 (orI .i64 v6 (shlI .i64 (andI .i64 (wrap .i64 (shrI .u8 v14 r21)) 1) k7))] H20)) (R (.tuple #[.int .i64 v6,.bool true]) H8))→X5 [.int .i64 v6,.int .i64 k7] H8)→X5 [.int .i64 0,.int .i64 0] H4)→J3 [] H4)→
 br (decide (n2<0)) (R (.tuple #[.int .i64 0,.bool false]) H) (br (decide (n2>24)) (R (.tuple #[.int .i64 0,.bool false]) H) (Tryz.C 122 #[.pointer r1] H fun r34 H35=> ∃r36,r34= .int .i64 r36∧br (decide (n2>r36)) (R (.tuple #[.int .i64 0,.bool false]) H35) (J3 [] H35)))
def Tryz.p100:Plan:=(tl (two (join [] [0,1] g0) (tl (two (tl (one (loop [(6,3),(22,3)] [0,21] (tl (two (tl leaf) (two (one (tl (tl (two (join [(6,3)] [0,21,22] (tl (tl leaf))) leaf)))) leaf)))))) (tl leaf)))))
theorem Tryz.s100{r1:OA}{n2:Int}{H R}(h:Tryz.S100 r1 n2 H R):Tryz.C 100 #[.pointer r1,.int .i64 n2] H R:=vcs Tryz.tab_ok Tryz.mixed Tryz.func100 Tryz.cal100 Tryz.p100 h (by kernel_rfl)
def Tryz.S101(r1:OA)(H:Heap)(R:Kv):Prop:=
 ∃a2,r1=some a2∧ ∃at_3,cell H (.add a2 1)=some (.int .i64 at_3)∧(8:Int)≠0∧ ∃a4,r1=some a4∧stAt H (.add a4 1) [.int .i64 (wrap .i64 ((wrap .i64 (Int.tdiv (wrap .i64 (at_3+7)) 8))*8))] fun H5=>R (.tuple #[]) H5
def Tryz.p101:Plan:=leaf
theorem Tryz.s101{r1:OA}{H R}(h:Tryz.S101 r1 H R):Tryz.C 101 #[.pointer r1] H R:=vcs Tryz.tab_ok Tryz.mixed Tryz.func101 Tryz.cal101 Tryz.p101 h (by kernel_rfl)
def Tryz.S102(f1 d2:OA)(H:Heap)(R:Kv):Prop:=
 ∀X3:Kl,(∀(st4:Int) H5,(Tryz.C 72 #[.pointer f1,.int .i64 1] H5 fun r6 H7=> ∃bi8,r6= .int .i64 bi8∧ ∃a9,f1=some a9∧ ∃e10,cell H7 (.add a9 3)=some (.int .i64 e10)∧br (e10 != 0) (R (.int .i64 0) H7) (Tryz.C 123 #[.pointer d2,.int .i64 st4,.int .i64 bi8] H7 fun r11 H12=> ∃r13 r14,r11= .tuple #[.int .i64 r13,.int .i64 r14]∧br (decide (r13<0)) (Tryz.C 77 #[.pointer f1,.int .i64 21] H12 fun r15 H16=>r15= .tuple #[]∧R (.int .i64 0) H16) (br (decide (r14<0)) (X3 [.int .i64 r13] H12) (R (.int .i64 r14) H12))))→X3 [.int .i64 st4] H5)→X3 [.int .i64 0] H
def Tryz.p102:Plan:=(tl (scope [(5,3)] [0,1] leaf (tl (tg (tl (two (one (tl (two (tl (tl leaf)) (tl (tl leaf))))) (tl leaf)))))))
theorem Tryz.s102{f1 d2:OA}{H R}(h:Tryz.S102 f1 d2 H R):Tryz.C 102 #[.pointer f1,.pointer d2] H R:=vcs Tryz.tab_ok Tryz.mixed Tryz.func102 Tryz.cal102 Tryz.p102 h (by kernel_rfl)
def Tryz.S103(f1:OA)(s2:Int)(di3:OA)(H:Heap)(R:Kv):Prop:=
 br (decide (s2>285))
 (Tryz.C 77 #[.pointer f1,.int .i64 25] H fun r4 H5=>r4= .tuple #[]∧R (.tuple #[]) H5)
 (Tryz.C 107 #[.int .i64 s2] H fun r6 H7=> ∃r8 r9,r6= .tuple #[.int .i64 r8,.int .i64 r9]∧Tryz.C 72 #[.pointer f1,.int .i64 r9] H7 fun r10 H11=> ∃r12,r10= .int .i64 r12∧Tryz.C 102 #[.pointer f1,.pointer di3] H11 fun r13 H14=> ∃t15,r13= .int .i64 t15∧ ∃a16,f1=some a16∧ ∃e17,cell H14 (.add a16 3)=some (.int .i64 e17)∧br (e17 != 0) (R (.tuple #[]) H14) (br (decide (t15>29)) (Tryz.C 77 #[.pointer f1,.int .i64 25] H14 fun r18 H19=>r18= .tuple #[]∧R (.tuple #[]) H19) (Tryz.C 85 #[.int .i64 t15] H14 fun r20 H21=> ∃r22 r23,r20= .tuple #[.int .i64 r22,.int .i64 r23]∧Tryz.C 72 #[.pointer f1,.int .i64 r23] H21 fun r24 H25=> ∃r26,r24= .int .i64 r26∧ ∃a27,f1=some a27∧ ∃e28,cell H25 (.add a27 3)=some (.int .i64 e28)∧br (e28 != 0) (R (.tuple #[]) H25) (∃a29,f1=some a29∧ ∃ou30p ou30l ou30c,cell H25 (.add a29 1)=some (.slice ou30p ou30l ou30c)∧br (decide (((wrap .i64 (r22+r26)):Int)>(ou30l:Int))) (Tryz.C 77 #[.pointer f1,.int .i64 22] H25 fun r31 H32=>r31= .tuple #[]∧R (.tuple #[]) H32) (∃a33,f1=some a33∧ ∃mo34,cell H25 (.add a33 2)=some (.int .i64 mo34)∧ ∃a35,f1=some a35∧ ∃ou36p ou36l ou36c,cell H25 (.add a35 1)=some (.slice ou36p ou36l ou36c)∧br (decide (((wrap .i64 (r8+r12)):Int)>(wrap .i64 (mo34-(ou36l:Int))))) (Tryz.C 77 #[.pointer f1,.int .i64 24] H25 fun r37 H38=>r37= .tuple #[]∧R (.tuple #[]) H38) (∀X39:Kl,(∀(t40:Int) H41,(br (decide (t40<(wrap .i64 (r8+r12)))) (∃a42,f1=some a42∧ ∃ou43p ou43l ou43c,cell H41 (.add a42 1)=some (.slice ou43p ou43l ou43c)∧ ∃a44,f1=some a44∧ ∃ou45p ou45l ou45c,cell H41 (.add a44 1)=some (.slice ou45p ou45l ou45c)∧ ∃a46,f1=some a46∧ ∃ou47p ou47l ou47c,cell H41 (.add a46 1)=some (.slice ou47p ou47l ou47c)∧ ∃a48,ou45p=some a48∧0≤(wrap .i64 ((ou47l:Int)-(wrap .i64 (r22+r26))))∧(wrap .i64 ((ou47l:Int)-(wrap .i64 (r22+r26))))<(ou45l:Int)∧ ∃v49,cell H41 (.add a48 (toNat (wrap .i64 ((ou47l:Int)-(wrap .i64 (r22+r26))))*1))=some (.int .u8 v49)∧alc H41 (.cells #[.int .u8 v49] 5) fun b50 H51=>(Ext H41 H51∨(∃ou56p ou56l ou56c,cell H51 (.add a42 1)=some (.slice ou56p ou56l ou56c)∧Value.slice ou56p ou56l ou56c= .slice ou43p ou43l ou43c))∧appQ 1 1 #[.int .u8 0] H51 ou43p ou43l ou43c (some ⟨b50,0,none⟩) 1 5 fun ap52p ap52l ap52c H53=> ∃a54,f1=some a54∧stAt H53 (.add a54 1) [.slice ap52p ap52l ap52c] fun H55=>X39 [.int .i64 (wrap .i64 (t40+1))] H55) (R (.tuple #[]) H41))→X39 [.int .i64 t40] H41)→X39 [.int .i64 0] H25))))))
def Tryz.p103:Plan:=(tg (tl (tl (tl (two (tl (tl leaf)) (tg (tl (tl (one (tl (tl (tl (tl (tl (tl (tl (one (loop [(47,3)] [0,9,46] (tl (two (tl leaf) (two (one leaf) leaf)))))))))))))))))))))
theorem Tryz.s103{f1:OA}{s2:Int}{di3:OA}{H R}(h:Tryz.S103 f1 s2 di3 H R):Tryz.C 103 #[.pointer f1,.int .i64 s2,.pointer di3] H R:=vcs Tryz.tab_ok Tryz.mixed Tryz.func103 Tryz.cal103 Tryz.p103 h (by kernel_rfl)
def Tryz.S104(f1 le2p:OA)(le2l le2c:Nat)(lo3 none_4:Bool)(H:Heap)(R:Kv):Prop:=
 Tryz.C 74 #[.slice le2p le2l le2c] H fun r5 H6=> ∃r7 r8,r5= .tuple #[.pointer r7,.bool r8]∧Tryz.C 108 #[.slice le2p le2l le2c] H6 fun r9 H10=> ∃r11 r12,r9= .tuple #[.int .i64 r11,.bool r12]∧ ∀J13:Kl,(∀H14,(R (.pointer r7) H14)→J13 [] H14)→
 br (!r8) (Tryz.C 77 #[.pointer f1,.int .i64 21] H10 fun r15 H16=>r15= .tuple #[]∧J13 [] H16) (br (r11 != 65536) (br lo3 (br (r11==32768) (Tryz.C 124 #[.slice le2p le2l le2c] H10 fun r17 H18=> ∃r19,r17= .bool r19∧br (!r19) (br none_4 (br (!(r11==0)) (Tryz.C 77 #[.pointer f1,.int .i64 21] H18 fun r20 H21=>r20= .tuple #[]∧J13 [] H21) (J13 [] H18)) (Tryz.C 77 #[.pointer f1,.int .i64 21] H18 fun r22 H23=>r22= .tuple #[]∧J13 [] H23)) (J13 [] H18)) (br none_4 (br (!(r11==0)) (Tryz.C 77 #[.pointer f1,.int .i64 21] H10 fun r24 H25=>r24= .tuple #[]∧J13 [] H25) (J13 [] H10)) (Tryz.C 77 #[.pointer f1,.int .i64 21] H10 fun r26 H27=>r26= .tuple #[]∧J13 [] H27))) (br none_4 (br (!(r11==0)) (Tryz.C 77 #[.pointer f1,.int .i64 21] H10 fun r28 H29=>r28= .tuple #[]∧J13 [] H29) (J13 [] H10)) (Tryz.C 77 #[.pointer f1,.int .i64 21] H10 fun r30 H31=>r30= .tuple #[]∧J13 [] H31))) (J13 [] H10))
def Tryz.p104:Plan:=(tl (tl (tl (two (join [] [9] (tl (tl leaf))) (tl leaf)))))
theorem Tryz.s104{f1 le2p:OA}{le2l le2c:Nat}{lo3 none_4:Bool}{H R}(h:Tryz.S104 f1 le2p le2l le2c lo3 none_4 H R):Tryz.C 104 #[.pointer f1,.slice le2p le2l le2c,.bool lo3,.bool none_4] H R:=vcs Tryz.tab_ok Tryz.mixed Tryz.func104 Tryz.cal104 Tryz.p104 h (by kernel_rfl)
def Tryz.S105(b1p:OA)(b1l b1c:Nat)(H:Heap)(R:Kv):Prop:=
 ∃a2,b1p=some a2∧0≤(0:Int)∧(0:Int)<(b1l:Int)∧ ∃v3,cell H (.add a2 (toNat (0:Int)*1))=some (.int .u8 v3)∧0≤(8:Int)∧ ∃a4,b1p=some a4∧0≤(1:Int)∧(1:Int)<(b1l:Int)∧ ∃v5,cell H (.add a4 (toNat (1:Int)*1))=some (.int .u8 v5)∧0≤(4:Int)∧ ∃a6,b1p=some a6∧0≤(2:Int)∧(2:Int)<(b1l:Int)∧ ∃v7,cell H (.add a6 (toNat (2:Int)*1))=some (.int .u8 v7)∧R (.int .i64 (andI .i64 (xorI .i64 (xorI .i64 (shlI .i64 (wrap .i64 v3) 8) (shlI .i64 (wrap .i64 v5) 4)) (wrap .i64 v7)) 4095)) H
def Tryz.p105:Plan:=(tl (tl leaf))
theorem Tryz.s105{b1p:OA}{b1l b1c:Nat}{H R}(h:Tryz.S105 b1p b1l b1c H R):Tryz.C 105 #[.slice b1p b1l b1c] H R:=vcs Tryz.tab_ok Tryz.mixed Tryz.func105 Tryz.cal105 Tryz.p105 h (by kernel_rfl)
def Tryz.S106(at_1:Int)(hi2:Bool)(H:Heap)(R:Kv):Prop:=
 br hi2
 ((8:Int)≠0∧R (.int .i64 (wrap .i64 ((7:Int)-(Int.tmod at_1 8)))) H)
 ((8:Int)≠0∧R (.int .i64 (Int.tmod at_1 8)) H)
def Tryz.p106:Plan:=(tl (tg (tl leaf)))
theorem Tryz.s106{at_1:Int}{hi2:Bool}{H R}(h:Tryz.S106 at_1 hi2 H R):Tryz.C 106 #[.int .i64 at_1,.bool hi2] H R:=vcs Tryz.tab_ok Tryz.mixed Tryz.func106 Tryz.cal106 Tryz.p106 h (by kernel_rfl)
def Tryz.S107(s1:Int)(H:Heap)(R:Kv):Prop:=
 br (decide (((wrap .i64 (s1-257)):Int)<8))
 (R (.tuple #[.int .i64 (wrap .i64 ((3:Int)+(wrap .i64 (s1-257)))),.int .i64 0]) H)
 (br (((wrap .i64 (s1-257)):Int)==28) (R (.tuple #[.int .i64 258,.int .i64 0]) H) ((4:Int)≠0∧(4:Int)≠0∧0≤(wrap .i64 ((wrap .i64 (Int.tdiv (wrap .i64 (s1-257)) 4))-1))∧R (.tuple #[.int .i64 (wrap .i64 ((3:Int)+(shlI .i64 (wrap .i64 ((4:Int)+(Int.tmod (wrap .i64 (s1-257)) 4))) (wrap .i64 ((wrap .i64 (Int.tdiv (wrap .i64 (s1-257)) 4))-1))))),.int .i64 (wrap .i64 ((wrap .i64 (Int.tdiv (wrap .i64 (s1-257)) 4))-1))]) H))
def Tryz.p107:Plan:=(tl (two (tl (one (tl (two (tl leaf) g0)))) (tl (tl leaf))))
theorem Tryz.s107{s1:Int}{H R}(h:Tryz.S107 s1 H R):Tryz.C 107 #[.int .i64 s1] H R:=vcs Tryz.tab_ok Tryz.mixed Tryz.func107 Tryz.cal107 Tryz.p107 h (by kernel_rfl)
def Tryz.S108(le1p:OA)(le1l le1c:Nat)(H:Heap)(R:Kv):Prop:=
 br (decide (((le1l:Int):Int)>300))
 (R (.tuple #[.int .i64 0,.bool false]) H)
 (∀X2:Kl,(∀(su3 t4:Int) H5,(br (decide (t4<(le1l:Int))) (∃a6,le1p=some a6∧0≤t4∧t4<(le1l:Int)∧ ∃n7,cell H5 (.add a6 (toNat t4*1))=some (.int .i64 n7)∧ ∀J8:Kl,(∀H9,(br (decide (n7>0)) (0≤(wrap .i64 ((16:Int)-n7))∧X2 [.int .i64 (wrap .i64 (su3+(shlI .i64 1 (wrap .i64 ((16:Int)-n7))))),.int .i64 (wrap .i64 (t4+1))] H9) (X2 [.int .i64 su3,.int .i64 (wrap .i64 (t4+1))] H9))→J8 [] H9)→br (decide (n7<0)) (R (.tuple #[.int .i64 0,.bool false]) H5) (br (decide (n7>16)) (R (.tuple #[.int .i64 0,.bool false]) H5) (J8 [] H5))) (R (.tuple #[.int .i64 su3,.bool true]) H5))→X2 [.int .i64 su3,.int .i64 t4] H5)→X2 [.int .i64 0,.int .i64 0] H)
def Tryz.p108:Plan:=(tl (tg (tl (two (tl (one (loop [(4,3),(12,3)] [10,11] (tl (two (tl leaf) (two (one (tl (two (join [] [4,6,10,11,12] g0) (tl (tl leaf))))) leaf)))))) (tl leaf)))))
theorem Tryz.s108{le1p:OA}{le1l le1c:Nat}{H R}(h:Tryz.S108 le1p le1l le1c H R):Tryz.C 108 #[.slice le1p le1l le1c] H R:=vcs Tryz.tab_ok Tryz.mixed Tryz.func108 Tryz.cal108 Tryz.p108 h (by kernel_rfl)
def Tryz.S109(s1p:OA)(s1l s1c:Nat)(H:Heap)(R:Kv):Prop:=
 br (Option.isNone s1p)
 (R (.slice none 0 0) H)
 (alc H (.cells #[] 3) fun b2 H3=>appQ 1 8 #[.int .i64 0] H3 (some ⟨b2,0,none⟩) 0 0 s1p s1l 3 fun ap4p ap4l ap4c H5=>R (.slice ap4p ap4l ap4c) H5)
def Tryz.p109:Plan:=(tl (tg (tl leaf)))
theorem Tryz.s109{s1p:OA}{s1l s1c:Nat}{H R}(h:Tryz.S109 s1p s1l s1c H R):Tryz.C 109 #[.slice s1p s1l s1c] H R:=vcs Tryz.tab_ok Tryz.mixed Tryz.func109 Tryz.cal109 Tryz.p109 h (by kernel_rfl)
def Tryz.S110(s1p:OA)(s1l s1c:Nat)(n2:Int)(H:Heap)(R:Kv):Prop:=
 ∀J3:Kl,(∀H4,(br (decide (((wrap .i64 (n2-(wrap .i64 ((s1c:Int)-(s1l:Int))))):Int)>0)) (0≤(s1c:Int)∧(s1c:Int)≤(s1c:Int)∧appZ 1 8 #[.int .i64 0] H4 (if s1c=0 then s1p else Option.map (fun x=>Addr.add x (0*1)) s1p) ((toNat (s1c:Int))-0) (s1c-0) (wrap .i64 (n2-(wrap .i64 ((s1c:Int)-(s1l:Int))))) 3 fun ap5p ap5l ap5c H6=>0≤(s1l:Int)∧(s1l:Int)≤(ap5c:Int)∧R (.slice (if ap5c=0 then ap5p else Option.map (fun x=>Addr.add x (0*1)) ap5p) ((toNat (s1l:Int))-0) (ap5c-0)) H6) (R (.slice s1p s1l s1c) H4))→J3 [] H4)→
 br (decide (n2<0))
 (False)
 (J3 [] H)
def Tryz.p110:Plan:=(tl (two (join [] [0,1] (tl (tl leaf))) (two (tl (tl (tl leaf))) (tl leaf))))
theorem Tryz.s110{s1p:OA}{s1l s1c:Nat}{n2:Int}{H R}(h:Tryz.S110 s1p s1l s1c n2 H R):Tryz.C 110 #[.slice s1p s1l s1c,.int .i64 n2] H R:=vcs Tryz.tab_ok Tryz.mixed Tryz.func110 Tryz.cal110 Tryz.p110 h (by kernel_rfl)
def Tryz.S111(x1p:OA)(x1l x1c cm2g:Nat)(cm2x cm2y:AV)(H:Heap)(R:Kv):Prop:=
 Tryz.C 125 #[.slice x1p x1l x1c,.int .i64 (x1l:Int),.func (.func cm2g) cm2x cm2y] H fun r3 H4=>r3= .tuple #[]∧R (.tuple #[]) H4
def Tryz.p111:Plan:=leaf
theorem Tryz.s111{x1p:OA}{x1l x1c cm2g:Nat}{cm2x cm2y:AV}{H R}(h:Tryz.S111 x1p x1l x1c cm2g cm2x cm2y H R):Tryz.C 111 #[.slice x1p x1l x1c,.func (.func cm2g) cm2x cm2y] H R:=vcs Tryz.tab_ok Tryz.mixed Tryz.func111 Tryz.cal111 Tryz.p111 h (by kernel_rfl)
def Tryz.S112(a1 b2:AV)(H:Heap)(R:Kv):Prop:=
 alc H (.cells a1 165) fun b3 H4=>alc H4 (.cells b2 165) fun b5 H6=> ∃co7,cell H6 (.add ⟨b3,0,none⟩ 0)=some (.int .i64 co7)∧ ∃co8,cell H6 (.add ⟨b5,0,none⟩ 0)=some (.int .i64 co8)∧R (.int .i64 (wrap .i64 (co7-co8))) H6
def Tryz.p112:Plan:=(tl (tl leaf))
theorem Tryz.s112{a1 b2:AV}{H R}(h:Tryz.S112 a1 b2 H R):Tryz.C 112 #[.agg a1,.agg b2] H R:=vcs Tryz.tab_ok Tryz.mixed Tryz.func112 Tryz.cal112 Tryz.p112 h (by kernel_rfl)
def Tryz.S113(a1p:OA)(a1l a1c:Nat)(b2p:OA)(b2l b2c:Nat)(H:Heap)(R:Kv):Prop:=
 alc H (.cells #[.slice a1p a1l a1c,.slice b2p b2l b2c] 163) fun b3 H4=>Tryz.C 126 #[.slice (some ⟨b3,0,none⟩) 2 2] H4 fun r5 H6=> ∃ou7p ou7l ou7c,r5= .slice ou7p ou7l ou7c∧Tryz.C 111 #[.slice ou7p ou7l ou7c,.func (.func 127) #[] #[]] H6 fun r8 H9=>r8= .tuple #[]∧R (.slice ou7p ou7l ou7c) H9
def Tryz.p113:Plan:=(tl (tl (tl (tl leaf))))
theorem Tryz.s113{a1p:OA}{a1l a1c:Nat}{b2p:OA}{b2l b2c:Nat}{H R}(h:Tryz.S113 a1p a1l a1c b2p b2l b2c H R):Tryz.C 113 #[.slice a1p a1l a1c,.slice b2p b2l b2c] H R:=vcs Tryz.tab_ok Tryz.mixed Tryz.func113 Tryz.cal113 Tryz.p113 h (by kernel_rfl)
def Tryz.S114(ro1p:OA)(ro1l ro1c:Nat)(H:Heap)(R:Kv):Prop:=
 ∀X2:Kl,(∀(ou3p:OA) (ou3l ou3c:Nat) (i4:Int) H5,(br (decide (((wrap .i64 (i4+1)):Int)<(ro1l:Int))) (∃a6,ro1p=some a6∧0≤i4∧i4<(ro1l:Int)∧ ∃co7,cell H5 (.add (.add a6 (toNat i4*2)) 0)=some (.int .i64 co7)∧ ∃a8,ro1p=some a8∧0≤(wrap .i64 (i4+1))∧(wrap .i64 (i4+1))<(ro1l:Int)∧ ∃co9,cell H5 (.add (.add a8 (toNat (wrap .i64 (i4+1))*2)) 0)=some (.int .i64 co9)∧ ∃a10,ro1p=some a10∧0≤i4∧i4<(ro1l:Int)∧ ∃sy11p sy11l sy11c,cell H5 (.add (.add a10 (toNat i4*2)) 1)=some (.slice sy11p sy11l sy11c)∧ ∃a12,ro1p=some a12∧0≤(wrap .i64 (i4+1))∧(wrap .i64 (i4+1))<(ro1l:Int)∧ ∃sy13p sy13l sy13c,cell H5 (.add (.add a12 (toNat (wrap .i64 (i4+1))*2)) 1)=some (.slice sy13p sy13l sy13c)∧alc H5 (.cells #[.slice sy11p sy11l sy11c,.slice sy13p sy13l sy13c] 86) fun b14 H15=>(Ext H5 H15∨(∃co25,cell H15 (.add (.add a8 (toNat (wrap .i64 (i4+1))*2)) 0)=some (.int .i64 co25)∧Value.int .i64 co25= .int .i64 co9)∧(∃co26,cell H15 (.add (.add a6 (toNat i4*2)) 0)=some (.int .i64 co26)∧Value.int .i64 co26= .int .i64 co7))∧Tryz.C 89 #[.slice (some ⟨b14,0,none⟩) 2 2] H15 fun r16 H17=> ∃r18p r18l r18c,r16= .slice r18p r18l r18c∧(Ext H15 H17∨(∃co23,cell H17 (.add (.add a8 (toNat (wrap .i64 (i4+1))*2)) 0)=some (.int .i64 co23)∧Value.int .i64 co23= .int .i64 co9)∧(∃co24,cell H17 (.add (.add a6 (toNat i4*2)) 0)=some (.int .i64 co24)∧Value.int .i64 co24= .int .i64 co7))∧#[Value.int .i64 (wrap .i64 (co7+co9)),Value.slice r18p r18l r18c].size=2∧0+2≤2∧alc H17 (.cells (List.toArray (setL [.int .i64 0,.slice none 0 0] 0 (Array.toList #[.int .i64 (wrap .i64 (co7+co9)),.slice r18p r18l r18c]))) 165) fun b19 H20=>appQ 2 32 #[.int .i64 0,.slice none 0 0] H20 ou3p ou3l ou3c (some ⟨b19,0,none⟩) 1 165 fun ou21p ou21l ou21c H22=>X2 [.slice ou21p ou21l ou21c,.int .i64 (wrap .i64 (i4+2))] H22) (R (.slice ou3p ou3l ou3c) H5))→X2 [.slice ou3p ou3l ou3c,.int .i64 i4] H5)→X2 [.slice none 0 0,.int .i64 0] H
def Tryz.p114:Plan:=(tl (tl (two (tl (one (loop [(3,163),(4,3)] [0] (two (tl (tl leaf)) (two (one leaf) leaf))))) (tl leaf))))
theorem Tryz.s114{ro1p:OA}{ro1l ro1c:Nat}{H R}(h:Tryz.S114 ro1p ro1l ro1c H R):Tryz.C 114 #[.slice ro1p ro1l ro1c] H R:=vcs Tryz.tab_ok Tryz.mixed Tryz.func114 Tryz.cal114 Tryz.p114 h (by kernel_rfl)
def Tryz.S115(l1p:OA)(l1l l1c:Nat)(H:Heap)(R:Kv):Prop:=
 br (decide (((l1l:Int):Int)>300))
 (R (.tuple #[.int .i64 0,.bool false]) H)
 (∀X2:Kl,(∀(su3 i4:Int) H5,(br (decide (i4<(l1l:Int))) (∀J6:Kl,(∀H7,(∃a8,l1p=some a8∧0≤i4∧i4<(l1l:Int)∧ ∃v9,cell H7 (.add a8 (toNat i4*1))=some (.int .i64 v9)∧br (decide (v9>0)) (∃a10,l1p=some a10∧0≤i4∧i4<(l1l:Int)∧ ∃v11,cell H7 (.add a10 (toNat i4*1))=some (.int .i64 v11)∧0≤v11∧X2 [.int .i64 (wrap .i64 (su3+(shrI .i64 65536 v11))),.int .i64 (wrap .i64 (i4+1))] H7) (X2 [.int .i64 su3,.int .i64 (wrap .i64 (i4+1))] H7))→J6 [] H7)→ ∃a12,l1p=some a12∧0≤i4∧i4<(l1l:Int)∧ ∃v13,cell H5 (.add a12 (toNat i4*1))=some (.int .i64 v13)∧br (decide (v13<0)) (R (.tuple #[.int .i64 0,.bool false]) H5) (∃a14,l1p=some a14∧0≤i4∧i4<(l1l:Int)∧ ∃v15,cell H5 (.add a14 (toNat i4*1))=some (.int .i64 v15)∧br (decide (v15>16)) (R (.tuple #[.int .i64 0,.bool false]) H5) (J6 [] H5))) (R (.tuple #[.int .i64 su3,.bool true]) H5))→X2 [.int .i64 su3,.int .i64 i4] H5)→X2 [.int .i64 0,.int .i64 0] H)
def Tryz.p115:Plan:=(tl (tg (tl (two (tl (one (loop [(4,3),(5,3)] [0] (two (tl (tl leaf)) (two (one (two (join [] [0,4,5] g0) (tl (tl leaf)))) leaf))))) (tl leaf)))))
theorem Tryz.s115{l1p:OA}{l1l l1c:Nat}{H R}(h:Tryz.S115 l1p l1l l1c H R):Tryz.C 115 #[.slice l1p l1l l1c] H R:=vcs Tryz.tab_ok Tryz.mixed Tryz.func115 Tryz.cal115 Tryz.p115 h (by kernel_rfl)
def Tryz.S116(l1p:OA)(l1l l1c:Nat)(H:Heap)(R:Kv):Prop:=
 Tryz.C 115 #[.slice l1p l1l l1c] H fun r2 H3=> ∃r4 r5,r2= .tuple #[.int .i64 r4,.bool r5]∧ ∀J6:Kl,(∀H7,(0≤(l1l:Int)∧(l1l:Int)≤(l1l:Int)∧((8:Nat):Int)*(l1l:Int)≤281474976710656∧(l1l:Int)≤281474976710656∧alc H7 (.cells (List.toArray (reps (toNat (l1l:Int)) (Array.toList #[.int .i64 0]))) 3) fun b8 H9=> ∀X10:Kl,(∀(co11 la12 n13:Int) H14,(br (decide (n13≤16)) (∀X15:Kl,(∀(co16 la17 s18:Int) H19,(br (decide (s18<(l1l:Int))) (∃a20,l1p=some a20∧0≤s18∧s18<(l1l:Int)∧ ∃v21,cell H19 (.add a20 (toNat s18*1))=some (.int .i64 v21)∧br (v21 != n13) (X15 [.int .i64 co16,.int .i64 la17,.int .i64 (wrap .i64 (s18+1))] H19) (∀J22:Kl,(∀(co23:Int) H24,(∃a25,(some ⟨b8,0,none⟩)=some a25∧0≤s18∧s18<(((toNat (l1l:Int)):Nat):Int)∧stAt H24 (.add a25 (toNat s18*1)) [.int .i64 co23] fun H26=>X15 [.int .i64 co23,.int .i64 n13,.int .i64 (wrap .i64 (s18+1))] H26)→J22 [.int .i64 co23] H24)→br (decide (la17>0)) (0≤(wrap .i64 (n13-la17))∧J22 [.int .i64 (shlI .i64 (wrap .i64 (co16+1)) (wrap .i64 (n13-la17)))] H19) (J22 [.int .i64 co16] H19))) (X10 [.int .i64 co16,.int .i64 la17,.int .i64 (wrap .i64 (n13+1))] H19))→X15 [.int .i64 co16,.int .i64 la17,.int .i64 s18] H19)→X15 [.int .i64 co11,.int .i64 la12,.int .i64 0] H14) (R (.tuple #[.slice (some ⟨b8,0,none⟩) (toNat (l1l:Int)) (toNat (l1l:Int)),.bool true]) H14))→X10 [.int .i64 co11,.int .i64 la12,.int .i64 n13] H14)→X10 [.int .i64 0,.int .i64 0,.int .i64 1] H9)→J6 [] H7)→
 br (!r5) (R (.tuple #[.slice none 0 0,.bool false]) H3) (br (decide (r4>65536)) (R (.tuple #[.slice none 0 0,.bool false]) H3) (J6 [] H3))
def Tryz.p116:Plan:=(tl (tl (two (join [] [0] g0) (tl (tl (tl (two (tl (one (loop [(7,3),(8,3),(9,3)] [0,6] (two (tl (tl leaf)) (two (one (tl (one (loop [(7,3),(8,3),(10,3)] [0,6,9] (two (tl (tl leaf)) (two (one (two (tl (tl leaf)) (two (join [(7,3)] [0,6,9,10] (tl (tl leaf))) (tl leaf)))) leaf)))))) leaf))))) (tl leaf))))))))
theorem Tryz.s116{l1p:OA}{l1l l1c:Nat}{H R}(h:Tryz.S116 l1p l1l l1c H R):Tryz.C 116 #[.slice l1p l1l l1c] H R:=vcs Tryz.tab_ok Tryz.mixed Tryz.func116 Tryz.cal116 Tryz.p116 h (by kernel_rfl)
def Tryz.S117(l1p:OA)(l1l l1c:Nat)(co2p:OA)(co2l co2c:Nat)(n3 v4:Int)(H:Heap)(R:Kv):Prop:=
 ∀X5:Kl,(∀(s6:Int) H7,(br (decide (s6<(l1l:Int))) (∃a8,l1p=some a8∧0≤s6∧s6<(l1l:Int)∧ ∃v9,cell H7 (.add a8 (toNat s6*1))=some (.int .i64 v9)∧br (v9==n3) (∃a10,co2p=some a10∧0≤s6∧s6<(co2l:Int)∧ ∃v11,cell H7 (.add a10 (toNat s6*1))=some (.int .i64 v11)∧br (v11==v4) (R (.int .i64 s6) H7) (X5 [.int .i64 (wrap .i64 (s6+1))] H7)) (X5 [.int .i64 (wrap .i64 (s6+1))] H7)) (R (.int .i64 (-1:Int)) H7))→X5 [.int .i64 s6] H7)→X5 [.int .i64 0] H
def Tryz.p117:Plan:=(tl (two (tl (one (loop [(9,3)] [0,1,2,3] (two (tl (tl leaf)) (two (one g0) leaf))))) (tl leaf)))
theorem Tryz.s117{l1p:OA}{l1l l1c:Nat}{co2p:OA}{co2l co2c:Nat}{n3 v4:Int}{H R}(h:Tryz.S117 l1p l1l l1c co2p co2l co2c n3 v4 H R):Tryz.C 117 #[.slice l1p l1l l1c,.slice co2p co2l co2c,.int .i64 n3,.int .i64 v4] H R:=vcs Tryz.tab_ok Tryz.mixed Tryz.func117 Tryz.cal117 Tryz.p117 h (by kernel_rfl)
def Tryz.S118(l1p:OA)(l1l l1c:Nat)(co2p:OA)(co2l co2c:Nat)(n3 v4:Int)(H:Heap)(R:Kv):Prop:=
 ∀X5:Kl,(∀(s6:Int) H7,(br (decide (s6<(l1l:Int))) (∃a8,l1p=some a8∧0≤s6∧s6<(l1l:Int)∧ ∃v9,cell H7 (.add a8 (toNat s6*1))=some (.int .i64 v9)∧br (decide (v9>n3)) (∃a10,co2p=some a10∧0≤s6∧s6<(co2l:Int)∧ ∃v11,cell H7 (.add a10 (toNat s6*1))=some (.int .i64 v11)∧ ∃a12,l1p=some a12∧0≤s6∧s6<(l1l:Int)∧ ∃v13,cell H7 (.add a12 (toNat s6*1))=some (.int .i64 v13)∧0≤(wrap .i64 (v13-n3))∧br (((shrI .i64 v11 (wrap .i64 (v13-n3))):Int)==v4) (R (.bool true) H7) (X5 [.int .i64 (wrap .i64 (s6+1))] H7)) (X5 [.int .i64 (wrap .i64 (s6+1))] H7)) (R (.bool false) H7))→X5 [.int .i64 s6] H7)→X5 [.int .i64 0] H
def Tryz.p118:Plan:=(tl (two (tl (one (loop [(9,3)] [0,1,2,3] (two (tl (tl leaf)) (two (one g0) leaf))))) (tl leaf)))
theorem Tryz.s118{l1p:OA}{l1l l1c:Nat}{co2p:OA}{co2l co2c:Nat}{n3 v4:Int}{H R}(h:Tryz.S118 l1p l1l l1c co2p co2l co2c n3 v4 H R):Tryz.C 118 #[.slice l1p l1l l1c,.slice co2p co2l co2c,.int .i64 n3,.int .i64 v4] H R:=vcs Tryz.tab_ok Tryz.mixed Tryz.func118 Tryz.cal118 Tryz.p118 h (by kernel_rfl)
def Tryz.S119(s1:Int)(H:Heap)(R:Kv):Prop:=
 br (s1==285)
 (R (.tuple #[.int .i64 258,.int .i64 0]) H)
 (∀X2:Kl,(∀(ba3 k4:Int) H5,(br (decide (k4<s1)) (Tryz.C 128 #[.int .i64 k4] H5 fun r6 H7=> ∃r8,r6= .int .i64 r8∧0≤r8∧X2 [.int .i64 (wrap .i64 (ba3+(shlI .i64 1 r8))),.int .i64 (wrap .i64 (k4+1))] H7) (Tryz.C 128 #[.int .i64 s1] H5 fun r9 H10=> ∃r11,r9= .int .i64 r11∧R (.tuple #[.int .i64 ba3,.int .i64 r11]) H10))→X2 [.int .i64 ba3,.int .i64 k4] H5)→X2 [.int .i64 3,.int .i64 257] H)
def Tryz.p119:Plan:=(tl (tg (tl (two (tl (one (loop [(4,3),(5,3)] [0] (two (tl (tl leaf)) (two (one leaf) leaf))))) (tl leaf)))))
theorem Tryz.s119{s1:Int}{H R}(h:Tryz.S119 s1 H R):Tryz.C 119 #[.int .i64 s1] H R:=vcs Tryz.tab_ok Tryz.mixed Tryz.func119 Tryz.cal119 Tryz.p119 h (by kernel_rfl)
def Tryz.S120(s1:Int)(H:Heap)(R:Kv):Prop:=
 ∀X2:Kl,(∀(ba3 k4:Int) H5,(br (decide (k4<s1)) (Tryz.C 129 #[.int .i64 k4] H5 fun r6 H7=> ∃r8,r6= .int .i64 r8∧0≤r8∧X2 [.int .i64 (wrap .i64 (ba3+(shlI .i64 1 r8))),.int .i64 (wrap .i64 (k4+1))] H7) (Tryz.C 129 #[.int .i64 s1] H5 fun r9 H10=> ∃r11,r9= .int .i64 r11∧R (.tuple #[.int .i64 ba3,.int .i64 r11]) H10))→X2 [.int .i64 ba3,.int .i64 k4] H5)→X2 [.int .i64 1,.int .i64 0] H
def Tryz.p120:Plan:=(tl (tl (two (tl (one (loop [(4,3),(5,3)] [0] (two (tl (tl leaf)) (two (one leaf) leaf))))) (tl leaf))))
theorem Tryz.s120{s1:Int}{H R}(h:Tryz.S120 s1 H R):Tryz.C 120 #[.int .i64 s1] H R:=vcs Tryz.tab_ok Tryz.mixed Tryz.func120 Tryz.cal120 Tryz.p120 h (by kernel_rfl)
def Tryz.S121(l1p:OA)(l1l l1c:Nat)(H:Heap)(R:Kv):Prop:=
 ∀X2:Kl,(∀(n3 i4:Int) H5,(br (decide (i4<(l1l:Int))) (∃a6,l1p=some a6∧0≤i4∧i4<(l1l:Int)∧ ∃v7,cell H5 (.add a6 (toNat i4*1))=some (.int .i64 v7)∧br (decide (v7>0)) (X2 [.int .i64 (wrap .i64 (n3+1)),.int .i64 (wrap .i64 (i4+1))] H5) (X2 [.int .i64 n3,.int .i64 (wrap .i64 (i4+1))] H5)) (R (.int .i64 n3) H5))→X2 [.int .i64 n3,.int .i64 i4] H5)→X2 [.int .i64 0,.int .i64 0] H
def Tryz.p121:Plan:=(tl (tl (two (tl (one (loop [(3,3),(4,3)] [0] (two (tl (tl leaf)) (two (one (tl (tl leaf))) leaf))))) (tl leaf))))
theorem Tryz.s121{l1p:OA}{l1l l1c:Nat}{H R}(h:Tryz.S121 l1p l1l l1c H R):Tryz.C 121 #[.slice l1p l1l l1c] H R:=vcs Tryz.tab_ok Tryz.mixed Tryz.func121 Tryz.cal121 Tryz.p121 h (by kernel_rfl)
def Tryz.S122(r1:OA)(H:Heap)(R:Kv):Prop:=
 ∃a2,r1=some a2∧ ∃b3p b3l b3c,cell H (.add a2 0)=some (.slice b3p b3l b3c)∧ ∃a4,r1=some a4∧ ∃at_5,cell H (.add a4 1)=some (.int .i64 at_5)∧R (.int .i64 (wrap .i64 ((wrap .i64 ((8:Int)*(b3l:Int)))-at_5))) H
def Tryz.p122:Plan:=(tl (tl leaf))
theorem Tryz.s122{r1:OA}{H R}(h:Tryz.S122 r1 H R):Tryz.C 122 #[.pointer r1] H R:=vcs Tryz.tab_ok Tryz.mixed Tryz.func122 Tryz.cal122 Tryz.p122 h (by kernel_rfl)
def Tryz.S123(d1:OA)(st2 bi3:Int)(H:Heap)(R:Kv):Prop:=
 ∀J4:Kl,(∀H5,(∃a6,d1=some a6∧ ∃no7p no7l no7c,cell H5 (.add a6 0)=some (.slice no7p no7l no7c)∧ ∃a8,no7p=some a8∧0≤st2∧st2<(no7l:Int)∧0≤(andI .i64 bi3 1)∧(andI .i64 bi3 1)<((2:Nat):Int)∧ ∃n9,cell H5 (.add (.add a8 (toNat st2*2)) (toNat (andI .i64 bi3 1)*1))=some (.int .i64 n9)∧br (decide (n9>0)) (R (.tuple #[.int .i64 n9,.int .i64 (-1:Int)]) H5) (br (decide (n9<0)) (R (.tuple #[.int .i64 0,.int .i64 (wrap .i64 ((-1:Int)-n9))]) H5) (R (.tuple #[.int .i64 (-1:Int),.int .i64 (-1:Int)]) H5)))→J4 [] H5)→
 br (decide (st2<0)) (R (.tuple #[.int .i64 (-1:Int),.int .i64 (-1:Int)]) H) (∃a10,d1=some a10∧ ∃no11p no11l no11c,cell H (.add a10 0)=some (.slice no11p no11l no11c)∧br (decide (st2≥(no11l:Int))) (R (.tuple #[.int .i64 (-1:Int),.int .i64 (-1:Int)]) H) (J4 [] H))
def Tryz.p123:Plan:=(tl (two (join [] [0,1,2] g0) (two (tl (one (tl (two (tl leaf) g0)))) (tl leaf))))
theorem Tryz.s123{d1:OA}{st2 bi3:Int}{H R}(h:Tryz.S123 d1 st2 bi3 H R):Tryz.C 123 #[.pointer d1,.int .i64 st2,.int .i64 bi3] H R:=vcs Tryz.tab_ok Tryz.mixed Tryz.func123 Tryz.cal123 Tryz.p123 h (by kernel_rfl)
def Tryz.S124(le1p:OA)(le1l le1c:Nat)(H:Heap)(R:Kv):Prop:=
 ∀X2:Kl,(∀(n3 t4:Int) H5,(br (decide (t4<(le1l:Int))) (∃a6,le1p=some a6∧0≤t4∧t4<(le1l:Int)∧ ∃l7,cell H5 (.add a6 (toNat t4*1))=some (.int .i64 l7)∧br (decide (l7>0)) (X2 [.int .i64 (wrap .i64 (n3+1)),.int .i64 (wrap .i64 (t4+1))] H5) (X2 [.int .i64 n3,.int .i64 (wrap .i64 (t4+1))] H5)) (R (.bool (n3==1)) H5))→X2 [.int .i64 n3,.int .i64 t4] H5)→X2 [.int .i64 0,.int .i64 0] H
def Tryz.p124:Plan:=(tl (tl (two (tl (one (loop [(3,3),(8,3)] [6,7] (tl (two (tl leaf) (two (one (tl (tl (tl leaf)))) leaf)))))) (tl leaf))))
theorem Tryz.s124{le1p:OA}{le1l le1c:Nat}{H R}(h:Tryz.S124 le1p le1l le1c H R):Tryz.C 124 #[.slice le1p le1l le1c] H R:=vcs Tryz.tab_ok Tryz.mixed Tryz.func124 Tryz.cal124 Tryz.p124 h (by kernel_rfl)
def Tryz.S125(da1p:OA)(da1l da1c:Nat)(n2:Int)(cm3g:Nat)(cm3x cm3y:AV)(H:Heap)(R:Kv):Prop:=
 ∀X4:Kl,(∀(a5 b6:Int) H7,(br (decide (b6≤n2)) (Tryz.C 130 #[.slice da1p da1l da1c,.int .i64 a5,.int .i64 b6,.func (.func cm3g) cm3x cm3y] H7 fun r8 H9=>r8= .tuple #[]∧X4 [.int .i64 b6,.int .i64 (wrap .i64 (b6+20))] H9) (Tryz.C 130 #[.slice da1p da1l da1c,.int .i64 a5,.int .i64 n2,.func (.func cm3g) cm3x cm3y] H7 fun r10 H11=>r10= .tuple #[]∧ ∀X12:Kl,(∀(bl13:Int) H14,(br (decide (bl13<n2)) (∀X15:Kl,(∀(a16 b17:Int) H18,(br (decide (b17≤n2)) (Tryz.C 131 #[.slice da1p da1l da1c,.int .i64 a16,.int .i64 (wrap .i64 (a16+bl13)),.int .i64 b17,.func (.func cm3g) cm3x cm3y] H18 fun r19 H20=>r19= .tuple #[]∧X15 [.int .i64 b17,.int .i64 (wrap .i64 (b17+(wrap .i64 ((2:Int)*bl13))))] H20) (br (decide (((wrap .i64 (a16+bl13)):Int)<n2)) (Tryz.C 131 #[.slice da1p da1l da1c,.int .i64 a16,.int .i64 (wrap .i64 (a16+bl13)),.int .i64 n2,.func (.func cm3g) cm3x cm3y] H18 fun r21 H22=>r21= .tuple #[]∧X12 [.int .i64 (wrap .i64 (bl13*2))] H22) (X12 [.int .i64 (wrap .i64 (bl13*2))] H18)))→X15 [.int .i64 a16,.int .i64 b17] H18)→X15 [.int .i64 0,.int .i64 (wrap .i64 ((2:Int)*bl13))] H14) (R (.tuple #[]) H14))→X12 [.int .i64 bl13] H14)→X12 [.int .i64 20] H11))→X4 [.int .i64 a5,.int .i64 b6] H7)→X4 [.int .i64 0,.int .i64 20] H
def Tryz.p125:Plan:=(tl (tl (two (one (loop [(7,3),(8,3)] [0,1,2,6] (two (tl (tl leaf)) (one (tl (tl leaf)))))) (tl (one (loop [(6,3)] [0,1,2] (two (tl (tl leaf)) (one (tl (two (one (loop [(7,3),(8,3)] [0,1,2,6] (two (tl (tl leaf)) (one (tl (tl leaf)))))) (two (tl (tl (tl leaf))) leaf)))))))))))
theorem Tryz.s125{da1p:OA}{da1l da1c:Nat}{n2:Int}{cm3g:Nat}{cm3x cm3y:AV}{H R}(h:Tryz.S125 da1p da1l da1c n2 cm3g cm3x cm3y H R):Tryz.C 125 #[.slice da1p da1l da1c,.int .i64 n2,.func (.func cm3g) cm3x cm3y] H R:=vcs Tryz.tab_ok Tryz.mixed Tryz.func125 Tryz.cal125 Tryz.p125 h (by kernel_rfl)
def Tryz.S126(sl1p:OA)(sl1l sl1c:Nat)(H:Heap)(R:Kv):Prop:=
 ∀X2:Kl,(∀(si3 t4:Int) H5,(br (decide (t4<(sl1l:Int))) (∃a6,sl1p=some a6∧0≤t4∧t4<(sl1l:Int)∧ ∃s7p s7l s7c,cell H5 (.add a6 (toNat t4*1))=some (.slice s7p s7l s7c)∧br (decide (((wrap .i64 (si3+(s7l:Int))):Int)<0)) (False) (X2 [.int .i64 (wrap .i64 (si3+(s7l:Int))),.int .i64 (wrap .i64 (t4+1))] H5)) (Tryz.C 132 #[.slice none 0 0,.int .i64 si3] H5 fun r8 H9=> ∃ne10p ne10l ne10c,r8= .slice ne10p ne10l ne10c∧ ∀X11:Kl,(∀(ne12p:OA) (ne12l ne12c:Nat) (t13:Int) H14,(br (decide (t13<(sl1l:Int))) (∃a15,sl1p=some a15∧0≤t13∧t13<(sl1l:Int)∧ ∃s16p s16l s16c,cell H14 (.add a15 (toNat t13*1))=some (.slice s16p s16l s16c)∧appQ 2 32 #[.int .i64 0,.slice none 0 0] H14 ne12p ne12l ne12c s16p s16l 165 fun ne17p ne17l ne17c H18=>X11 [.slice ne17p ne17l ne17c,.int .i64 (wrap .i64 (t13+1))] H18) (R (.slice ne12p ne12l ne12c) H14))→X11 [.slice ne12p ne12l ne12c,.int .i64 t13] H14)→X11 [.slice ne10p ne10l ne10c,.int .i64 0] H9))→X2 [.int .i64 si3,.int .i64 t4] H5)→X2 [.int .i64 0,.int .i64 0] H
def Tryz.p126:Plan:=(tl (tl (two (tl (one (loop [(3,3),(11,3)] [0,9,10] (tl (two (tl leaf) (two (one (tl (tl (tl (tl leaf))))) leaf)))))) (tl (two (tl (one (loop [(6,163),(27,3)] [25,26] (tl (two (tl leaf) (two (one (tl leaf)) leaf)))))) (tl leaf))))))
theorem Tryz.s126{sl1p:OA}{sl1l sl1c:Nat}{H R}(h:Tryz.S126 sl1p sl1l sl1c H R):Tryz.C 126 #[.slice sl1p sl1l sl1c] H R:=vcs Tryz.tab_ok Tryz.mixed Tryz.func126 Tryz.cal126 Tryz.p126 h (by kernel_rfl)
def Tryz.S127(x1 y2:AV)(H:Heap)(R:Kv):Prop:=
 alc H (.cells x1 165) fun b3 H4=>alc H4 (.cells y2 165) fun b5 H6=> ∃co7,cell H6 (.add ⟨b3,0,none⟩ 0)=some (.int .i64 co7)∧ ∃co8,cell H6 (.add ⟨b5,0,none⟩ 0)=some (.int .i64 co8)∧R (.int .i64 (wrap .i64 (co7-co8))) H6
def Tryz.p127:Plan:=(tl (tl leaf))
theorem Tryz.s127{x1 y2:AV}{H R}(h:Tryz.S127 x1 y2 H R):Tryz.C 127 #[.agg x1,.agg y2] H R:=vcs Tryz.tab_ok Tryz.mixed Tryz.func127 Tryz.cal127 Tryz.p127 h (by kernel_rfl)
def Tryz.S128(s1:Int)(H:Heap)(R:Kv):Prop:=
 br (decide (s1<265))
 (R (.int .i64 0) H)
 ((4:Int)≠0∧R (.int .i64 (wrap .i64 (Int.tdiv (wrap .i64 (s1-261)) 4))) H)
def Tryz.p128:Plan:=(tl (tg (tl leaf)))
theorem Tryz.s128{s1:Int}{H R}(h:Tryz.S128 s1 H R):Tryz.C 128 #[.int .i64 s1] H R:=vcs Tryz.tab_ok Tryz.mixed Tryz.func128 Tryz.cal128 Tryz.p128 h (by kernel_rfl)
def Tryz.S129(s1:Int)(H:Heap)(R:Kv):Prop:=
 br (decide (s1<4))
 (R (.int .i64 0) H)
 ((2:Int)≠0∧R (.int .i64 (wrap .i64 (Int.tdiv (wrap .i64 (s1-2)) 2))) H)
def Tryz.p129:Plan:=(tl (tg (tl leaf)))
theorem Tryz.s129{s1:Int}{H R}(h:Tryz.S129 s1 H R):Tryz.C 129 #[.int .i64 s1] H R:=vcs Tryz.tab_ok Tryz.mixed Tryz.func129 Tryz.cal129 Tryz.p129 h (by kernel_rfl)
def Tryz.S130(da1p:OA)(da1l da1c:Nat)(a2 b3:Int)(cm4g:Nat)(cm4x cm4y:AV)(H:Heap)(R:Kv):Prop:=
 ∀X5:Kl,(∀(i6:Int) H7,(br (decide (i6<b3)) (∀X8:Kl,(∀(j9:Int) H10,(∀J11:Kl,(∀H12,(∃a13,da1p=some a13∧0≤(wrap .i64 (j9-1))∧(wrap .i64 (j9-1))<(da1l:Int)∧ ∃v14,v14.size=2∧rowIn H12 (.add a13 (toNat (wrap .i64 (j9-1))*2)) v14∧ ∃a15,da1p=some a15∧0≤j9∧j9<(da1l:Int)∧ ∃v16,v16.size=2∧rowIn H12 (.add a15 (toNat j9*2)) v16∧ ∃a17,da1p=some a17∧0≤j9∧j9<(da1l:Int)∧v14.size=2∧stAt H12 (.add a17 (toNat j9*2)) v14.toList fun H18=> ∃a19,da1p=some a19∧0≤(wrap .i64 (j9-1))∧(wrap .i64 (j9-1))<(da1l:Int)∧v16.size=2∧stAt H18 (.add a19 (toNat (wrap .i64 (j9-1))*2)) v16.toList fun H20=>X8 [.int .i64 (wrap .i64 (j9-1))] H20)→J11 [] H12)→br (decide (j9>a2)) (∃a21,da1p=some a21∧0≤j9∧j9<(da1l:Int)∧ ∃v22,v22.size=2∧rowIn H10 (.add a21 (toNat j9*2)) v22∧ ∃a23,da1p=some a23∧0≤(wrap .i64 (j9-1))∧(wrap .i64 (j9-1))<(da1l:Int)∧ ∃v24,v24.size=2∧rowIn H10 (.add a23 (toNat (wrap .i64 (j9-1))*2)) v24∧Tryz.C cm4g (List.toArray (Array.toList cm4x++[Value.agg v22,Value.agg v24]++Array.toList cm4y)) H10 fun r25 H26=> ∃r27,r25= .int .i64 r27∧br (decide (r27<0)) (J11 [] H26) (X5 [.int .i64 (wrap .i64 (i6+1))] H26)) (X5 [.int .i64 (wrap .i64 (i6+1))] H10))→X8 [.int .i64 j9] H10)→X8 [.int .i64 i6] H7) (R (.tuple #[]) H7))→X5 [.int .i64 i6] H7)→X5 [.int .i64 (wrap .i64 (a2+1))] H
def Tryz.p130:Plan:=(tl (one (loop [(8,3)] [0,1,2,3] (two (tl (tl leaf)) (two (one (tl (one (loop [(9,3)] [0,1,2,3,8] (two (join [] [0,1,2,3,8,9] (tl (tl leaf))) (two (one leaf) leaf)))))) leaf)))))
theorem Tryz.s130{da1p:OA}{da1l da1c:Nat}{a2 b3:Int}{cm4g:Nat}{cm4x cm4y:AV}{H R}(h:Tryz.S130 da1p da1l da1c a2 b3 cm4g cm4x cm4y H R):Tryz.C 130 #[.slice da1p da1l da1c,.int .i64 a2,.int .i64 b3,.func (.func cm4g) cm4x cm4y] H R:=vcs Tryz.tab_ok Tryz.mixed Tryz.func130 Tryz.cal130 Tryz.p130 h (by kernel_rfl)
def Tryz.S131(da1p:OA)(da1l da1c:Nat)(a2 m3 b4:Int)(cm5g:Nat)(cm5x cm5y:AV)(H:Heap)(R:Kv):Prop:=
 br (((wrap .i64 (m3-a2)):Int)==1)
 (∀X6:Kl,(∀(i7 j8:Int) H9,(br (decide (i7<j8)) (0≤(1:Int)∧ ∃a10,da1p=some a10∧0≤(wrap .i64 (shrI .u64 (wrap .u64 (wrap .i64 (i7+j8))) 1))∧(wrap .i64 (shrI .u64 (wrap .u64 (wrap .i64 (i7+j8))) 1))<(da1l:Int)∧ ∃v11,v11.size=2∧rowIn H9 (.add a10 (toNat (wrap .i64 (shrI .u64 (wrap .u64 (wrap .i64 (i7+j8))) 1))*2)) v11∧ ∃a12,da1p=some a12∧0≤a2∧a2<(da1l:Int)∧ ∃v13,v13.size=2∧rowIn H9 (.add a12 (toNat a2*2)) v13∧Tryz.C cm5g (List.toArray (Array.toList cm5x++[Value.agg v11,Value.agg v13]++Array.toList cm5y)) H9 fun r14 H15=> ∃r16,r14= .int .i64 r16∧br (decide (r16<0)) (X6 [.int .i64 (wrap .i64 ((wrap .i64 (shrI .u64 (wrap .u64 (wrap .i64 (i7+j8))) 1))+1)),.int .i64 j8] H15) (X6 [.int .i64 i7,.int .i64 (wrap .i64 (shrI .u64 (wrap .u64 (wrap .i64 (i7+j8))) 1))] H15)) (∀X17:Kl,(∀(k18:Int) H19,(br (decide (k18<(wrap .i64 (i7-1)))) (∃a20,da1p=some a20∧0≤(wrap .i64 (k18+1))∧(wrap .i64 (k18+1))<(da1l:Int)∧ ∃v21,v21.size=2∧rowIn H19 (.add a20 (toNat (wrap .i64 (k18+1))*2)) v21∧ ∃a22,da1p=some a22∧0≤k18∧k18<(da1l:Int)∧ ∃v23,v23.size=2∧rowIn H19 (.add a22 (toNat k18*2)) v23∧ ∃a24,da1p=some a24∧0≤k18∧k18<(da1l:Int)∧v21.size=2∧stAt H19 (.add a24 (toNat k18*2)) v21.toList fun H25=> ∃a26,da1p=some a26∧0≤(wrap .i64 (k18+1))∧(wrap .i64 (k18+1))<(da1l:Int)∧v23.size=2∧stAt H25 (.add a26 (toNat (wrap .i64 (k18+1))*2)) v23.toList fun H27=>X17 [.int .i64 (wrap .i64 (k18+1))] H27) (R (.tuple #[]) H19))→X17 [.int .i64 k18] H19)→X17 [.int .i64 a2] H9))→X6 [.int .i64 i7,.int .i64 j8] H9)→X6 [.int .i64 m3,.int .i64 b4] H)
 (br (((wrap .i64 (b4-m3)):Int)==1) (∀X28:Kl,(∀(i29 j30:Int) H31,(br (decide (i29<j30)) (0≤(1:Int)∧ ∃a32,da1p=some a32∧0≤m3∧m3<(da1l:Int)∧ ∃v33,v33.size=2∧rowIn H31 (.add a32 (toNat m3*2)) v33∧ ∃a34,da1p=some a34∧0≤(wrap .i64 (shrI .u64 (wrap .u64 (wrap .i64 (i29+j30))) 1))∧(wrap .i64 (shrI .u64 (wrap .u64 (wrap .i64 (i29+j30))) 1))<(da1l:Int)∧ ∃v35,v35.size=2∧rowIn H31 (.add a34 (toNat (wrap .i64 (shrI .u64 (wrap .u64 (wrap .i64 (i29+j30))) 1))*2)) v35∧Tryz.C cm5g (List.toArray (Array.toList cm5x++[Value.agg v33,Value.agg v35]++Array.toList cm5y)) H31 fun r36 H37=> ∃r38,r36= .int .i64 r38∧br (!(decide (r38<0))) (X28 [.int .i64 (wrap .i64 ((wrap .i64 (shrI .u64 (wrap .u64 (wrap .i64 (i29+j30))) 1))+1)),.int .i64 j30] H37) (X28 [.int .i64 i29,.int .i64 (wrap .i64 (shrI .u64 (wrap .u64 (wrap .i64 (i29+j30))) 1))] H37)) (∀X39:Kl,(∀(k40:Int) H41,(br (decide (k40>i29)) (∃a42,da1p=some a42∧0≤(wrap .i64 (k40-1))∧(wrap .i64 (k40-1))<(da1l:Int)∧ ∃v43,v43.size=2∧rowIn H41 (.add a42 (toNat (wrap .i64 (k40-1))*2)) v43∧ ∃a44,da1p=some a44∧0≤k40∧k40<(da1l:Int)∧ ∃v45,v45.size=2∧rowIn H41 (.add a44 (toNat k40*2)) v45∧ ∃a46,da1p=some a46∧0≤k40∧k40<(da1l:Int)∧v43.size=2∧stAt H41 (.add a46 (toNat k40*2)) v43.toList fun H47=> ∃a48,da1p=some a48∧0≤(wrap .i64 (k40-1))∧(wrap .i64 (k40-1))<(da1l:Int)∧v45.size=2∧stAt H47 (.add a48 (toNat (wrap .i64 (k40-1))*2)) v45.toList fun H49=>X39 [.int .i64 (wrap .i64 (k40-1))] H49) (R (.tuple #[]) H41))→X39 [.int .i64 k40] H41)→X39 [.int .i64 m3] H31))→X28 [.int .i64 i29,.int .i64 j30] H31)→X28 [.int .i64 a2,.int .i64 m3] H) (0≤(1:Int)∧ ∀J50:Kl,(∀(st51 r52:Int) H53,(∀X54:Kl,(∀(st55 r56:Int) H57,(br (decide (st55<r56)) (0≤(1:Int)∧ ∃a58,da1p=some a58∧0≤(wrap .i64 ((wrap .i64 ((wrap .i64 ((wrap .i64 (shrI .u64 (wrap .u64 (wrap .i64 (a2+b4))) 1))+m3))-1))-(wrap .i64 (shrI .u64 (wrap .u64 (wrap .i64 (st55+r56))) 1))))∧(wrap .i64 ((wrap .i64 ((wrap .i64 ((wrap .i64 (shrI .u64 (wrap .u64 (wrap .i64 (a2+b4))) 1))+m3))-1))-(wrap .i64 (shrI .u64 (wrap .u64 (wrap .i64 (st55+r56))) 1))))<(da1l:Int)∧ ∃v59,v59.size=2∧rowIn H57 (.add a58 (toNat (wrap .i64 ((wrap .i64 ((wrap .i64 ((wrap .i64 (shrI .u64 (wrap .u64 (wrap .i64 (a2+b4))) 1))+m3))-1))-(wrap .i64 (shrI .u64 (wrap .u64 (wrap .i64 (st55+r56))) 1))))*2)) v59∧ ∃a60,da1p=some a60∧0≤(wrap .i64 (shrI .u64 (wrap .u64 (wrap .i64 (st55+r56))) 1))∧(wrap .i64 (shrI .u64 (wrap .u64 (wrap .i64 (st55+r56))) 1))<(da1l:Int)∧ ∃v61,v61.size=2∧rowIn H57 (.add a60 (toNat (wrap .i64 (shrI .u64 (wrap .u64 (wrap .i64 (st55+r56))) 1))*2)) v61∧Tryz.C cm5g (List.toArray (Array.toList cm5x++[Value.agg v59,Value.agg v61]++Array.toList cm5y)) H57 fun r62 H63=> ∃r64,r62= .int .i64 r64∧br (!(decide (r64<0))) (X54 [.int .i64 (wrap .i64 ((wrap .i64 (shrI .u64 (wrap .u64 (wrap .i64 (st55+r56))) 1))+1)),.int .i64 r56] H63) (X54 [.int .i64 st55,.int .i64 (wrap .i64 (shrI .u64 (wrap .u64 (wrap .i64 (st55+r56))) 1))] H63)) (∀J65:Kl,(∀H66,(∀J67:Kl,(∀H68,(br (decide (((wrap .i64 (shrI .u64 (wrap .u64 (wrap .i64 (a2+b4))) 1)):Int)<(wrap .i64 ((wrap .i64 ((wrap .i64 (shrI .u64 (wrap .u64 (wrap .i64 (a2+b4))) 1))+m3))-st55)))) (br (decide (((wrap .i64 ((wrap .i64 ((wrap .i64 (shrI .u64 (wrap .u64 (wrap .i64 (a2+b4))) 1))+m3))-st55)):Int)<b4)) (Tryz.C 131 #[.slice da1p da1l da1c,.int .i64 (wrap .i64 (shrI .u64 (wrap .u64 (wrap .i64 (a2+b4))) 1)),.int .i64 (wrap .i64 ((wrap .i64 ((wrap .i64 (shrI .u64 (wrap .u64 (wrap .i64 (a2+b4))) 1))+m3))-st55)),.int .i64 b4,.func (.func cm5g) cm5x cm5y] H68 fun r69 H70=>r69= .tuple #[]∧R (.tuple #[]) H70) (R (.tuple #[]) H68)) (R (.tuple #[]) H68))→J67 [] H68)→br (decide (a2<st55)) (br (decide (st55<(wrap .i64 (shrI .u64 (wrap .u64 (wrap .i64 (a2+b4))) 1)))) (Tryz.C 131 #[.slice da1p da1l da1c,.int .i64 a2,.int .i64 st55,.int .i64 (wrap .i64 (shrI .u64 (wrap .u64 (wrap .i64 (a2+b4))) 1)),.func (.func cm5g) cm5x cm5y] H66 fun r71 H72=>r71= .tuple #[]∧J67 [] H72) (J67 [] H66)) (J67 [] H66))→J65 [] H66)→br (decide (st55<m3)) (br (decide (m3<(wrap .i64 ((wrap .i64 ((wrap .i64 (shrI .u64 (wrap .u64 (wrap .i64 (a2+b4))) 1))+m3))-st55)))) (Tryz.C 133 #[.slice da1p da1l da1c,.int .i64 st55,.int .i64 m3,.int .i64 (wrap .i64 ((wrap .i64 ((wrap .i64 (shrI .u64 (wrap .u64 (wrap .i64 (a2+b4))) 1))+m3))-st55)),.func (.func cm5g) cm5x cm5y] H57 fun r73 H74=>r73= .tuple #[]∧J65 [] H74) (J65 [] H57)) (J65 [] H57)))→X54 [.int .i64 st55,.int .i64 r56] H57)→X54 [.int .i64 st51,.int .i64 r52] H53)→J50 [.int .i64 st51,.int .i64 r52] H53)→br (decide (m3>(wrap .i64 (shrI .u64 (wrap .u64 (wrap .i64 (a2+b4))) 1)))) (J50 [.int .i64 (wrap .i64 ((wrap .i64 ((wrap .i64 (shrI .u64 (wrap .u64 (wrap .i64 (a2+b4))) 1))+m3))-b4)),.int .i64 (wrap .i64 (shrI .u64 (wrap .u64 (wrap .i64 (a2+b4))) 1))] H) (J50 [.int .i64 a2,.int .i64 m3] H)))
def Tryz.p131:Plan:=(two (tl (two (tl (tl (two (one (loop [(10,3),(11,3)] [0,1,4] (two (tl (tl leaf)) (one (tl (tl (tl leaf))))))) (two (tl (one (loop [(13,3)] [0,10] (two (tl (tl leaf)) (two (one leaf) leaf))))) leaf)))) leaf)) (two (tl (two (tl (tl (two (one (loop [(14,3),(15,3)] [0,2,4] (two (tl (tl leaf)) (one (tl (tl (tl leaf))))))) (two (tl (one (loop [(17,3)] [0,14] (two (tl (tl leaf)) (two (one leaf) leaf))))) leaf)))) leaf)) (tl (tl (tl (two (join [(20,3),(21,3)] [0,1,2,3,4,18,19] (tl (two (tl leaf) (tl leaf)))) (tl (two (one (loop [(20,3),(21,3)] [0,1,2,3,4,18,19,22] (two (tl (tl leaf)) (one (tl (tl (tl leaf))))))) (tl (two (join [] [0,1,3,4,18,20,24] (tl (tl leaf))) (two (join [] [0,3,4,18,24] (tl (tl leaf))) (tl (tl leaf)))))))))))))
theorem Tryz.s131{da1p:OA}{da1l da1c:Nat}{a2 m3 b4:Int}{cm5g:Nat}{cm5x cm5y:AV}{H R}(h:Tryz.S131 da1p da1l da1c a2 m3 b4 cm5g cm5x cm5y H R):Tryz.C 131 #[.slice da1p da1l da1c,.int .i64 a2,.int .i64 m3,.int .i64 b4,.func (.func cm5g) cm5x cm5y] H R:=vcs Tryz.tab_ok Tryz.mixed Tryz.func131 Tryz.cal131 Tryz.p131 h (by kernel_rfl)
def Tryz.S132(s1p:OA)(s1l s1c:Nat)(n2:Int)(H:Heap)(R:Kv):Prop:=
 ∀J3:Kl,(∀H4,(br (decide (((wrap .i64 (n2-(wrap .i64 ((s1c:Int)-(s1l:Int))))):Int)>0)) (0≤(s1c:Int)∧(s1c:Int)≤(s1c:Int)∧appZ 2 32 #[.int .i64 0,.slice none 0 0] H4 (if s1c=0 then s1p else Option.map (fun x=>Addr.add x (0*2)) s1p) ((toNat (s1c:Int))-0) (s1c-0) (wrap .i64 (n2-(wrap .i64 ((s1c:Int)-(s1l:Int))))) 165 fun ap5p ap5l ap5c H6=>0≤(s1l:Int)∧(s1l:Int)≤(ap5c:Int)∧R (.slice (if ap5c=0 then ap5p else Option.map (fun x=>Addr.add x (0*2)) ap5p) ((toNat (s1l:Int))-0) (ap5c-0)) H6) (R (.slice s1p s1l s1c) H4))→J3 [] H4)→
 br (decide (n2<0))
 (False)
 (J3 [] H)
def Tryz.p132:Plan:=(tl (two (join [] [0,1] (tl (tl leaf))) (two (tl (tl (tl leaf))) (tl leaf))))
theorem Tryz.s132{s1p:OA}{s1l s1c:Nat}{n2:Int}{H R}(h:Tryz.S132 s1p s1l s1c n2 H R):Tryz.C 132 #[.slice s1p s1l s1c,.int .i64 n2] H R:=vcs Tryz.tab_ok Tryz.mixed Tryz.func132 Tryz.cal132 Tryz.p132 h (by kernel_rfl)
end Go.Proofs
namespace Go.Proofs
open Go.Sh Go.Sh.Plan
open Go.IntKind (wrap)
open Int (toNat)
def Tryz.S133(da1p:OA)(da1l da1c:Nat)(a2 m3 b4:Int)(cm5g:Nat)(cm5x cm5y:AV)(H:Heap)(R:Kv):Prop:=
 ∀X6:Kl,(∀(i7 j8:Int) H9,(br (i7 != j8) (br (decide (i7>j8)) (Tryz.C 134 #[.slice da1p da1l da1c,.int .i64 (wrap .i64 (m3-i7)),.int .i64 m3,.int .i64 j8,.func (.func cm5g) cm5x cm5y] H9 fun r10 H11=>r10= .tuple #[]∧X6 [.int .i64 (wrap .i64 (i7-j8)),.int .i64 j8] H11) (Tryz.C 134 #[.slice da1p da1l da1c,.int .i64 (wrap .i64 (m3-i7)),.int .i64 (wrap .i64 ((wrap .i64 (m3+j8))-i7)),.int .i64 i7,.func (.func cm5g) cm5x cm5y] H9 fun r12 H13=>r12= .tuple #[]∧X6 [.int .i64 i7,.int .i64 (wrap .i64 (j8-i7))] H13)) (Tryz.C 134 #[.slice da1p da1l da1c,.int .i64 (wrap .i64 (m3-i7)),.int .i64 m3,.int .i64 i7,.func (.func cm5g) cm5x cm5y] H9 fun r14 H15=>r14= .tuple #[]∧R (.tuple #[]) H15))→X6 [.int .i64 i7,.int .i64 j8] H9)→X6 [.int .i64 (wrap .i64 (m3-a2)),.int .i64 (wrap .i64 (b4-m3))] H
def Tryz.p133:Plan:=(tl (tl (two (one (loop [(10,3),(11,3)] [0,2,4] (two (tl (tl leaf)) (one (tl (two (tl leaf) (tl leaf))))))) leaf)))
theorem Tryz.s133{da1p:OA}{da1l da1c:Nat}{a2 m3 b4:Int}{cm5g:Nat}{cm5x cm5y:AV}{H R}(h:Tryz.S133 da1p da1l da1c a2 m3 b4 cm5g cm5x cm5y H R):Tryz.C 133 #[.slice da1p da1l da1c,.int .i64 a2,.int .i64 m3,.int .i64 b4,.func (.func cm5g) cm5x cm5y] H R:=vcs Tryz.tab_ok Tryz.mixed Tryz.func133 Tryz.cal133 Tryz.p133 h (by kernel_rfl)
def Tryz.S134(da1p:OA)(da1l da1c:Nat)(a2 b3 n4:Int)(cm5g:Nat)(cm5x cm5y:AV)(H:Heap)(R:Kv):Prop:=
 ∀X6:Kl,(∀(i7:Int) H8,(br (decide (i7<n4)) (∃a9,da1p=some a9∧0≤(wrap .i64 (b3+i7))∧(wrap .i64 (b3+i7))<(da1l:Int)∧ ∃v10,v10.size=2∧rowIn H8 (.add a9 (toNat (wrap .i64 (b3+i7))*2)) v10∧ ∃a11,da1p=some a11∧0≤(wrap .i64 (a2+i7))∧(wrap .i64 (a2+i7))<(da1l:Int)∧ ∃v12,v12.size=2∧rowIn H8 (.add a11 (toNat (wrap .i64 (a2+i7))*2)) v12∧ ∃a13,da1p=some a13∧0≤(wrap .i64 (a2+i7))∧(wrap .i64 (a2+i7))<(da1l:Int)∧v10.size=2∧stAt H8 (.add a13 (toNat (wrap .i64 (a2+i7))*2)) v10.toList fun H14=> ∃a15,da1p=some a15∧0≤(wrap .i64 (b3+i7))∧(wrap .i64 (b3+i7))<(da1l:Int)∧v12.size=2∧stAt H14 (.add a15 (toNat (wrap .i64 (b3+i7))*2)) v12.toList fun H16=>X6 [.int .i64 (wrap .i64 (i7+1))] H16) (R (.tuple #[]) H8))→X6 [.int .i64 i7] H8)→X6 [.int .i64 0] H
def Tryz.p134:Plan:=(tl (one (loop [(10,3)] [0,1,2,3] (two (tl (tl leaf)) (two (one leaf) leaf)))))
theorem Tryz.s134{da1p:OA}{da1l da1c:Nat}{a2 b3 n4:Int}{cm5g:Nat}{cm5x cm5y:AV}{H R}(h:Tryz.S134 da1p da1l da1c a2 b3 n4 cm5g cm5x cm5y H R):Tryz.C 134 #[.slice da1p da1l da1c,.int .i64 a2,.int .i64 b3,.int .i64 n4,.func (.func cm5g) cm5x cm5y] H R:=vcs Tryz.tab_ok Tryz.mixed Tryz.func134 Tryz.cal134 Tryz.p134 h (by kernel_rfl)
end Go.Proofs
namespace Go.Sh
def ints(l:List Int):List Value:=l.map (Value.int .i64)
theorem ints_get{l:List Int}{i:Nat}{v:Int}(h:l[i]?=some v):(ints l)[i]?=some (Value.int .i64 v):=by simp[ints,h]
theorem ints_len(l:List Int):(ints l).length=l.length:=by simp[ints]
theorem ints_append(a b:List Int):ints (a++b)=ints a++ints b:=by simp[ints]
theorem ints_set(l:List Int)(i:Nat)(v:Int):(ints l).set i (.int .i64 v)=ints (l.set i v):=by simp[ints]
theorem ints_one(l:List Int): ∀v∈ints l,v.oneCell'=true:=fun v hv=>by
 obtain⟨x,_,rfl⟩:=List.mem_map.1 hv;rfl
structure RS(H:Heap)(p:Option Addr)(l:Nat)(el:TypeId)(k:Nat)(fs:List Value):Prop where
 len:fs.length=l*k
 one: ∀v∈fs,v.oneCell'=true
 at_:l=0∨ ∃blk cs,p=some ⟨blk,0,none⟩∧H[blk]?=some (.cells cs el)∧ ∀(i:Nat) v,fs[i]?=some v→cs[i]?=some v
structure FS(n0:Nat)(H:Heap)(p:Option Addr)(l c:Nat)(el:TypeId)(k:Nat)(fs:List Value):Prop where
 len:fs.length=l*k
 le:l≤c
 one: ∀v∈fs,v.oneCell'=true
 at_:(p=none∧c=0)∨ ∃blk cs,p=some ⟨blk,0,none⟩∧n0≤blk∧H[blk]?=some (.cells cs el)∧cs.size=c*k∧ ∀(i:Nat) v,fs[i]?=some v→cs[i]?=some v
theorem FS.rs{n0:Nat}{H:Heap}{p:Option Addr}{l c:Nat}{el:TypeId}{k:Nat}{fs:List Value}(h:FS n0 H p l c el k fs):RS H p l el k fs:=by
 refine⟨h.len,h.one,?_⟩
 rcases h.at_ with ⟨_,h2⟩|⟨blk,cs,h1,_,h3,_,h5⟩
 ·left;have:=h.le;omega
 ·exact .inr ⟨blk,cs,h1,h3,h5⟩
theorem RS.keep{H H':Heap}{p:Option Addr}{l:Nat}{el:TypeId}{k:Nat}{fs:List Value}(h:RS H p l el k fs)(hk: ∀b cs,p=some ⟨b,0,none⟩→H[b]?=some (.cells cs el)→H'[b]?=some (.cells cs el)):RS H' p l el k fs:=by
 refine⟨h.len,h.one,?_⟩
 rcases h.at_ with h1|⟨blk,cs,h1,h3,h5⟩
 ·exact .inl h1
 ·exact .inr ⟨blk,cs,h1,hk _ _ h1 h3,h5⟩
theorem RS.ext{H H':Heap}{p:Option Addr}{l:Nat}{el:TypeId}{k:Nat}{fs:List Value}(h:RS H p l el k fs)(he:Ext H H'):RS H' p l el k fs:=h.keep fun b cs _ hb=>he _ _ hb
theorem FS.keep{n0:Nat}{H H':Heap}{p:Option Addr}{l c:Nat}{el:TypeId}{k:Nat}{fs:List Value}(h:FS n0 H p l c el k fs)(hk: ∀b cs,p=some ⟨b,0,none⟩→H[b]?=some (.cells cs el)→H'[b]?=some (.cells cs el)):FS n0 H' p l c el k fs:=by
 refine⟨h.len,h.le,h.one,?_⟩
 rcases h.at_ with h1|⟨blk,cs,h1,h2,h3,h5⟩
 ·exact .inl h1
 ·exact .inr ⟨blk,cs,h1,h2,hk _ _ h1 h3,h5⟩
theorem FS.ext{n0:Nat}{H H':Heap}{p:Option Addr}{l c:Nat}{el:TypeId}{k:Nat}{fs:List Value}(h:FS n0 H p l c el k fs)(he:Ext H H'):FS n0 H' p l c el k fs:=h.keep fun b cs _ hb=>he _ _ hb
theorem FS.lower{n0 n1:Nat}{H:Heap}{p:Option Addr}{l c:Nat}{el:TypeId}{k:Nat}{fs:List Value}(h:FS n0 H p l c el k fs)(hn:n1≤n0):FS n1 H p l c el k fs:=by
 refine⟨h.len,h.le,h.one,?_⟩
 rcases h.at_ with h1|⟨blk,cs,h1,h2,h3,h5⟩
 ·exact .inl h1
 ·exact .inr ⟨blk,cs,h1,by omega,h3,h5⟩
theorem FS.nil(n0:Nat)(H:Heap)(el:TypeId)(k:Nat):FS n0 H none 0 0 el k []:=⟨by simp,Nat.le_refl _,by simp,.inl ⟨rfl,rfl⟩⟩
theorem RS.nil(H:Heap)(p:Option Addr)(el:TypeId)(k:Nat):RS H p 0 el k []:=⟨by simp,by simp,.inl rfl⟩
theorem FS.whole{n0:Nat}{H:Heap}{b l k:Nat}{el:TypeId}{cs:Array Value}(hb:n0≤b)(h:H[b]?=some (.cells cs el))(hs:cs.size=l*k)(ho: ∀v∈cs.toList,v.oneCell'=true):FS n0 H (some ⟨b,0,none⟩) l l el k cs.toList:=
 ⟨by simpa using hs,Nat.le_refl _,ho,.inr ⟨b,cs,rfl,hb,h,hs,fun i v hv=>by simpa using hv⟩⟩
theorem RS.cell{H:Heap}{p:Option Addr}{l:Nat}{el:TypeId}{k:Nat}{fs:List Value}(h:RS H p l el k fs){i:Nat}{v:Value}(hv:fs[i]?=some v): ∃blk,p=some ⟨blk,0,none⟩∧Go.Sh.cell H ⟨blk,i,none⟩=some v:=by
 rcases h.at_ with h1|⟨blk,cs,h1,h3,h5⟩
 ·have:=(List.getElem?_eq_some_iff.1 hv).1
  have:=h.len
  rw[h1] at this
  omega
 ·exact⟨blk,h1,cell_get h3 (h5 i v hv)⟩
theorem RS.row{H:Heap}{p:Option Addr}{l:Nat}{el:TypeId}{k:Nat}{fs:List Value}(h:RS H p l el k fs){i:Nat}(hi:i<l)(hk:0<k){xs:Array Value}(hx: ∀(j:Nat) v,xs[j]?=some v→fs[i*k+j]?=some v): ∃blk,p=some ⟨blk,0,none⟩∧rowIn H ⟨blk,i*k,none⟩ xs:=by
 rcases h.at_ with h1|⟨blk,cs,h1,h3,h5⟩
 ·omega
 ·exact⟨blk,h1,rowIn_block h3 fun j v hv=>h5 _ _ (hx j v hv)⟩
structure IS(H:Heap)(p:Option Addr)(l:Nat)(fs:List Value):Prop where
 len:fs.length=l
 get: ∀(i:Nat) v,fs[i]?=some v→ ∃a,p=some a∧Go.Sh.cell H (a.add i)=some v
theorem IS.ext{H H':Heap}{p:Option Addr}{l:Nat}{fs:List Value}(h:IS H p l fs)(he:Ext H H'):IS H' p l fs:=⟨h.len,fun i v hv=>let ⟨a,h1,h2⟩:=h.get i v hv;⟨a,h1,he.cell h2⟩⟩
theorem IS.cell{H:Heap}{p:Option Addr}{l:Nat}{fs:List Value}(h:IS H p l fs){i:Nat}{v:Value}(hv:fs[i]?=some v): ∃a,p=some a∧Go.Sh.cell H (a.add i)=some v:=h.get i v hv
theorem RS.is{H:Heap}{p:Option Addr}{l:Nat}{el:TypeId}{fs:List Value}(h:RS H p l el 1 fs):IS H p l fs:=
 ⟨by have:=h.len;omega,fun i v hv=>let ⟨blk,h1,h2⟩:=h.cell hv;⟨_,h1,by simpa using h2⟩⟩
theorem RS.rowOf{H:Heap}{p:Option Addr}{l:Nat}{el:TypeId}{k:Nat}{fs:List Value}(h:RS H p l el k fs):rowOf H p (l*k) fs.toArray:=by
 rcases h.at_ with h1|⟨blk,cs,h1,h3,h5⟩
 ·have:=h.len
  rw[h1,Nat.zero_mul] at this
  have:fs=[]:=List.length_eq_zero_iff.1 this
  subst this
  subst h1
  cases p with
  |none=>rfl
  |some a=>exact⟨by simp,fun j v hv=>by simp at hv⟩
 ·subst h1
  refine⟨by simp[h.len],rowIn_block h3 fun j v hv=>?_⟩
  rw[Nat.zero_add]
  exact h5 j v (by simpa using hv)
theorem setL_get{c vs:List Value}{i:Nat}(h:i+vs.length≤c.length)(j:Nat):(setL c i vs)[j]?=if i≤j∧j<i+vs.length then vs[j-i]? else c[j]?:=by
 unfold setL
 by_cases h1:j<i
 ·rw[if_neg (by omega),List.append_assoc,List.getElem?_append_left (by simp;omega),List.getElem?_take_of_lt h1]
 ·by_cases h2:j<i+vs.length
  ·rw[if_pos ⟨by omega,h2⟩,List.append_assoc,List.getElem?_append_right (by simp;omega),List.getElem?_append_left (by simp;omega)]
   congr 1
   simp;omega
  ·rw[if_neg (by omega),List.getElem?_append_right (by simp;omega),List.getElem?_drop]
   congr 1
   simp;omega
theorem setL_len{c vs:List Value}{i:Nat}(h:i+vs.length≤c.length):(setL c i vs).length=c.length:=by unfold setL;simp;omega
theorem stAt_some{H:Heap}{b i:Nat}{c:Array Value}{t:TypeId}{vs:List Value}{f:Heap→Prop}(h:H[b]?=some (.cells c t (0,0)))(hl:i+vs.length≤c.size)(ho: ∀v∈vs,v.oneCell'=true)
 (hf: ∀c':Array Value,c'.size=c.size→(∀j:Nat,c'[j]?=if i≤j∧j<i+vs.length then vs[j-i]? else c[j]?)→f (H.setIfInBounds b (.cells c' t (0,0)))):stAt H ⟨b,i,none⟩ vs f:=by
 have hl':i+vs.length≤c.toList.length:=by simpa using hl
 refine⟨c,t,h,rfl,hl,ho,?_⟩
 refine hf (setL c.toList i vs).toArray (by simp[setL_len hl']) fun j=>?_
 rw[List.getElem?_toArray,setL_get hl' j,Array.getElem?_toList (xs:=c)]
theorem FS.app'{n0:Nat}{H:Heap}{p q:Option Addr}{l c n:Nat}{el:TypeId}{k bytes:Nat}{zero:Array Value}{fs gs:List Value}(h:FS n0 H p l c el k fs)(hrow:Go.Sh.rowOf H q (n*k) gs.toArray)(hgl:gs.length=n*k)(hgo: ∀v∈gs,v.oneCell'=true)(hk:0<k)(hn:n0≤H.size)(hz:zero.size=k)
 (hb:(l+n)*bytes≤70368744177664)(hm:l+n≤1000000000000){K:Option Addr→Nat→Nat→Heap→Prop}
 (hK: ∀p' c' H',FS n0 H' p' (l+n) c' el k (fs++gs)→(∀(b:Nat) (o:Obj),H[b]?=some o→p≠some ⟨b,0,none⟩→H'[b]?=some o)→H.size≤H'.size→K p' (l+n) c' H'):appQ k bytes zero H p l c q n el K:=by
 have hfl:=h.len
 have hlen:(fs++gs).length=(l+n)*k:=by rw[List.length_append,hfl,hgl,Nat.add_mul]
 have hone: ∀v∈fs++gs,v.oneCell'=true:=fun v hv=>(List.mem_append.1 hv).elim (h.one v) (hgo v)
 refine⟨hb,by omega,gs.toArray,hrow,fun hle=>?_,fun hlt=>?_⟩
 ·rcases h.at_ with ⟨rfl,hc0⟩|⟨blk,cs,rfl,h2,h3,h4,h5⟩
  ·refine hK none c H ⟨hlen,hle,hone,.inl ⟨rfl,hc0⟩⟩ (fun b o hb _=>hb) (Nat.le_refl _)
  ·simp only[add_none,Nat.zero_add]
   have hcap:(l+n)*k≤c*k:=Nat.mul_le_mul_right k hle
   rw[Nat.add_mul] at hcap
   refine stAt_some h3 (by show l*k+gs.length≤cs.size;omega) (by simpa using hgo) fun c' hc' hg=>?_
   refine hK _ _ _ ⟨hlen,hle,hone,.inr ⟨blk,c',rfl,h2,get_set_self h3,by omega,fun i v hv=>?_⟩⟩ (fun b o hb hne=>get_set_ne (fun hh=>hne (by rw[hh])) hb) (by simp)
   rw[hg]
   by_cases hi:i<fs.length
   ·rw[if_neg (by omega)]
    rw[List.getElem?_append_left hi] at hv
    exact h5 i v hv
   ·rw[List.getElem?_append_right (by omega)] at hv
    have hlt:=(List.getElem?_eq_some_iff.1 hv).1
    rw[if_pos ⟨by omega,by show i<l*k+gs.length;omega⟩]
    rw[←hfl]
    simpa using hv
 ·have hrow: ∃ys,Go.Sh.rowOf H p (l*k) ys∧ys.toList=fs:=⟨fs.toArray,h.rs.rowOf,by simp⟩
  obtain⟨ys,hy,hvs⟩:=hrow
  refine⟨ys,hy,fun c' hc'=>?_⟩
  rw[zeroCells_eq _ _ (by omega)]
  have hcap:(l+n)*k≤c'*k:=Nat.mul_le_mul_right k hc'
  have hys:ys.size=l*k:=by rw[←Array.length_toList,hvs,hfl]
  refine hK _ _ _ ⟨hlen,hc',hone,.inr ⟨H.size,_,rfl,hn,get_push_self _ _,?_,fun i v hv=>?_⟩⟩ (fun b o hb _=>get_push hb) (by simp)
  ·simp only[Array.size_append,hys,List.size_toArray,reps_length,Array.length_toList,hz,hgl]
   rw[Nat.sub_mul]
   rw[Nat.add_mul] at hcap ⊢
   omega
  ·have hi:=(List.getElem?_eq_some_iff.1 hv).1
   rw[Array.getElem?_append_left (by simp[hys,hgl];rw[hlen,Nat.add_mul] at hi;omega)]
   have:(ys++gs.toArray).toList=fs++gs:=by simp[hvs]
   rw[←Array.getElem?_toList,this]
   exact hv
theorem FS.app{n0:Nat}{H:Heap}{p q:Option Addr}{l c n:Nat}{el:TypeId}{k bytes:Nat}{zero:Array Value}{fs gs:List Value}(h:FS n0 H p l c el k fs)(hs:RS H q n el k gs)(hk:0<k)(hn:n0≤H.size)(hz:zero.size=k)
 (hb:(l+n)*bytes≤70368744177664)(hm:l+n≤1000000000000){K:Option Addr→Nat→Nat→Heap→Prop}
 (hK: ∀p' c' H',FS n0 H' p' (l+n) c' el k (fs++gs)→(∀(b:Nat) (o:Obj),H[b]?=some o→p≠some ⟨b,0,none⟩→H'[b]?=some o)→H.size≤H'.size→K p' (l+n) c' H'):appQ k bytes zero H p l c q n el K:=
 h.app' hs.rowOf hs.len hs.one hk hn hz hb hm hK
theorem FS.set{n0:Nat}{H:Heap}{b l c:Nat}{el:TypeId}{k:Nat}{fs:List Value}{i:Nat}{v:Value}{f:Heap→Prop}(h:FS n0 H (some ⟨b,0,none⟩) l c el k fs)(hi:i<fs.length)(ho:v.oneCell'=true)
 (hf: ∀H',FS n0 H' (some ⟨b,0,none⟩) l c el k (fs.set i v)→(∀(b':Nat) (o:Obj),H[b']?=some o→b'≠b→H'[b']?=some o)→H'.size=H.size→f H'):stAt H ⟨b,i,none⟩ [v] f:=by
 have hlen:=h.len
 rcases h.at_ with ⟨h1,_⟩|⟨blk,cs,h1,h2,h3,h4,h5⟩
 ·cases h1
 ·cases h1
  have hics:i<cs.size:=by
   have:=h5 i fs[i] (List.getElem?_eq_getElem hi)
   exact(Array.getElem?_eq_some_iff.1 this).1
  refine stAt_one h3 hics ho ?_
  refine hf _ ⟨by simpa using hlen,h.le,fun u hu=>?_,.inr ⟨b,cs.setIfInBounds i v,rfl,h2,get_set_self h3,by simpa using h4,fun j u hu=>?_⟩⟩ (fun b' o hb' hne=>get_set_ne (Ne.symm hne) hb') (by simp)
  ·rcases List.mem_or_eq_of_mem_set hu with hu|rfl
   ·exact h.one u hu
   ·exact ho
  ·rw[List.getElem?_set] at hu
   rw[Array.getElem?_setIfInBounds]
   by_cases hij:i=j
   ·subst hij
    rw[if_pos rfl,if_pos hi] at hu
    rw[if_pos rfl,if_pos hics]
    exact hu
   ·rw[if_neg hij] at hu
    rw[if_neg hij]
    exact h5 j u hu
theorem zeros_FS{n0:Nat}{H:Heap}{n b:Nat}{el:TypeId}(hb:n0≤b)(h:H[b]?=some (.cells (List.toArray (reps n [Value.int .i64 0])) el)):FS n0 H (some ⟨b,0,none⟩) n n el 1 (ints (List.replicate n 0)):=by
 refine⟨by simp[ints],Nat.le_refl _,ints_one _,.inr ⟨b,_,rfl,hb,h,by simp[reps_length],fun i v hv=>?_⟩⟩
 rw[List.getElem?_toArray]
 have hi:i<n:=by have:=(List.getElem?_eq_some_iff.1 hv).1;simpa[ints] using this
 rw[reps_get [Value.int .i64 0] (by decide) n i (by simpa using hi)]
 simp only[ints,List.map_replicate,List.getElem?_replicate,if_pos hi] at hv
 simpa[Nat.mod_one] using hv
end Go.Sh
namespace Go.Sh
structure Rs where
 at_:Heap→List Nat→Prop
 loc: ∀{H H':Heap} {fp:List Nat},at_ H fp→(∀b∈fp,∀o,H[b]?=some o→H'[b]?=some o)→at_ H' fp
 has: ∀{H:Heap} {fp:List Nat},at_ H fp→ ∀b∈fp,b<H.size
def Rs.cell(b:Nat)(cs:Array Value)(ty:TypeId):Rs where
 at_ H fp:=fp=[b]∧H[b]?=some (.cells cs ty)
 loc h hk:=⟨h.1,hk _ (by rw[h.1];exact List.mem_singleton.2 rfl) _ h.2⟩
 has h b hb:=by rw[h.1,List.mem_singleton] at hb;subst hb;exact lt_of_get h.2
def Rs.sl(p:Option Addr)(l c:Nat)(el:TypeId)(k:Nat)(fs:List Value):Rs where
 at_ H fp:=FS 0 H p l c el k fs∧((p=none∧fp=[])∨ ∃blk,p=some ⟨blk,0,none⟩∧fp=[blk])
 loc h hk:=by
  refine⟨h.1.keep fun b cs hp hb=>hk b ?_ _ hb,h.2⟩
  rcases h.2 with ⟨h1,_⟩|⟨blk,h1,h2⟩
  ·rw[h1] at hp;cases hp
  ·rw[h1] at hp;cases hp;rw[h2];exact List.mem_singleton.2 rfl
 has h b hb:=by
  rcases h.2 with ⟨_,h2⟩|⟨blk,h1,h2⟩
  ·rw[h2] at hb;cases hb
  ·rw[h2,List.mem_singleton] at hb
   subst hb
   rcases h.1.at_ with ⟨h3,_⟩|⟨blk',cs,h3,_,h4,_⟩
   ·rw[h1] at h3;cases h3
   ·rw[h1] at h3;cases h3;exact lt_of_get h4
def Rs.star(r s:Rs):Rs where
 at_ H fp:= ∃a b,fp=a++b∧r.at_ H a∧s.at_ H b
 loc:=fun⟨a,b,e,h1,h2⟩ hk=>⟨a,b,e,r.loc h1 fun x hx=>hk x (by rw[e];exact List.mem_append_left _ hx),s.loc h2 fun x hx=>hk x (by rw[e];exact List.mem_append_right _ hx)⟩
 has:=fun⟨a,b,e,h1,h2⟩ x hx=>by
  rw[e] at hx
  rcases List.mem_append.1 hx with hx|hx
  ·exact r.has h1 x hx
  ·exact s.has h2 x hx
def Rs.ex{α:Type}(f:α→Rs):Rs where
 at_ H fp:= ∃a,(f a).at_ H fp
 loc:=fun⟨a,h⟩ hk=>⟨a,(f a).loc h hk⟩
 has:=fun⟨a,h⟩=>(f a).has h
def Rs.pu(q:Prop)(r:Rs):Rs where
 at_ H fp:=q∧r.at_ H fp
 loc:=fun⟨a,h⟩ hk=>⟨a,r.loc h hk⟩
 has:=fun⟨a,h⟩=>r.has h
def Lie(H:Heap):List Rs→List (List Nat)→Prop
 |[],[]=>True
 |r::σ,fp::fps=>r.at_ H fp∧Lie H σ fps
 |_,_=>False
theorem Lie.get{H:Heap}: ∀{σ:List Rs} {fps:List (List Nat)},Lie H σ fps→ ∀{i:Nat} {r:Rs},σ[i]?=some r→ ∃fp,fps[i]?=some fp∧r.at_ H fp
 |[],[],_,i,r,h=>by simp at h
 |r::σ,fp::fps,hl,0,s,h=>by simp at h;subst h;exact⟨fp,rfl,hl.1⟩
 |r::σ,fp::fps,hl,i+1,s,h=>by
  simp only[List.getElem?_cons_succ] at h ⊢
  exact Lie.get hl.2 h
theorem Lie.has{H:Heap}: ∀{σ:List Rs} {fps:List (List Nat)},Lie H σ fps→ ∀b∈fps.flatten,b<H.size
 |[],[],_,b,hb=>by simp at hb
 |r::σ,fp::fps,hl,b,hb=>by
  simp only[List.flatten_cons,List.mem_append] at hb
  rcases hb with hb|hb
  ·exact r.has hl.1 b hb
  ·exact Lie.has hl.2 b hb
theorem Lie.loc{H H':Heap}: ∀{σ:List Rs} {fps:List (List Nat)},Lie H σ fps→(∀b∈fps.flatten,∀o,H[b]?=some o→H'[b]?=some o)→Lie H' σ fps
 |[],[],_,_=>trivial
 |r::σ,fp::fps,hl,hk=>by
  simp only[List.flatten_cons,List.mem_append] at hk
  exact⟨r.loc hl.1 fun b hb=>hk b (.inl hb),Lie.loc hl.2 fun b hb=>hk b (.inr hb)⟩
theorem Lie.set {H H' : Heap} : ∀ {σ : List Rs} {fps : List (List Nat)} {i : Nat} {fp fp' : List Nat} {r' : Rs}, Lie H σ fps → fps.flatten.Nodup → fps[i]? = some fp → r'.at_ H' fp' → fp'.Nodup → (∀ b ∈ fp', b ∈ fp ∨ H.size ≤ b) →
    (∀ b o, H[b]? = some o → b ∉ fp → H'[b]? = some o) → Lie H' (σ.set i r') (fps.set i fp') ∧ (fps.set i fp').flatten.Nodup
  | [], [], i, fp, fp', r', hl, hn, hi, h, hn', hf, hk => by simp at hi
  | r :: σ, g :: fps, 0, fp, fp', r', hl, hn, hi, h, hn', hf, hk => by
    simp at hi; subst hi
    simp only [List.flatten_cons, List.nodup_append] at hn
    refine ⟨⟨h, hl.2.loc fun b hb o ho => hk b o ho fun hg => hn.2.2 b hg b hb rfl⟩, ?_⟩
    simp only [List.set_cons_zero, List.flatten_cons, List.nodup_append]
    refine ⟨hn', hn.2.1, fun a ha b hb hab => ?_⟩
    subst hab
    rcases hf a ha with h1 | h1
    · exact hn.2.2 a h1 a hb rfl
    · have := Lie.has hl.2 a hb; omega
  | r :: σ, g :: fps, i + 1, fp, fp', r', hl, hn, hi, h, hn', hf, hk => by
    simp only [List.getElem?_cons_succ] at hi
    simp only [List.flatten_cons, List.nodup_append] at hn
    obtain ⟨h1, h2⟩ := Lie.set hl.2 hn.2.1 hi h hn' hf hk
    have hmem : ∀ b ∈ fp, b ∈ fps.flatten := fun b hb => List.mem_flatten.2 ⟨fp, List.mem_of_getElem? hi, hb⟩
    refine ⟨⟨r.loc hl.1 fun b hb o ho => hk b o ho fun hg => hn.2.2 b hb b (hmem b hg) rfl, h1⟩, ?_⟩
    simp only [List.set_cons_succ, List.flatten_cons, List.nodup_append]
    refine ⟨hn.1, h2, fun a ha b hb hab => ?_⟩
    subst hab
    obtain ⟨f, hf1, hf2⟩ := List.mem_flatten.1 hb
    rcases List.mem_or_eq_of_mem_set hf1 with hf1 | rfl
    · exact hn.2.2 a ha a (List.mem_flatten.2 ⟨f, hf1, hf2⟩) rfl
    · rcases hf a hf2 with h3 | h3
      · exact hn.2.2 a ha a (hmem a h3) rfl
      · have := r.has hl.1 a ha; omega
structure St(H0 H:Heap)(σ:List Rs):Prop where
 ext:Ext H0 H
 own: ∃fps,Lie H σ fps∧fps.flatten.Nodup∧ ∀b∈fps.flatten,H0.size≤b
theorem St.nil(H:Heap):St H H []:=⟨Ext.refl H,[],trivial,by simp,by simp⟩
theorem St.of_ext{H0 H:Heap}(h:Ext H0 H):St H0 H []:=⟨h,[],trivial,by simp,by simp⟩
variable {H0 H H':Heap} {σ τ:List Rs}
theorem nodup_mem: ∀{fps:List (List Nat)},fps.flatten.Nodup→ ∀fp∈fps,fp.Nodup
 |[],_,fp,h=>by cases h
 |g::r,hn,fp,h=>by
  rw[List.flatten_cons,List.nodup_append] at hn
  rcases List.mem_cons.1 h with rfl|h
  ·exact hn.1
  ·exact nodup_mem hn.2.1 fp h
theorem St.upd(hs:St H0 H σ){i:Nat}{r r':Rs}(hi:σ[i]?=some r)
 (h: ∀fp,r.at_ H fp→fp.Nodup→(∀b∈fp,H0.size≤b)→ ∃fp',r'.at_ H' fp'∧fp'.Nodup∧(∀b∈fp',b∈fp∨H.size≤b)∧ ∀b o,H[b]?=some o→b∉fp→H'[b]?=some o):St H0 H' (σ.set i r'):=by
 obtain⟨he,fps,hl,hn,hb⟩:=hs
 obtain⟨fp,hfp,hat⟩:=hl.get hi
 have hmem: ∀b∈fp,b∈fps.flatten:=fun b hb=>List.mem_flatten.2 ⟨fp,List.mem_of_getElem? hfp,hb⟩
 have hfn:fp.Nodup:=nodup_mem hn _ (List.mem_of_getElem? hfp)
 obtain⟨fp',h1,h2,h3,h4⟩:=h fp hat hfn fun b hb'=>hb b (hmem b hb')
 obtain⟨h5,h6⟩:=hl.set hn hfp h1 h2 h3 h4
 refine⟨fun b o ho=>h4 b o (he b o ho) fun hf=>?_,_,h5,h6,fun b hb'=>?_⟩
 ·have:=hb b (hmem b hf);have:=lt_of_get ho;omega
 ·obtain⟨f,hf1,hf2⟩:=List.mem_flatten.1 hb'
  rcases List.mem_or_eq_of_mem_set hf1 with hf1|rfl
  ·exact hb b (List.mem_flatten.2 ⟨f,hf1,hf2⟩)
  ·rcases h3 b hf2 with h7|h7
   ·exact hb b (hmem b h7)
   ·have:=he.size;omega
theorem St.as(hs:St H0 H σ)(i:Nat){r r':Rs}(hi:σ[i]?=some r)(h: ∀fp,r.at_ H fp→r'.at_ H fp):St H0 H (σ.set i r'):=
 hs.upd hi fun fp h1 h2 _=>⟨fp,h fp h1,h2,fun b hb=> .inl hb,fun b o ho _=>ho⟩
theorem St.step(hs:St H0 H σ)(he:Ext H H'):St H0 H' σ:=by
 obtain⟨h1,fps,hl,hn,hb⟩:=hs
 exact⟨h1.trans he,fps,hl.loc fun b _ o ho=>he b o ho,hn,hb⟩
theorem Lie.append{H:Heap}: ∀{σ τ:List Rs} {f g:List (List Nat)},Lie H σ f→Lie H τ g→Lie H (σ++τ) (f++g)
 |[],_,[],_,_,h=>h
 |_::_,_,_::_,_,h,h'=>⟨h.1,Lie.append h.2 h'⟩
theorem Lie.split{H:Heap}: ∀{σ τ:List Rs} {f:List (List Nat)},Lie H (σ++τ) f→ ∃a b,f=a++b∧Lie H σ a∧Lie H τ b
 |[],_,f,h=>⟨[],f,rfl,trivial,h⟩
 |r::σ,τ,[],h=>h.elim
 |r::σ,τ,g::f,h=>let ⟨a,b,e,h1,h2⟩:=Lie.split h.2;⟨g::a,b,by rw[e];rfl,⟨h.1,h1⟩,h2⟩
theorem St.call(hs:St H0 H σ)(ht:St H H' τ):St H0 H' (τ++σ):=by
 obtain⟨h1,fps,hl,hn,hb⟩:=hs
 obtain⟨h2,gps,hl2,hn2,hb2⟩:=ht
 refine⟨h1.trans h2,gps++fps,hl2.append (hl.loc fun b _ o ho=>h2 b o ho),?_,fun b h=>?_⟩
 ·rw[List.flatten_append,List.nodup_append]
  refine⟨hn2,hn,fun a ha b hb' hab=>?_⟩
  subst hab
  have:=hb2 a ha;have:=hl.has a hb';omega
 ·rw[List.flatten_append,List.mem_append] at h
  rcases h with h|h
  ·have:=hb2 b h;have:=h1.size;omega
  ·exact hb b h
theorem St.perm(hs:St H0 H σ)(hp:σ.Perm τ):St H0 H τ:=by
 obtain⟨he,fps,hl,hn,hb⟩:=hs
 have: ∀{σ τ:List Rs},σ.Perm τ→ ∀fps,Lie H σ fps→ ∃gps,Lie H τ gps∧fps.Perm gps:=by
  intro σ τ hp
  induction hp with
  |nil=>intro fps h;exact⟨fps,h,List.Perm.refl _⟩
  |cons x _ ih=>
   intro fps h
   match fps,h with
   |f::fps,h=>obtain⟨g,h1,h2⟩:=ih fps h.2;exact⟨f::g,⟨h.1,h1⟩,h2.cons f⟩
  |swap x y l=>
   intro fps h
   match fps,h with
   |f::g::fps,h=>exact⟨g::f::fps,⟨h.2.1,h.1,h.2.2⟩,List.Perm.swap _ _ _⟩
  |trans _ _ ih1 ih2=>
   intro fps h
   obtain⟨g,h1,h2⟩:=ih1 fps h
   obtain⟨k,h3,h4⟩:=ih2 g h1
   exact⟨k,h3,h2.trans h4⟩
 obtain⟨gps,h1,h2⟩:=this hp fps hl
 exact⟨he,gps,h1,(h2.flatten.nodup_iff).1 hn,fun b h=>hb b ((h2.flatten.mem_iff).2 h)⟩
theorem St.app(hs:St H0 H (σ++τ)):St H0 H σ∧St H0 H τ:=by
 obtain⟨he,fps,hl,hn,hb⟩:=hs
 obtain⟨a,b,rfl,h1,h2⟩:=hl.split
 rw[List.flatten_append,List.nodup_append] at hn
 rw[List.flatten_append] at hb
 exact⟨⟨he,a,h1,hn.1,fun x hx=>hb x (List.mem_append_left _ hx)⟩,⟨he,b,h2,hn.2.1,fun x hx=>hb x (List.mem_append_right _ hx)⟩⟩
theorem St.tail{r:Rs}(hs:St H0 H (r::σ)):St H0 H σ:=(St.app (σ:=[r]) hs).2
theorem St.drop(hs:St H0 H σ)(n:Nat):St H0 H (σ.drop n):=by
 rw[←List.take_append_drop n σ] at hs
 exact hs.app.2
theorem St.take(hs:St H0 H σ)(n:Nat):St H0 H (σ.take n):=by
 rw[←List.take_append_drop n σ] at hs
 exact hs.app.1
theorem St.swap{r s:Rs}(hs:St H0 H (r::s::σ)):St H0 H (s::r::σ):=hs.perm (List.Perm.swap _ _ _)
theorem St.front(hs:St H0 H σ)(i:Nat){r:Rs}(hi:σ[i]?=some r):St H0 H (r::σ.eraseIdx i):=by
 refine hs.perm ?_
 have: ∀(l:List Rs) (i:Nat),l[i]?=some r→l.Perm (r::l.eraseIdx i):=by
  intro l
  induction l with
  |nil=>intro i h;simp at h
  |cons x l ih=>
   intro i h
   cases i with
   |zero=>simp at h;subst h;exact List.Perm.refl _
   |succ i=>exact((ih i (by simpa using h)).cons x).trans (List.Perm.swap _ _ _)
 exact this σ i hi
theorem St.back{r r':Rs}{i:Nat}(hi:σ[i]?=some r)(hs:St H0 H (r'::σ.eraseIdx i)):St H0 H (σ.set i r'):=by
 refine hs.perm ?_
 have: ∀(l:List Rs) (i:Nat),l[i]?=some r→(r'::l.eraseIdx i).Perm (l.set i r'):=by
  intro l
  induction l with
  |nil=>intro i h;simp at h
  |cons x l ih=>
   intro i h
   cases i with
   |zero=>exact List.Perm.refl _
   |succ i=>exact(List.Perm.swap _ _ _).trans ((ih i (by simpa using h)).cons x)
 exact this σ i hi
theorem St.del(hs:St H0 H σ)(i:Nat):St H0 H (σ.eraseIdx i):=by
 rcases Nat.lt_or_ge i σ.length with h|h
 ·exact(hs.front i (List.getElem?_eq_getElem h)).tail
 ·rw[List.eraseIdx_of_length_le h];exact hs
theorem St.cat{r s:Rs}(hs:St H0 H (r::s::σ)):St H0 H (.star r s::σ):=by
 obtain⟨he,fps,hl,hn,hb⟩:=hs
 match fps,hl with
 |f::g::fps,hl=>exact⟨he,(f++g)::fps,⟨⟨f,g,rfl,hl.1,hl.2.1⟩,hl.2.2⟩,by simpa using hn,fun b h=>hb b (by simpa using h)⟩
theorem St.cut{r s:Rs}(hs:St H0 H (.star r s::σ)):St H0 H (r::s::σ):=by
 obtain⟨he,fps,hl,hn,hb⟩:=hs
 match fps,hl with
 |_::fps,⟨⟨f,g,rfl,h1,h2⟩,h3⟩=>exact⟨he,f::g::fps,⟨h1,h2,h3⟩,by simpa using hn,fun b h=>hb b (by simpa using h)⟩
theorem St.unex{α:Type}{f:α→Rs}(hs:St H0 H (.ex f::σ)): ∃a,St H0 H (f a::σ):=by
 obtain⟨he,fps,hl,hn,hb⟩:=hs
 match fps,hl with
 |g::fps,⟨⟨a,h1⟩,h3⟩=>exact⟨a,he,g::fps,⟨h1,h3⟩,hn,hb⟩
theorem St.inex{α:Type}{f:α→Rs}(a:α)(hs:St H0 H (f a::σ)):St H0 H (.ex f::σ):=by
 obtain⟨he,fps,hl,hn,hb⟩:=hs
 match fps,hl with
 |g::fps,⟨h1,h3⟩=>exact⟨he,g::fps,⟨⟨a,h1⟩,h3⟩,hn,hb⟩
theorem St.fact{q:Prop}{r:Rs}(hs:St H0 H (.pu q r::σ)):q∧St H0 H (r::σ):=by
 obtain⟨he,fps,hl,hn,hb⟩:=hs
 match fps,hl with
 |g::fps,⟨⟨a,h1⟩,h3⟩=>exact⟨a,he,g::fps,⟨h1,h3⟩,hn,hb⟩
theorem St.with{q:Prop}{r:Rs}(hq:q)(hs:St H0 H (r::σ)):St H0 H (.pu q r::σ):=by
 obtain⟨he,fps,hl,hn,hb⟩:=hs
 match fps,hl with
 |g::fps,⟨h1,h3⟩=>exact⟨he,g::fps,⟨⟨hq,h1⟩,h3⟩,hn,hb⟩
theorem St.new(hs:St H0 H σ){r:Rs}{fp:List Nat}(he:Ext H H')(h:r.at_ H' fp)(hn:fp.Nodup)(hb: ∀b∈fp,H.size≤b):St H0 H' (r::σ):=
 St.call (τ:=[r]) hs ⟨he,[fp],⟨h,trivial⟩,by simpa using hn,by simpa using hb⟩
theorem St.block(hs:St H0 H σ)(i:Nat){b:Nat}{cs:Array Value}{ty:TypeId}(hi:σ[i]?=some (.cell b cs ty)):H[b]?=some (.cells cs ty):=by
 obtain⟨_,fps,hl,_⟩:=hs
 obtain⟨fp,_,h⟩:=hl.get hi
 exact h.2
theorem St.get(hs:St H0 H σ)(i:Nat){b j:Nat}{cs:Array Value}{ty:TypeId}{v:Value}(hi:σ[i]?=some (.cell b cs ty))(hj:cs[j]?=some v):Sh.cell H ⟨b,j,none⟩=some v:=
 cell_get (hs.block i hi) hj
theorem St.alc(hs:St H0 H σ){cs:Array Value}{ty:TypeId}{K:Nat→Heap→Prop}(hK: ∀b H',St H0 H' (.cell b cs ty::σ)→K b H'):Sh.alc H (.cells cs ty) K:=
 hK _ _ (hs.new (Ext.push _ _) (fp:=[H.size]) ⟨rfl,get_push_self _ _⟩ (by simp) (by simp))
theorem St.alcE(hs:St H0 H σ){cs:Array Value}{ty:TypeId}{K:Nat→Heap→Prop}(hK: ∀b H',Ext H H'→St H0 H' (.cell b cs ty::σ)→K b H'):Sh.alc H (.cells cs ty) K:=
 hK _ _ (Ext.push _ _) (hs.new (Ext.push _ _) (fp:=[H.size]) ⟨rfl,get_push_self _ _⟩ (by simp) (by simp))
theorem St.put(hs:St H0 H σ)(i:Nat){b j:Nat}{cs:Array Value}{ty:TypeId}{v:Value}{f:Heap→Prop}(hi:σ[i]?=some (.cell b cs ty))(hj:j<cs.size)(ho:v.oneCell'=true)
 (hK: ∀H',St H0 H' (σ.set i (.cell b (cs.setIfInBounds j v) ty))→f H'):stAt H ⟨b,j,none⟩ [v] f:=
 stAt_one (hs.block i hi) hj ho (hK _ (hs.upd hi fun fp h1 _ _=>⟨[b],⟨rfl,get_set_self h1.2⟩,by simp,fun x hx=> .inl (h1.1▸hx),fun x o ho hx=>get_set_ne (fun he=>hx (by rw[h1.1,he];exact List.mem_singleton.2 rfl)) ho⟩))
theorem St.putAll(hs:St H0 H σ)(i:Nat){b:Nat}{cs:Array Value}{ty:TypeId}{vs:List Value}{f:Heap→Prop}(hi:σ[i]?=some (.cell b cs ty))(hl:vs.length=cs.size)(ho: ∀v∈vs,v.oneCell'=true)
 (hK: ∀H',St H0 H' (σ.set i (.cell b vs.toArray ty))→f H'):stAt H ⟨b,0,none⟩ vs f:=
 stAt_whole (hs.block i hi) hl ho (hK _ (hs.upd hi fun fp h1 _ _=>⟨[b],⟨rfl,get_set_self h1.2⟩,by simp,fun x hx=> .inl (h1.1▸hx),fun x o ho hx=>get_set_ne (fun he=>hx (by rw[h1.1,he];exact List.mem_singleton.2 rfl)) ho⟩))
theorem St.fs(hs:St H0 H σ)(i:Nat){p:Option Addr}{l c k:Nat}{el:TypeId}{fs:List Value}(hi:σ[i]?=some (.sl p l c el k fs)):FS 0 H p l c el k fs:=by
 obtain⟨_,fps,hl,_⟩:=hs
 obtain⟨fp,_,h⟩:=hl.get hi
 exact h.1
theorem St.rs(hs:St H0 H σ)(i:Nat){p:Option Addr}{l c k:Nat}{el:TypeId}{fs:List Value}(hi:σ[i]?=some (.sl p l c el k fs)):RS H p l el k fs:=(hs.fs i hi).rs
theorem St.is(hs:St H0 H σ)(i:Nat){p:Option Addr}{l c:Nat}{el:TypeId}{fs:List Value}(hi:σ[i]?=some (.sl p l c el 1 fs)):IS H p l fs:=(hs.rs i hi).is
theorem FS.resrc{n0:Nat}{H:Heap}{p:Option Addr}{l c k:Nat}{el:TypeId}{fs:List Value}(h:FS n0 H p l c el k fs): ∃fp,(Rs.sl p l c el k fs).at_ H fp∧fp.Nodup∧(∀b∈fp,n0≤b)∧ ∀b∈fp,p=some ⟨b,0,none⟩:=by
 rcases h.at_ with ⟨h1,h2⟩|⟨blk,cs,h1,h2,h3,h4,h5⟩
 ·exact⟨[],⟨h.lower (Nat.zero_le _),.inl ⟨h1,rfl⟩⟩,by simp,by simp,by simp⟩
 ·exact⟨[blk],⟨h.lower (Nat.zero_le _),.inr ⟨blk,h1,rfl⟩⟩,by simp,by simpa using h2,by simpa using h1⟩
theorem St.newSl(hs:St H0 H σ){p:Option Addr}{l c k:Nat}{el:TypeId}{fs:List Value}(he:Ext H H')(h:FS H.size H' p l c el k fs):St H0 H' (.sl p l c el k fs::σ):=by
 obtain⟨fp,h1,h2,h3,_⟩:=h.resrc
 exact hs.new he h1 h2 h3
theorem St.nilSl(hs:St H0 H σ)(el:TypeId)(k:Nat):St H0 H (.sl none 0 0 el k []::σ):=hs.newSl (Ext.refl _) (FS.nil _ _ _ _)
theorem St.toSl(hs:St H0 H σ)(i:Nat){b l k:Nat}{cs:Array Value}{ty:TypeId}{fs:List Value}(hi:σ[i]?=some (.cell b cs ty))(hl:cs.size=l*k)(hf:cs.toList=fs)(ho: ∀v∈fs,v.oneCell'=true):
 St H0 H (σ.set i (.sl (some ⟨b,0,none⟩) l l ty k fs)):=
 hs.as i hi fun fp h=>⟨⟨by rw[←hf];simpa using hl,Nat.le_refl _,ho,.inr ⟨b,cs,rfl,Nat.zero_le _,h.2,hl,fun j v hv=>by rw[←hf] at hv;simpa using hv⟩⟩,.inr ⟨b,rfl,h.1⟩⟩
theorem FS.app2{n0:Nat}{H:Heap}{p q:Option Addr}{l c n:Nat}{el:TypeId}{k bytes:Nat}{zero:Array Value}{fs gs:List Value}(h:FS n0 H p l c el k fs)(hrow:Go.Sh.rowOf H q (n*k) gs.toArray)(hgl:gs.length=n*k)(hgo: ∀v∈gs,v.oneCell'=true)(hk:0<k)(hn:n0≤H.size)(hz:zero.size=k)
 (hb:(l+n)*bytes≤70368744177664)(hm:l+n≤1000000000000){K:Option Addr→Nat→Nat→Heap→Prop}
 (hK: ∀p' c' H',FS n0 H' p' (l+n) c' el k (fs++gs)→(∀(b:Nat) (o:Obj),H[b]?=some o→p≠some ⟨b,0,none⟩→H'[b]?=some o)→(p'=p∨p'=some ⟨H.size,0,none⟩)→K p' (l+n) c' H'):appQ k bytes zero H p l c q n el K:=by
 by_cases hle:l+n≤c
 ·obtain⟨g1,g2,xs,g3,g4,_⟩:=h.app' (K:=fun p' l' c' H'=>p'=p→K p' l' c' H') hrow hgl hgo hk hn hz hb hm fun p' c' H' h1 h2 h3 hp=>hK p' c' H' h1 h2 (.inl hp)
  refine⟨g1,g2,xs,g3,fun hle=>?_,fun hlt=>by omega⟩
  have:=g4 hle
  cases p with
  |none=>exact this rfl
  |some a=>
   obtain⟨cs,T,a1,a2,a3,a4,a5⟩:=this
   exact⟨cs,T,a1,a2,a3,a4,a5 rfl⟩
 ·obtain⟨g1,g2,xs,g3,_,g4⟩:=h.app' (K:=fun p' l' c' H'=>p'=some ⟨H.size,0,none⟩→K p' l' c' H') hrow hgl hgo hk hn hz hb hm fun p' c' H' h1 h2 h3 hp=>hK p' c' H' h1 h2 (.inr hp)
  refine⟨g1,g2,xs,g3,fun hle'=>by omega,fun hlt=>?_⟩
  obtain⟨ys,b1,b2⟩:=g4 hlt
  exact⟨ys,b1,fun c' hc'=>b2 c' hc' rfl⟩
theorem Rs.sl_at{H:Heap}{p:Option Addr}{l c k:Nat}{el:TypeId}{fs:List Value}{fp:List Nat}(h:(Rs.sl p l c el k fs).at_ H fp){b:Nat}(hp:p=some ⟨b,0,none⟩):fp=[b]:=by
 rcases h.2 with ⟨h1,_⟩|⟨blk,h1,h2⟩
 ·rw[hp] at h1;cases h1
 ·rw[hp] at h1;cases h1;exact h2
theorem St.slSet(hs:St H0 H σ){i:Nat}{p p':Option Addr}{l c l' c' k:Nat}{el:TypeId}{fs fs':List Value}(hi:σ[i]?=some (.sl p l c el k fs))(h:FS 0 H' p' l' c' el k fs')
 (hk: ∀(b:Nat) (o:Obj),H[b]?=some o→p≠some ⟨b,0,none⟩→H'[b]?=some o)(hp:p'=p∨p'=some ⟨H.size,0,none⟩):St H0 H' (σ.set i (.sl p' l' c' el k fs')):=by
 refine hs.upd hi fun fp h1 h2 h3=>?_
 obtain⟨fp',g1,g2,_,g4⟩:=h.resrc
 refine⟨fp',g1,g2,fun b hb=>?_,fun b o ho hb=>hk b o ho fun he=>hb (by rw[Rs.sl_at h1 he];exact List.mem_singleton.2 rfl)⟩
 have:=g4 b hb
 rcases hp with rfl|hp
 ·left;rw[Rs.sl_at h1 this];exact List.mem_singleton.2 rfl
 ·rw[this] at hp;cases hp;exact .inr (Nat.le_refl _)
theorem St.appS(hs:St H0 H σ)(i:Nat){p q:Option Addr}{l c n k bytes:Nat}{el:TypeId}{zero:Array Value}{fs gs:List Value}(hi:σ[i]?=some (.sl p l c el k fs))(hrow:Go.Sh.rowOf H q (n*k) gs.toArray)(hgl:gs.length=n*k)
 (hgo: ∀v∈gs,v.oneCell'=true)(hk:0<k)(hz:zero.size=k)(hb:(l+n)*bytes≤70368744177664)(hm:l+n≤1000000000000){K:Option Addr→Nat→Nat→Heap→Prop}
 (hK: ∀p' c' H',St H0 H' (σ.set i (.sl p' (l+n) c' el k (fs++gs)))→K p' (l+n) c' H'):appQ k bytes zero H p l c q n el K:=
 (hs.fs i hi).app2 hrow hgl hgo hk (Nat.zero_le _) hz hb hm fun p' c' H' h1 h2 h3=>hK p' c' H' (hs.slSet hi h1 h2 h3)
theorem St.appC(hs:St H0 H σ)(i m:Nat){p:Option Addr}{b l c n k bytes:Nat}{el ty:TypeId}{zero cs:Array Value}{fs:List Value}(hi:σ[i]?=some (.sl p l c el k fs))(hm':σ[m]?=some (.cell b cs ty))(hgl:cs.size=n*k)
 (hgo: ∀v∈cs.toList,v.oneCell'=true)(hk:0<k)(hz:zero.size=k)(hb:(l+n)*bytes≤70368744177664)(hm:l+n≤1000000000000){K:Option Addr→Nat→Nat→Heap→Prop}
 (hK: ∀p' c' H',St H0 H' (σ.set i (.sl p' (l+n) c' el k (fs++cs.toList)))→K p' (l+n) c' H'):appQ k bytes zero H p l c (some ⟨b,0,none⟩) n el K:=
 hs.appS i hi (gs:=cs.toList) (show Go.Sh.rowOf H (Option.some ⟨b,0,none⟩) (n*k) cs.toList.toArray from⟨by simpa using hgl,by simpa using rowIn_whole (hs.block m hm')⟩) (by simpa using hgl) hgo hk hz hb hm hK
theorem IS.rowOf{H:Heap}{p:Option Addr}{l:Nat}{fs:List Value}(h:IS H p l fs):Go.Sh.rowOf H p (l*1) fs.toArray:=by
 cases p with
 |none=>
  have:fs=[]:=List.eq_nil_iff_forall_not_mem.2 fun v hv=>by
   obtain⟨i,hi⟩:=List.getElem?_of_mem hv
   obtain⟨a,h1,_⟩:=h.get i v hi
   cases h1
  subst this;rfl
 |some a=>
  refine⟨by simp[h.len],fun j v hv=>?_⟩
  obtain⟨a',h1,h2⟩:=h.get j v (by simpa using hv)
  cases h1;exact h2
theorem St.appI(hs:St H0 H σ)(i:Nat){p q:Option Addr}{l c n bytes:Nat}{el:TypeId}{zero:Array Value}{fs gs:List Value}(hi:σ[i]?=some (.sl p l c el 1 fs))(hr:IS H q n gs)(ho: ∀v∈gs,v.oneCell'=true)(hz:zero.size=1)
 (hb:(l+n)*bytes≤70368744177664)(hm:l+n≤1000000000000){K:Option Addr→Nat→Nat→Heap→Prop}
 (hK: ∀p' c' H',St H0 H' (σ.set i (.sl p' (l+n) c' el 1 (fs++gs)))→K p' (l+n) c' H'):appQ 1 bytes zero H p l c q n el K:=
 hs.appS i hi hr.rowOf (by simp[hr.len]) ho (by decide) hz hb hm hK
theorem St.slPut(hs:St H0 H σ)(i:Nat){b l c k j:Nat}{el:TypeId}{fs:List Value}{v:Value}{f:Heap→Prop}(hi:σ[i]?=some (.sl (some ⟨b,0,none⟩) l c el k fs))(hj:j<fs.length)(ho:v.oneCell'=true)
 (hK: ∀H',St H0 H' (σ.set i (.sl (some ⟨b,0,none⟩) l c el k (fs.set j v)))→f H'):stAt H ⟨b,j,none⟩ [v] f:=
 (hs.fs i hi).set hj ho fun H' h1 h2 h3=>hK H' (hs.slSet hi h1 (fun b' o ho hne=>h2 b' o ho fun he=>hne (by rw[he])) (.inl rfl))
theorem St.slSome(hs:St H0 H σ)(i:Nat){p:Option Addr}{l c k j:Nat}{el:TypeId}{fs:List Value}(hi:σ[i]?=some (.sl p l c el k fs))(hj:j<fs.length): ∃b,p=some ⟨b,0,none⟩:=by
 obtain⟨b,h,_⟩:=(hs.rs i hi).cell (List.getElem?_eq_getElem hj)
 exact⟨b,h⟩
def kints(k:IntKind)(l:List Int):List Value:=l.map (Value.int k)
theorem kints_get{k:IntKind}{l:List Int}{i:Nat}{v:Int}(h:l[i]?=some v):(kints k l)[i]?=some (Value.int k v):=by simp[kints,h]
theorem kints_len(k:IntKind)(l:List Int):(kints k l).length=l.length:=by simp[kints]
theorem kints_append(k:IntKind)(a b:List Int):kints k (a++b)=kints k a++kints k b:=by simp[kints]
theorem kints_set(k:IntKind)(l:List Int)(i:Nat)(v:Int):(kints k l).set i (.int k v)=kints k (l.set i v):=by simp[kints]
theorem kints_one(k:IntKind)(l:List Int): ∀v∈kints k l,v.oneCell'=true:=fun v hv=>by
 obtain⟨x,_,rfl⟩:=List.mem_map.1 hv;rfl
theorem IS.rd{H:Heap}{p:Option Addr}{l:Nat}{k:IntKind}{ls:List Int}(h:IS H p l (kints k ls)){i x:Int}(h0:0≤i)(h1:i<l)(hx:ls[i.toNat]?=some x){K:Int→Prop}(hK:K x):
 ∃a:Addr,p=some a∧0≤i∧i<((l:Nat):Int)∧ ∃v:Int,Sh.cell H (Addr.add a (Int.toNat i*1))=some (.int k v)∧K v:=by
 obtain⟨a,hp,hc⟩:=h.get _ _ (kints_get hx)
 exact⟨a,hp,h0,h1,x,by simpa using hc,hK⟩
theorem IS.get'{H:Heap}{p:Option Addr}{l:Nat}{k:IntKind}{ls:List Int}(h:IS H p l (kints k ls)){i:Nat}(hi:i<l): ∃x,ls[i]?=some x:=by
 have:=h.len;rw[kints_len] at this
 exact⟨ls[i],List.getElem?_eq_getElem (by omega)⟩
theorem IS.length{H:Heap}{p:Option Addr}{l:Nat}{k:IntKind}{ls:List Int}(h:IS H p l (kints k ls)):ls.length=l:=by have:=h.len;rwa [kints_len] at this
theorem add_add(a:Addr)(i j:Nat):(a.add i).add j=a.add (i+j):=by
 obtain⟨b,o,s⟩:=a
 unfold Addr.add
 cases s<;>simp<;>split<;>split<;>simp_all<;>omega
theorem IS.part{H:Heap}{a:Addr}{l:Nat}{fs:List Value}(h:IS H (some a) l fs){i n:Nat}(hi:i+n≤l):IS H (some (a.add i)) n ((fs.drop i).take n):=by
 refine⟨by have:=h.len;simp;omega,fun j v hv=>?_⟩
 rw[List.getElem?_take] at hv
 split at hv
 ·rw[List.getElem?_drop] at hv
  obtain⟨a',h1,h2⟩:=h.get _ _ hv
  cases h1
  refine⟨_,rfl,?_⟩
  rw[show(a.add i).add j=a.add (i+j) from add_add a i j]
  exact h2
 ·cases hv
theorem upto{n:Nat}{Q:Nat→Prop}(h: ∀i,i≤n→(i<n→Q (i+1))→Q i): ∀i,i≤n→Q i:=by
 have: ∀m i,n-i=m→i≤n→Q i:=by
  intro m
  induction m with
  |zero=>intro i hm hi;exact h i hi fun hlt=>by omega
  |succ m ih=>intro i hm hi;exact h i hi fun hlt=>ih (i+1) (by omega) (by omega)
 exact fun i hi=>this (n-i) i rfl hi
end Go.Sh
namespace Go.Proofs
open Go.Sh
theorem gD_left{α:Type}(a b:List α)(d:α)(i:Nat)(h:i<a.length):(a++b).getD i d=a.getD i d:=by simp[List.getD_eq_getElem?_getD,List.getElem?_append_left h]
theorem gD_right{α:Type}(a b:List α)(d:α)(i:Nat)(h:a.length≤i):(a++b).getD i d=b.getD (i-a.length) d:=by simp[List.getD_eq_getElem?_getD,List.getElem?_append_right h]
theorem gD_none{α:Type}(a:List α)(d:α){i:Nat}(h:a.length≤i):a.getD i d=d:=by simp[List.getD_eq_getElem?_getD,List.getElem?_eq_none h]
theorem gD_get{α:Type}{a:List α}{d:α}{i:Nat}{x:α}(h:a[i]?=some x):a.getD i d=x:=by simp[List.getD_eq_getElem?_getD,h]
theorem get_gD{α:Type}(a:List α)(d:α){i:Nat}(h:i<a.length):a[i]?=some (a.getD i d):=by rw[List.getD_eq_getElem?_getD,List.getElem?_eq_getElem h];rfl
def bpos(hi:Bool)(i:Nat):Nat:=if hi then 7-i%8 else i%8
def bitB(hi:Bool)(B:List Int)(i:Nat):Int:=B.getD (i/8) 0/2^bpos hi i%2
def numB(hi:Bool)(B:List Int)(at_:Nat):Nat→Int
 |0=>0
 |n+1=>if hi then 2*numB hi B at_ n+bitB hi B (at_+n) else numB hi B at_ n+bitB hi B (at_+n)*2^n
theorem bpos_lt(hi:Bool)(i:Nat):bpos hi i<8:=by unfold bpos;split<;>omega
theorem bpos_ne{hi:Bool}{i j:Nat}(h:i/8=j/8)(hne:i≠j):bpos hi i≠bpos hi j:=by unfold bpos;split<;>omega
theorem bitB_rng(hi:Bool)(B:List Int)(i:Nat):bitB hi B i=0∨bitB hi B i=1:=by unfold bitB;omega
theorem pow_cast(n:Nat):((2^n:Nat):Int)=(2:Int)^n:=by simp
theorem two_pow_pos(n:Nat):(0:Int)<2^n:=Int.pow_pos (by omega)
theorem pow_le{m n:Nat}(h:m≤n):(2:Int)^m≤2^n:=by
 rw[←pow_cast,←pow_cast];exact Int.ofNat_le.2 (Nat.pow_le_pow_right (by omega) h)
theorem numB_rng(hi:Bool)(B:List Int)(at_:Nat): ∀n,0≤numB hi B at_ n∧numB hi B at_ n<2^n
 |0=>by simp[numB]
 |n+1=>by
  have h:=numB_rng hi B at_ n
  have hp:=two_pow_pos n
  rw[numB,Int.pow_succ]
  rcases bitB_rng hi B (at_+n) with hb|hb<;>rw[hb]<;>split<;>omega
theorem ofInt_nat{n:Nat}{x:Int}(h0:0≤x)(h1:x<2^n):(BitVec.ofInt n x).toNat=x.toNat:=by
 rw[BitVec.toNat_ofInt]
 congr 1
 rw[pow_cast];exact Int.emod_eq_of_lt h0 h1
theorem or_sum{a b:Int}{k:Nat}(a0:0≤a)(ak:a<2^k)(b0:0≤b)(hs:a+b*2^k<9223372036854775808):orI .i64 a (b*2^k)=a+b*2^k:=by
 have hp:=two_pow_pos k
 have hb:0≤b*2^k:=Int.mul_nonneg b0 (Int.le_of_lt hp)
 have e64:(2:Int)^64=18446744073709551616:=by decide
 unfold orI
 rw[show IntKind.bits .i64=64 from rfl,BitVec.toNat_or,ofInt_nat a0 (by omega),ofInt_nat hb (by omega)]
 have h1:(b*2^k).toNat=2^k*b.toNat:=by
  obtain⟨n,rfl⟩:=Int.eq_ofNat_of_zero_le b0
  rw[←pow_cast,←Int.natCast_mul,Int.toNat_natCast,Int.toNat_natCast,Nat.mul_comm]
 have h2:a.toNat<2^k:=by
  have:=pow_cast k;omega
 rw[h1,Nat.or_comm,←Nat.two_pow_add_eq_or_of_lt h2,←h1]
 rw[wrap_id (by omega) (by omega)]
 omega
theorem or_sum'{a b:Int}{k:Nat}(a0:0≤a)(ak:a<2^k)(b0:0≤b)(hs:a+b*2^k<9223372036854775808):orI .i64 (b*2^k) a=a+b*2^k:=by
 rw[←or_sum a0 ak b0 hs]
 unfold orI
 rw[BitVec.or_comm]
theorem shl_of{x:Int}{k:Nat}(h0:0≤x)(hk:k≤62)(hs:x*2^k<9223372036854775808):shlI .i64 x k=x*2^k:=by
 unfold shlI
 rw[show min (k:Int).toNat (IntKind.bits .i64)=k from by rw[Int.toNat_natCast];exact Nat.min_eq_left (by show k≤64;omega)]
 have:=Int.mul_nonneg h0 (Int.le_of_lt (two_pow_pos k))
 exact wrap_id (by omega) (by omega)
theorem shr_of(x:Int){k:Nat}(hk:k≤62):shrI .i64 x k=x/2^k:=by
 unfold shrI
 rw[show min (k:Int).toNat (IntKind.bits .i64)=k from by rw[Int.toNat_natCast];exact Nat.min_eq_left (by show k≤64;omega)]
 exact Int.fdiv_eq_ediv_of_nonneg _ (Int.le_of_lt (two_pow_pos k))
theorem shr8_of(x:Int){k:Nat}(hk:k≤8):shrI .u8 x k=x/2^k:=by
 unfold shrI
 rw[show min (k:Int).toNat (IntKind.bits .u8)=k from by rw[Int.toNat_natCast];exact Nat.min_eq_left hk]
 exact Int.fdiv_eq_ediv_of_nonneg _ (Int.le_of_lt (two_pow_pos k))
theorem andI_1(a:Int):andI .i64 a (1:Int)=a%2:=by
 unfold andI
 rw[show IntKind.bits .i64=64 from rfl,BitVec.toNat_and,BitVec.toNat_ofInt,BitVec.toNat_ofInt]
 rw[show((1:Int)%((2^64:Nat):Int)).toNat=1 from by decide,Nat.and_one_is_mod]
 have h2:(((a%((2^64:Nat):Int)).toNat%2:Nat):Int)=a%2:=by
  rw[show((2^64:Nat):Int)=18446744073709551616 from by decide];omega
 rw[h2]
 exact wrap_id (by omega) (by omega)
theorem one1{v:Value}(h:v.oneCell'=true): ∀u∈[v],u.oneCell'=true:=fun u hu=>by rw[List.mem_singleton.1 hu];exact h
theorem or_byte: ∀(x:Fin 256) (j:Fin 8) (b:Fin 2),x.val/2^j.val%2=0→orI .u8 (x.val:Int) (shlI .u8 (b.val:Int) (j.val:Int))=((x.val+b.val*2^j.val:Nat):Int)∧x.val+b.val*2^j.val<256:=by decide+kernel
theorem bit_set: ∀(x:Fin 256) (j:Fin 8) (b:Fin 2) (i:Fin 8),x.val/2^j.val%2=0→(x.val+b.val*2^j.val)/2^i.val%2=if i=j then b.val else x.val/2^i.val%2:=by decide+kernel
structure WOk(hi:Bool)(ws B:List Int):Prop where
 len:B.length=(ws.length+7)/8
 rng: ∀x∈B,0≤x∧x<256
 bit: ∀i:Nat,bitB hi B i=ws.getD i 0
theorem WOk.nil(hi:Bool):WOk hi [] []:=⟨rfl,by simp,fun i=>by simp[bitB]⟩
theorem getD_rng{B:List Int}(h: ∀x∈B,0≤x∧x<256)(i:Nat):0≤B.getD i 0∧B.getD i 0<256:=by
 rw[List.getD_eq_getElem?_getD]
 cases hb:B[i]? with
 |none=>simp
 |some x=>exact h x (List.mem_of_getElem? hb)
theorem WOk.put{hi:Bool}{ws B:List Int}{b:Int}(h:WOk hi ws B)(hb:b=0∨b=1){C:List Int}(hC:C=if ws.length%8=0 then B++[0] else B):
 ∃x,C[ws.length/8]?=some x∧0≤x∧x<256∧WOk hi (ws++[b]) (C.set (ws.length/8) (orI .u8 x (shlI .u8 b (bpos hi ws.length)))):=by
 have hl:=h.len
 have hlen:C.length=ws.length/8+1:=by
  rw[hC];split
  ·simp;omega
  ·omega
 have hr: ∀x∈C,0≤x∧x<256:=by
  rw[hC];split
  ·intro x hx
   rcases List.mem_append.1 hx with hx|hx
   ·exact h.rng x hx
   ·simp at hx;subst hx;omega
  ·exact h.rng
 have hbit: ∀i:Nat,bitB hi C i=ws.getD i 0:=fun i=>by
  rw[←h.bit i,hC]
  split
  ·unfold bitB
   by_cases hi':i/8<B.length
   ·rw[gD_left _ _ _ _ hi']
   ·rw[gD_none B _ (by omega)]
    by_cases he:i/8=B.length
    ·rw[gD_right _ _ _ _ (by omega),he,Nat.sub_self];rfl
    ·rw[gD_none _ _ (by simp;omega)]
  ·rfl
 have hx:C[ws.length/8]?=some (C.getD (ws.length/8) 0):=by
  rw[List.getD_eq_getElem?_getD,List.getElem?_eq_getElem (by omega)];rfl
 generalize hxe:C.getD (ws.length/8) 0=x at hx
 have hxr:=hr x (List.mem_of_getElem? hx)
 refine⟨x,hx,hxr.1,hxr.2,?_⟩
 obtain⟨n,rfl⟩:=Int.eq_ofNat_of_zero_le hxr.1
 have hn:n<256:=by omega
 obtain⟨c,hc,rfl⟩: ∃c:Nat,c<2∧b=(c:Int):=by
  rcases hb with rfl|rfl
  ·exact⟨0,by omega,rfl⟩
  ·exact⟨1,by omega,rfl⟩
 have hz:n/2^bpos hi ws.length%2=0:=by
  have h1:=hbit ws.length
  unfold bitB at h1
  rw[hxe,gD_none _ _ (Nat.le_refl _),←pow_cast] at h1
  omega
 obtain⟨ho,ho2⟩:=or_byte ⟨n,hn⟩ ⟨bpos hi ws.length,bpos_lt hi _⟩ ⟨c,hc⟩ hz
 simp only at ho ho2
 rw[ho]
 refine⟨by rw[List.length_set,hlen,List.length_append,List.length_singleton];omega,fun y hy=>?_,fun i=>?_⟩
 ·rcases List.mem_or_eq_of_mem_set hy with hy|rfl
  ·exact hr y hy
  ·exact⟨Int.natCast_nonneg _,Int.ofNat_lt.2 ho2⟩
 ·by_cases he:i/8=ws.length/8
  ·have hs:=bit_set ⟨n,hn⟩ ⟨bpos hi ws.length,bpos_lt hi _⟩ ⟨c,hc⟩ ⟨bpos hi i,bpos_lt hi _⟩ hz
   simp only[Fin.mk.injEq] at hs
   have hg:(C.set (ws.length/8) ((n+c*2^bpos hi ws.length:Nat):Int)).getD (i/8) 0=((n+c*2^bpos hi ws.length:Nat):Int):=by
    rw[he,List.getD_eq_getElem?_getD,List.getElem?_set_self (by omega)];rfl
   unfold bitB
   rw[hg,←pow_cast]
   by_cases hil:i=ws.length
   ·subst hil
    rw[if_pos rfl] at hs
    rw[gD_right _ _ _ _ (Nat.le_refl _),Nat.sub_self]
    show _=(c:Int)
    omega
   ·rw[if_neg (bpos_ne he hil)] at hs
    have h1:=hbit i
    unfold bitB at h1
    rw[he,hxe,←pow_cast] at h1
    have h2:(ws++[(c:Int)]).getD i 0=ws.getD i 0:=by
     by_cases hlt:i<ws.length
     ·rw[gD_left _ _ _ _ hlt]
     ·rw[gD_none _ _ (by simp;omega),gD_none _ _ (by omega)]
    rw[h2,←h1]
    omega
  ·have hg:(C.set (ws.length/8) ((n+c*2^bpos hi ws.length:Nat):Int)).getD (i/8) 0=C.getD (i/8) 0:=by
    rw[List.getD_eq_getElem?_getD,List.getElem?_set_ne (Ne.symm he),←List.getD_eq_getElem?_getD]
   have h2:(ws++[(c:Int)]).getD i 0=ws.getD i 0:=by
    by_cases hlt:i<ws.length
    ·rw[gD_left _ _ _ _ hlt]
    ·rw[gD_none _ _ (by simp;omega),gD_none _ _ (by omega)]
   rw[h2,←hbit i]
   unfold bitB
   rw[hg]
def bitsOf(hi:Bool)(v:Int)(n:Nat):List Int:=(List.range n).map fun k=>v/2^(if hi then n-1-k else k)%2
theorem bitsOf_len(hi:Bool)(v:Int)(n:Nat):(bitsOf hi v n).length=n:=by simp[bitsOf]
end Go.Proofs
namespace Go.Proofs
open Go.Sh
theorem wdiv8(n:Nat)(h:n≤1000000000000):IntKind.wrap .i64 (Int.tdiv (n:Int) (8:Int))=((n/8:Nat):Int):=by
 rw[Int.tdiv_eq_ediv_of_nonneg (by omega),wrap_id (by omega) (by omega)];omega
theorem tmod8(n:Nat):Int.tmod (n:Int) (8:Int)=((n%8:Nat):Int):=by rw[Int.tmod_eq_emod_of_nonneg (by omega)];omega
theorem c106{H:Heap}{n:Nat}{hi:Bool}{R:Value→Heap→Prop}(hR:R (.int .i64 (bpos hi n)) H):CallsH Tryz.prog 106 #[.int .i64 n,.bool hi] H R:=by
 refine Tryz.s106 ?_
 unfold Tryz.S106
 rw[tmod8]
 unfold bpos at hR
 refine br_i (fun h=>⟨by decide,?_⟩) (fun h=>⟨by decide,?_⟩)
 ·subst h
  rw[if_pos rfl] at hR
  rw[wrap_id (by omega) (by omega),show((7:Int)-((n%8:Nat):Int))=((7-n%8:Nat):Int) from by omega]
  exact hR
 ·subst h
  rw[if_neg (by decide)] at hR
  exact hR
def wrR(b:Nat)(hi:Bool)(ws:List Int):Rs:=
 .ex fun(x:Option Addr×Nat×Nat×List Int)=> .pu (WOk hi ws x.2.2.2∧ws.length≤1000000000) (.star (.cell b #[.slice x.1 x.2.1 x.2.2.1,.int .i64 ws.length,.bool hi] 127) (.sl x.1 x.2.1 x.2.2.1 5 1 (kints .u8 x.2.2.2)))
variable {H0 H:Heap} {σ:List Rs} {R:Value→Heap→Prop}
theorem wrR_mk{b:Nat}{hi:Bool}{ws:List Int}{p:Option Addr}{l c:Nat}{B:List Int}(ok:WOk hi ws B)(hl:ws.length≤1000000000)(hs:St H0 H (.cell b #[.slice p l c,.int .i64 ws.length,.bool hi] 127:: .sl p l c 5 1 (kints .u8 B)::σ)):St H0 H (wrR b hi ws::σ):=
 St.inex (f:=fun(x:Option Addr×Nat×Nat×List Int)=> .pu (WOk hi ws x.2.2.2∧ws.length≤1000000000) (.star (.cell b #[.slice x.1 x.2.1 x.2.2.1,.int .i64 ws.length,.bool hi] 127) (.sl x.1 x.2.1 x.2.2.1 5 1 (kints .u8 x.2.2.2)))) (p,l,c,B) (St.with ⟨ok,hl⟩ hs.cat)
theorem wrR_op{b:Nat}{hi:Bool}{ws:List Int}(hs:St H0 H (wrR b hi ws::σ)): ∃p l c B,WOk hi ws B∧ws.length≤1000000000∧l=B.length∧St H0 H (.cell b #[.slice p l c,.int .i64 ws.length,.bool hi] 127:: .sl p l c 5 1 (kints .u8 B)::σ):=by
 obtain⟨⟨p,l,c,B⟩,hs⟩:=hs.unex
 obtain⟨⟨ok,hl⟩,hs⟩:=hs.fact
 have:=(hs.cut.is 1 rfl).length
 exact⟨p,l,c,B,ok,hl,this.symm,hs.cut⟩
theorem c53(hs:St H0 H σ){hi:Bool}(hR: ∀b H',St H0 H' (wrR b hi []::σ)→R (.pointer (some ⟨b,0,none⟩)) H'):CallsH Tryz.prog 53 #[.bool hi] H R:=by
 refine Tryz.s53 ?_
 unfold Tryz.S53
 exact hs.alc fun b H' hs=>hR b H' (wrR_mk (WOk.nil hi) (by simp) ((hs.nilSl 5 1).swap))
theorem c81(hs:St H0 H σ){i b:Nat}{hi:Bool}{ws:List Int}(hi':σ[i]?=some (wrR b hi ws))(hl:ws.length<1000000000){v:Int}
 (hR: ∀H',St H0 H' (σ.set i (wrR b hi (ws++[v%2])))→R (.tuple #[]) H'):CallsH Tryz.prog 81 #[.pointer (some ⟨b,0,none⟩),.int .i64 v] H R:=by
 obtain⟨p,l,c,B,ok,_,hlB,hs⟩:=wrR_op (hs.front i hi')
 refine Tryz.s81 ?_
 unfold Tryz.S81
 intro J hJ
 have hB:=ok.len
 have fin: ∀H' p l c C,C=(if ws.length%8=0 then B++[0] else B)→St H0 H' (.cell b #[.slice p l c,.int .i64 ws.length,.bool hi] 127:: .sl p l c 5 1 (kints .u8 C)::σ.eraseIdx i)→J [] H':=by
  intro H' p l c C hC hs
  obtain⟨x,hx,x0,x1,ok'⟩:=ok.put (b:=v%2) (by omega) hC
  have hCl:=(List.getElem?_eq_some_iff.1 hx).1
  have hlC:=(hs.is 1 rfl).length
  obtain⟨blk,hp⟩:=hs.slSome 1 rfl (j:=ws.length/8) (by rw[kints_len];exact hCl)
  subst hp
  refine hJ H' ⟨_,rfl,_,l,c,hs.get 0 rfl rfl,_,rfl,ws.length,hs.get 0 (j:=1) rfl rfl,by decide,?_⟩
  rw[wdiv8 _ (by omega),Int.toNat_natCast]
  have hg:=(hs.is 1 rfl).rd (i:=((ws.length/8:Nat):Int)) (by omega) (by omega) (by rw[Int.toNat_natCast];exact hx) (K:=fun y=>y=x) rfl
  rw[Int.toNat_natCast] at hg
  obtain⟨a,ha,g0,g1,y,g2,rfl⟩:=hg
  cases ha
  refine⟨_,rfl,by omega,by omega,y,g2,_,rfl,ws.length,hs.get 0 (j:=1) rfl rfl,_,rfl,hi,hs.get 0 (j:=2) rfl rfl,c106 ⟨_,rfl,.inl (Ext.refl _),by omega,_,rfl,by omega,by omega,?_⟩⟩
  rw[andI_1,add_none,Nat.zero_add,Nat.mul_one]
  refine hs.slPut 1 rfl (by rw[kints_len];exact hCl) rfl fun H2 hs=>⟨_,rfl,ws.length,hs.get 0 (j:=1) rfl rfl,_,rfl,?_⟩
  rw[add_none,Nat.zero_add,wrap_id (by omega) (by omega)]
  refine hs.put 0 rfl (by simp) rfl fun H3 hs=>hR H3 (St.back hi' (wrR_mk (p:=some ⟨blk,0,none⟩) (l:=l) (c:=c) ok' (by simp;omega) ?_))
  rw[wrap_u8 (by omega) (by omega),List.set_cons_succ,List.set_cons_zero,kints_set] at hs
  have e:(#[Value.slice (some ⟨blk,0,none⟩) l c,.int .i64 (ws.length:Int),.bool hi]:Array Value).setIfInBounds 1 (.int .i64 ((ws.length:Int)+1))=#[Value.slice (some ⟨blk,0,none⟩) l c,.int .i64 (((ws++[v%2]).length:Nat):Int),.bool hi]:=by simp
  rw[List.set_cons_zero,e] at hs
  exact hs
 refine⟨_,rfl,ws.length,hs.get 0 (j:=1) rfl rfl,by decide,?_⟩
 rw[tmod8]
 refine br_eq (fun h8=>?_) (fun h8=>fin H p l c B (by rw[if_neg (by omega)]) hs)
 refine⟨_,rfl,p,l,c,hs.get 0 rfl rfl,hs.alc fun b2 H2 hs=>?_⟩
 refine hs.appC 2 0 (el:=5) (k:=1) rfl rfl rfl (one1 rfl) (by decide) rfl (by omega) (by omega) fun p' c' H3 hs=>⟨_,rfl,?_⟩
 refine hs.put 1 rfl (by simp) rfl fun H4 hs=>?_
 exact fin H4 p' (l+1) c' (B++[0]) (by rw[if_pos (by omega)]) (by rw[kints_append];exact hs.tail)
theorem setset(σ:List Rs)(i:Nat)(r s:Rs):(σ.set i r).set i s=σ.set i s:=List.set_set _
theorem setget{σ:List Rs}{i:Nat}{r:Rs}(h:σ[i]?=some r)(s:Rs):(σ.set i s)[i]?=some s:=List.getElem?_set_self (List.getElem?_eq_some_iff.1 h).1
theorem wrR_len(hs:St H0 H σ){i b:Nat}{hi:Bool}{ws:List Int}(hi':σ[i]?=some (wrR b hi ws)):ws.length≤1000000000:=by
 obtain⟨_,_,_,_,_,h,_⟩:=wrR_op (hs.front i hi');exact h
theorem c54(hs:St H0 H σ){i b:Nat}{hi:Bool}{ws:List Int}(hi':σ[i]?=some (wrR b hi ws)){v n:Int}(hl:ws.length+n.toNat≤1000000000)
 (hbad: ¬(0≤n∧n≤24∧0≤v∧v<2^n.toNat)→R (.bool false) H)
 (hR:(0≤n∧n≤24∧0≤v∧v<2^n.toNat)→ ∀H',St H0 H' (σ.set i (wrR b hi (ws++bitsOf hi v n.toNat)))→R (.bool true) H'):CallsH Tryz.prog 54 #[.pointer (some ⟨b,0,none⟩),.int .i64 v,.int .i64 n] H R:=by
 refine Tryz.s54 ?_
 unfold Tryz.S54
 intro J hJ
 refine br_dec (fun h=>hbad (by omega)) (fun n0=>br_dec (fun h=>hbad (by omega)) (fun n1=>br_dec (fun h=>hbad (by omega)) (fun v0=>⟨by omega,?_⟩)))
 obtain⟨m,rfl⟩:=Int.eq_ofNat_of_zero_le (show 0≤n by omega)
 rw[Int.toNat_natCast] at*
 have hp:(2:Int)^m≤2^24:=pow_le (by omega)
 have e24:(2:Int)^24=16777216:=by decide
 rw[shl_of (by omega) (by omega) (by omega),Int.one_mul]
 refine br_dec (fun h=>hbad (by omega)) (fun v1=>hJ H ?_)
 have hR:=hR ⟨by omega,by omega,by omega,by omega⟩
 intro X hX
 have go: ∀k,k≤m→ ∀H',St H0 H' (σ.set i (wrR b hi (ws++(bitsOf hi v m).take k)))→X [.int .i64 k] H':=upto fun k hk ih H' hs=>by
  refine hX _ H' (br_dec (fun hlt=>?_) (fun hge=>?_))
  ·have hlt:k<m:=by omega
   intro J2 hJ2
   have hwl:=wrR_len hs (setget hi' _)
   rw[List.length_append,List.length_take,bitsOf_len] at hwl
   have nx: ∀j:Nat,j=(if hi then m-1-k else k)→J2 [.int .i64 j] H':=fun j hj=>by
    refine hJ2 _ H' ⟨by omega,?_⟩
    have hj62:j≤62:=by rw[hj];split<;>omega
    rw[shr_of _ hj62]
    refine c81 hs (setget hi' _) (by rw[List.length_append,List.length_take,bitsOf_len];omega) fun H2 hs=>⟨rfl,?_⟩
    rw[wrap_id (by omega) (by omega)]
    refine ih hlt H2 ?_
    rw[setset] at hs
    have:(bitsOf hi v m).take (k+1)=(bitsOf hi v m).take k++[v/2^j%2]:=by
     rw[List.take_add_one]
     congr 1
     simp[bitsOf,hlt,hj]
    rw[this,←List.append_assoc];exact hs
   obtain⟨p,l,c,B,_,_,_,hs2⟩:=wrR_op (hs.front i (setget hi' _))
   refine⟨_,rfl,hi,hs2.get 0 (j:=2) rfl rfl,br_i (fun hh=>?_) (fun hh=>?_)⟩
   ·rw[wrap_id (n:=(m:Int)-1) (by omega) (by omega),wrap_id (n:=(m:Int)-1-k) (by omega) (by omega)]
    have:=nx (m-1-k) (by rw[if_pos hh])
    rw[show((m-1-k:Nat):Int)=(m:Int)-1-k from by omega] at this
    exact this
   ·exact nx k (by rw[if_neg (by rw[hh];decide)])
  ·have:k=m:=by omega
   subst this
   refine hR H' ?_
   rw[List.take_of_length_le (by rw[bitsOf_len];omega)] at hs
   exact hs
 refine go 0 (by omega) H ?_
 rw[List.take_zero,List.append_nil]
 obtain⟨h1,h2⟩:=List.getElem?_eq_some_iff.1 hi'
 rw[←h2,List.set_getElem_self];exact hs
end Go.Proofs
namespace Go.Proofs
open Go.Sh
variable {H0 H:Heap} {σ:List Rs} {R:Value→Heap→Prop}
theorem clone_of{ty:TypeId}{bytes:Nat}{zero:Array Value}{p:Option Addr}{l:Nat}{k:IntKind}{xs:List Int}(h:IS H p l (kints k xs))(hl:l*bytes≤70368744177664)(hm:l≤1000000000000)(hz:zero.size=1)
 (hR: ∀q m H',St H H' [.sl q l m ty 1 (kints k xs)]→R (.slice q l m) H'):
 br (Option.isNone p) (R (.slice none 0 0) H) (alc H (.cells #[] ty) fun b H1=>appQ 1 bytes zero H1 (some ⟨b,0,none⟩) 0 0 p l ty fun ap al ac H2=>R (.slice ap al ac) H2):=by
 have hs:=St.nil H
 refine br_none (fun hp=>?_) (fun a hp=>?_)
 ·subst hp
  have hx:xs=[]:=List.eq_nil_iff_forall_not_mem.2 fun v hv=>by
   obtain⟨i,hi⟩:=List.getElem?_of_mem hv
   obtain⟨a,h1,_⟩:=h.get i _ (kints_get hi)
   cases h1
  have hl0:l=0:=by have:=h.length;rw[hx] at this;exact this.symm
  subst hx hl0
  exact hR none 0 H (hs.nilSl ty 1)
 ·refine hs.alc fun b H1 hs=>?_
  have hs:St H H1 [.sl (some ⟨b,0,none⟩) 0 0 ty 1 []]:=hs.toSl 0 rfl rfl rfl (by simp)
  refine hs.appI 0 rfl (h.ext hs.ext) (kints_one k xs) hz (by rw[Nat.zero_add];exact hl) (by omega) fun p' c' H2 hs=>?_
  rw[Nat.zero_add] at hs ⊢
  exact hR p' c' H2 hs
theorem c50{p:Option Addr}{l c:Nat}{xs:List Int}(h:IS H p l (kints .u8 xs))(hl:l≤1000000000000)
 (hR: ∀q m H',St H H' [.sl q l m 5 1 (kints .u8 xs)]→R (.slice q l m) H'):CallsH Tryz.prog 50 #[.slice p l c] H R:=
 Tryz.s50 (clone_of h (by omega) (by omega) rfl hR)
def fillM(ws:List Int)(v:Int):List Int:=ws++List.replicate ((8-ws.length%8)%8) (v%2)
theorem c93(hs:St H0 H σ){i b:Nat}{hi:Bool}{ws:List Int}(hi':σ[i]?=some (wrR b hi ws))(hl:ws.length<999999990){v:Int}
 (hR: ∀H',St H0 H' (σ.set i (wrR b hi (fillM ws v)))→R (.tuple #[]) H'):CallsH Tryz.prog 93 #[.pointer (some ⟨b,0,none⟩),.int .i64 v] H R:=by
 refine Tryz.s93 ?_
 unfold Tryz.S93
 intro X hX
 have go: ∀k,k≤(8-ws.length%8)%8→ ∀H',St H0 H' (σ.set i (wrR b hi (ws++List.replicate k (v%2))))→X [] H':=upto fun k hk ih H' hs=>by
  obtain⟨p,l,c,B,_,_,_,hs2⟩:=wrR_op (hs.front i (setget hi' _))
  refine hX H' ⟨_,rfl,_,hs2.get 0 (j:=1) rfl rfl,by decide,?_⟩
  rw[tmod8,List.length_append,List.length_replicate]
  refine br_ne (fun hne=>?_) (fun he=>?_)
  ·refine c81 hs (setget hi' _) (by rw[List.length_append,List.length_replicate];omega) fun H2 hs=>⟨rfl,ih (by omega) H2 ?_⟩
   rw[setset] at hs
   rw[List.replicate_succ',←List.append_assoc];exact hs
  ·have:k=(8-ws.length%8)%8:=by omega
   subst this
   exact hR H' hs
 refine go 0 (by omega) H ?_
 rw[List.replicate_zero,List.append_nil]
 obtain⟨h1,h2⟩:=List.getElem?_eq_some_iff.1 hi'
 rw[←h2,List.set_getElem_self];exact hs
theorem c58(hs:St H0 H σ){i b:Nat}{hi:Bool}{ws:List Int}(hi':σ[i]?=some (wrR b hi ws))
 (hR: ∀q l m B H',WOk hi ws B→l=B.length→St H0 H' (.sl q l m 5 1 (kints .u8 B)::σ)→R (.slice q l m) H'):CallsH Tryz.prog 58 #[.pointer (some ⟨b,0,none⟩)] H R:=by
 obtain⟨p,l,c,B,ok,hw,hl,hs2⟩:=wrR_op (hs.front i hi')
 have:=ok.len
 refine Tryz.s58 ⟨_,rfl,_,_,_,hs2.get 0 rfl rfl,c50 (hs2.is 1 rfl) (by omega) fun q m H' hs'=>⟨_,_,_,rfl,hR q l m B H' ok hl (hs.call hs')⟩⟩
def rdR(b:Nat)(B:List Int)(at_:Nat)(hi:Bool):Rs:=
 .ex fun(x:Option Addr×Nat)=> .pu (at_≤8*B.length∧B.length≤1000000000∧ ∀x∈B,0≤x∧x<256) (.star (.cell b #[.slice x.1 B.length x.2,.int .i64 at_,.bool hi] 149) (.sl x.1 B.length x.2 5 1 (kints .u8 B)))
theorem rdR_mk{b at_ c:Nat}{B:List Int}{hi:Bool}{p:Option Addr}(h1:at_≤8*B.length)(h2:B.length≤1000000000)(h3: ∀x∈B,0≤x∧x<256)
 (hs:St H0 H (.cell b #[.slice p B.length c,.int .i64 at_,.bool hi] 149:: .sl p B.length c 5 1 (kints .u8 B)::σ)):St H0 H (rdR b B at_ hi::σ):=
 St.inex (f:=fun(x:Option Addr×Nat)=> .pu (at_≤8*B.length∧B.length≤1000000000∧ ∀x∈B,0≤x∧x<256) (.star (.cell b #[.slice x.1 B.length x.2,.int .i64 at_,.bool hi] 149) (.sl x.1 B.length x.2 5 1 (kints .u8 B)))) (p,c) (St.with ⟨h1,h2,h3⟩ hs.cat)
theorem rdR_op{b at_:Nat}{B:List Int}{hi:Bool}(hs:St H0 H (rdR b B at_ hi::σ)): ∃p c,at_≤8*B.length∧B.length≤1000000000∧(∀x∈B,0≤x∧x<256)∧
 St H0 H (.cell b #[.slice p B.length c,.int .i64 at_,.bool hi] 149:: .sl p B.length c 5 1 (kints .u8 B)::σ):=by
 obtain⟨⟨p,c⟩,hs⟩:=hs.unex
 obtain⟨⟨h1,h2,h3⟩,hs⟩:=hs.fact
 exact⟨p,c,h1,h2,h3,hs.cut⟩
theorem c71{p:Option Addr}{l c:Nat}{B:List Int}{hi:Bool}(h:IS H p l (kints .u8 B))(hl:l≤1000000000)(hB: ∀x∈B,0≤x∧x<256)
 (hR: ∀b H',St H H' [rdR b B 0 hi]→R (.pointer (some ⟨b,0,none⟩)) H'):CallsH Tryz.prog 71 #[.slice p l c,.bool hi] H R:=by
 have hBl:=h.length
 subst hBl
 exact Tryz.s71 (c50 h (by omega) fun q m H' hs=>⟨_,_,_,rfl,hs.alc fun b H2 hs=>hR b H2 (rdR_mk (Nat.zero_le _) hl hB hs)⟩)
theorem c122(hs:St H0 H σ){i b at_:Nat}{B:List Int}{hi:Bool}(hi':σ[i]?=some (rdR b B at_ hi))(hR:R (.int .i64 ((8*B.length-at_:Nat):Int)) H):
 CallsH Tryz.prog 122 #[.pointer (some ⟨b,0,none⟩)] H R:=by
 obtain⟨p,c,h1,h2,h3,hs2⟩:=rdR_op (hs.front i hi')
 refine Tryz.s122 ⟨_,rfl,_,_,_,hs2.get 0 rfl rfl,_,rfl,_,hs2.get 0 (j:=1) rfl rfl,?_⟩
 rw[wrap_id (n:=(8:Int)*(B.length:Int)) (by omega) (by omega),wrap_id (by omega) (by omega),show(8:Int)*(B.length:Int)-at_=((8*B.length-at_:Nat):Int) from by omega]
 exact hR
theorem c78(hs:St H0 H σ){i b at_:Nat}{B:List Int}{hi:Bool}(hi':σ[i]?=some (rdR b B at_ hi))(hR:R (.int .i64 at_) H):
 CallsH Tryz.prog 78 #[.pointer (some ⟨b,0,none⟩)] H R:=by
 obtain⟨p,c,h1,h2,h3,hs2⟩:=rdR_op (hs.front i hi')
 exact Tryz.s78 ⟨_,rfl,_,hs2.get 0 (j:=1) rfl rfl,hR⟩
theorem c101(hs:St H0 H σ){i b at_:Nat}{B:List Int}{hi:Bool}(hi':σ[i]?=some (rdR b B at_ hi))
 (hR: ∀H',St H0 H' (σ.set i (rdR b B ((at_+7)/8*8) hi))→R (.tuple #[]) H'):CallsH Tryz.prog 101 #[.pointer (some ⟨b,0,none⟩)] H R:=by
 obtain⟨p,c,h1,h2,h3,hs2⟩:=rdR_op (hs.front i hi')
 refine Tryz.s101 ⟨_,rfl,_,hs2.get 0 (j:=1) rfl rfl,by decide,_,rfl,?_⟩
 rw[wrap_id (n:=(at_:Int)+7) (by omega) (by omega),show(at_:Int)+7=((at_+7:Nat):Int) from rfl,wdiv8 _ (by omega),wrap_id (by omega) (by omega)]
 refine hs2.put 0 rfl (by simp) rfl fun H2 hs=>hR H2 (St.back hi' (rdR_mk (p:=p) (c:=c) (by omega) h2 h3 ?_))
 have e:(((at_+7)/8:Nat):Int)*8=(((at_+7)/8*8:Nat):Int):=by omega
 rw[e] at hs
 exact hs
theorem numB_snoc{hi:Bool}{B:List Int}{a k:Nat}(hk:k<24):(if hi then orI .i64 (shlI .i64 (numB hi B a k) (1:Int)) (bitB hi B (a+k)) else orI .i64 (numB hi B a k) (shlI .i64 (bitB hi B (a+k)) (k:Int)))=numB hi B a (k+1):=by
 have h:=numB_rng hi B a k
 have hp:(2:Int)^k≤2^24:=pow_le (by omega)
 have e24:(2:Int)^24=16777216:=by decide
 rw[numB]
 have hb:0≤bitB hi B (a+k)∧bitB hi B (a+k)<2:=by rcases bitB_rng hi B (a+k) with h|h<;>omega
 split
 ·have h1:shlI .i64 (numB hi B a k) (1:Int)=numB hi B a k*2^1:=shl_of (k:=1) h.1 (by omega) (by omega)
  rw[h1,or_sum' (k:=1) hb.1 (by omega) h.1 (by omega)]
  omega
 ·have h2:bitB hi B (a+k)*2^k≤1*2^k:=Int.mul_le_mul_of_nonneg_right (by omega) (by have:=two_pow_pos k;omega)
  rw[shl_of hb.1 (by omega) (by omega),or_sum h.1 h.2 hb.1 (by omega)]
theorem c100(hs:St H0 H σ){i b at_:Nat}{B:List Int}{hi:Bool}(hi':σ[i]?=some (rdR b B at_ hi)){n:Int}
 (hbad: ¬(0≤n∧n≤24∧at_+n≤8*B.length)→R (.tuple #[.int .i64 0,.bool false]) H)
 (hR:(0≤n∧n≤24∧at_+n≤8*B.length)→ ∀H',St H0 H' (σ.set i (rdR b B (at_+n.toNat) hi))→R (.tuple #[.int .i64 (numB hi B at_ n.toNat),.bool true]) H'):
 CallsH Tryz.prog 100 #[.pointer (some ⟨b,0,none⟩),.int .i64 n] H R:=by
 obtain⟨_,_,h1,h2,h3,_⟩:=rdR_op (hs.front i hi')
 refine Tryz.s100 ?_
 unfold Tryz.S100
 intro J hJ
 refine br_dec (fun h=>hbad (by omega)) (fun n0=>br_dec (fun h=>hbad (by omega)) (fun n1=>c122 hs hi' ⟨_,rfl,br_dec (fun h=>hbad (by omega)) (fun n2=>hJ H ?_)⟩))
 obtain⟨m,rfl⟩:=Int.eq_ofNat_of_zero_le (show 0≤n by omega)
 have hR:=hR ⟨by omega,by omega,by omega⟩
 rw[Int.toNat_natCast] at hR
 intro X hX
 have go: ∀k,k≤m→ ∀H',St H0 H' (σ.set i (rdR b B (at_+k) hi))→X [.int .i64 (numB hi B at_ k),.int .i64 k] H':=upto fun k hk ih H' hs=>by
  refine hX _ _ H' (br_dec (fun hlt=>?_) (fun hge=>?_))
  ·have hlt:k<m:=by omega
   obtain⟨p,c,g1,g2,g3,hs2⟩:=rdR_op (hs.front i (setget hi' _))
   refine⟨_,rfl,_,_,_,hs2.get 0 rfl rfl,_,rfl,_,hs2.get 0 (j:=1) rfl rfl,by decide,?_⟩
   rw[wdiv8 _ (by omega)]
   have hg:=(hs2.is 1 rfl).rd (i:=(((at_+k)/8:Nat):Int)) (by omega) (by omega) (by rw[Int.toNat_natCast];exact get_gD _ 0 (by omega)) (K:=fun y=>y=B.getD ((at_+k)/8) 0) rfl
   obtain⟨a,ha,q0,q1,y,q2,rfl⟩:=hg
   have hyr:=getD_rng g3 ((at_+k)/8)
   refine⟨a,ha,q0,q1,_,q2,_,rfl,_,hs2.get 0 (j:=1) rfl rfl,_,rfl,_,hs2.get 0 (j:=2) rfl rfl,c106 ⟨_,rfl,.inl (Ext.refl _),by omega,?_⟩⟩
   have hbit:andI .i64 (IntKind.wrap .i64 (shrI .u8 (B.getD ((at_+k)/8) 0) ((bpos hi (at_+k):Nat):Int))) (1:Int)=bitB hi B (at_+k):=by
    have:=bpos_lt hi (at_+k)
    have hd0:=Int.ediv_nonneg hyr.1 (Int.le_of_lt (two_pow_pos (bpos hi (at_+k))))
    have hd1:=Int.ediv_le_self (2^bpos hi (at_+k)) hyr.1
    rw[shr8_of _ (by omega),wrap_id (by omega) (by omega),andI_1]
    rfl
   rw[hbit]
   intro J2 hJ2
   have nx:J2 [.int .i64 (numB hi B at_ (k+1))] H':=by
    refine hJ2 _ H' ⟨_,rfl,_,hs2.get 0 (j:=1) rfl rfl,_,rfl,?_⟩
    rw[wrap_id (by omega) (by omega),wrap_id (by omega) (by omega)]
    refine hs2.put 0 rfl (by simp) rfl fun H2 hs3=>ih hlt H2 ?_
    have:=St.back (setget hi' _) (rdR_mk (p:=p) (c:=c) (at_:=at_+(k+1)) (hi:=hi) (by omega) g2 g3 hs3)
    rw[setset] at this;exact this
   have hn:=numB_snoc (hi:=hi) (B:=B) (a:=at_) (k:=k) (by omega)
   refine⟨_,rfl,_,hs2.get 0 (j:=2) rfl rfl,br_i (fun hh=>⟨by decide,?_⟩) (fun hh=>⟨by omega,?_⟩)⟩
   ·rw[if_pos hh] at hn;rw[hn];exact nx
   ·rw[if_neg (by rw[hh];decide)] at hn;rw[hn];exact nx
  ·have:k=m:=by omega
   subst this
   exact hR H' hs
 refine go 0 (by omega) H ?_
 obtain⟨h1,h2⟩:=List.getElem?_eq_some_iff.1 hi'
 rw[Nat.add_zero,←h2,List.set_getElem_self];exact hs
end Go.Proofs
namespace Go.Proofs
open Go.Sh
variable {H0 H:Heap} {σ:List Rs} {R:Value→Heap→Prop}
theorem c109{p:Option Addr}{l c:Nat}{xs:List Int}(h:IS H p l (kints .i64 xs))(hl:l≤1000000000)
 (hR: ∀q m H',St H H' [.sl q l m 3 1 (kints .i64 xs)]→R (.slice q l m) H'):CallsH Tryz.prog 109 #[.slice p l c] H R:=
 Tryz.s109 (clone_of h (by omega) (by omega) rfl hR)
structure PB(H:Heap)(p:Option Addr)(l:Nat)(ps:List (List Int)):Prop where
 len:ps.length=l
 get: ∀(i:Nat) x,ps[i]?=some x→ ∃a q n c,p=some a∧Go.Sh.cell H (a.add i)=some (.slice q n c)∧IS H q n (kints .u8 x)
theorem PB.ext{H H':Heap}{p:Option Addr}{l:Nat}{ps:List (List Int)}(h:PB H p l ps)(e:Ext H H'):PB H' p l ps:=⟨h.len,fun i x hx=>by
 obtain⟨a,q,n,c,h1,h2,h3⟩:=h.get i x hx
 exact⟨a,q,n,c,h1,e.cell h2,h3.ext e⟩⟩
def AllIS(H:Heap):List (Option Addr×Nat×Nat)→List (List Int)→Prop
 |[],[]=>True
 |v::vs,x::ps=>IS H v.1 v.2.1 (kints .u8 x)∧AllIS H vs ps
 |_,_=>False
theorem AllIS.get: ∀{vs:List (Option Addr×Nat×Nat)} {ps:List (List Int)},AllIS H vs ps→vs.length=ps.length∧ ∀(i:Nat) x,ps[i]?=some x→ ∃v,vs[i]?=some v∧IS H v.1 v.2.1 (kints .u8 x)
 |[],[],_=>⟨rfl,fun i x hx=>by simp at hx⟩
 |v::vs,x::ps,h=>by
  obtain⟨h1,h2⟩:=AllIS.get h.2
  refine⟨by simp[h1],fun i y hy=>?_⟩
  cases i with
  |zero=>simp at hy;subst hy;exact⟨v,rfl,h.1⟩
  |succ i=>exact h2 i y (by simpa using hy)
theorem pb_blk{b:Nat}{ty:TypeId}{vs:List (Option Addr×Nat×Nat)}{ps:List (List Int)}(hb:H[b]?=some (.cells (vs.map fun v=>Value.slice v.1 v.2.1 v.2.2).toArray ty))(hv:AllIS H vs ps):PB H (some ⟨b,0,none⟩) vs.length ps:=by
 obtain⟨hl,hg⟩:=hv.get
 refine⟨hl.symm,fun i x hx=>?_⟩
 obtain⟨v,h1,h2⟩:=hg i x hx
 refine⟨_,v.1,v.2.1,v.2.2,rfl,?_,h2⟩
 rw[add_none,Nat.zero_add]
 exact cell_get hb (by simp[h1])
theorem c38{n:Nat}(hn:n≤1000000000)(hR: ∀H' p' c',St H H' [.sl p' 0 c' 5 1 []]→R (.slice p' 0 c') H'):
 CallsH Tryz.prog 38 #[.slice none 0 0,.int .i64 n] H R:=by
 refine Tryz.s38 ?_
 unfold Tryz.S38
 intro J hJ
 refine br_n (by omega) (hJ H ?_)
 have w1:IntKind.wrap .i64 (((0:Nat):Int)-((0:Nat):Int))=0:=by decide
 have w2:IntKind.wrap .i64 ((n:Int)-0)=(n:Int):=by rw[wrap_id (by omega) (by omega)];omega
 rw[w1,w2]
 refine br_dec (fun hp=>⟨by omega,by omega,by omega,by omega,?_,by omega,fun h0=>by omega,fun _=>⟨#[],rfl,fun c' hc'=>⟨by omega,by omega,?_⟩⟩⟩) (fun h0=>hR H none 0 ((St.nil H).nilSl 5 1))
 ·simp;omega
 ·have hc0:c'≠0:=by simp at hc';omega
  simp only[hc0,if_false,Option.map_some,Nat.sub_zero,Int.toNat_natCast,Nat.zero_mul,add_none,Nat.zero_add]
  refine hR _ _ c' ((St.nil H).newSl (Ext.push _ _) ⟨rfl,Nat.zero_le _,by simp,.inr ⟨H.size,_,rfl,Nat.le_refl _,get_push_self _ _,?_,fun i v hv=>by simp at hv⟩⟩)
  rw[zeroCells_eq _ _ (by simp)]
  simp[reps_length] at hc' ⊢
  omega
theorem flatB_take{ps:List (List Int)}{k:Nat}{x:List Int}(h:ps[k]?=some x):(ps.take (k+1)).flatten=(ps.take k).flatten++x:=by
 rw[List.take_add_one,h,Option.toList_some,List.flatten_append];simp
theorem flat_le(ps:List (List Int))(k:Nat):(ps.take k).flatten.length≤ps.flatten.length:=by
 conv=>rhs;rw[←List.take_append_drop k ps,List.flatten_append,List.length_append]
 omega
theorem c20{p:Option Addr}{l c:Nat}{ps:List (List Int)}(h:PB H p l ps)(hl:l≤1000000000)(hn:ps.flatten.length≤1000000000)
 (hR: ∀q c' H',St H H' [.sl q ps.flatten.length c' 5 1 (kints .u8 ps.flatten)]→R (.slice q ps.flatten.length c') H'):CallsH Tryz.prog 20 #[.slice p l c] H R:=by
 have hpl:=h.len
 refine Tryz.s20 ?_
 unfold Tryz.S20
 intro X2 hX2
 have go: ∀k,k≤l→X2 [.int .i64 ((ps.take k).flatten.length:Nat),.int .i64 (k:Nat)] H:=upto fun k hk ih=>by
  have hf:=flat_le ps k
  refine hX2 _ _ H (br_dec (fun hlt=>?_) (fun hge=>?_))
  ·have hlt:k<l:=by omega
   obtain⟨x,hx⟩: ∃x,ps[k]?=some x:=⟨_,List.getElem?_eq_getElem (by omega)⟩
   obtain⟨a,q,n,c2,h1,h2,h3⟩:=h.get k x hx
   have h3l:=h3.length
   have hf2:=flat_le ps (k+1)
   have ih:=ih hlt
   rw[flatB_take hx,List.length_append,h3l] at ih hf2
   refine⟨a,h1,by omega,by omega,q,n,c2,by rw[Int.toNat_natCast,Nat.mul_one];exact h2,?_⟩
   rw[wrap_id (n:=_+(n:Int)) (by omega) (by omega),wrap_id (n:=(k:Int)+1) (by omega) (by omega)]
   exact br_n (by omega) ih
  ·have:k=l:=by omega
   subst this
   rw[List.take_of_length_le (by omega)]
   refine c38 hn fun H9 q0 c0 hs9=>⟨_,_,_,rfl,?_⟩
   intro X11 hX
   have add: ∀j,j≤k→ ∀q c' H1,St H H1 [.sl q (ps.take j).flatten.length c' 5 1 (kints .u8 (ps.take j).flatten)]→X11 [.slice q (ps.take j).flatten.length c',.int .i64 (j:Nat)] H1:=upto fun j hj ih q c' H1 hs1=>by
    have hf:=flat_le ps j
    refine hX _ _ _ _ H1 (br_dec (fun hlt=>?_) (fun hge=>?_))
    ·have hlt:j<k:=by omega
     obtain⟨x,hx⟩: ∃x,ps[j]?=some x:=⟨_,List.getElem?_eq_getElem (by omega)⟩
     obtain⟨a,q2,n,c2,h1,h2,h3⟩:=(h.ext hs1.ext).get j x hx
     have h3l:=h3.length
     have hf2:=flat_le ps (j+1)
     have ih:=ih hlt
     rw[flatB_take hx,List.length_append,h3l] at ih hf2
     refine⟨a,h1,by omega,by omega,q2,n,c2,by rw[Int.toNat_natCast,Nat.mul_one];exact h2,?_⟩
     refine hs1.appI 0 rfl h3 (kints_one _ _) rfl (by omega) (by omega) fun p' c3 H2 hs2=>?_
     rw[wrap_id (by omega) (by omega)]
     refine ih p' c3 H2 ?_
     rw[kints_append]
     exact hs2
    ·have:j=k:=by omega
     subst this
     rw[List.take_of_length_le (by omega)] at hs1 ⊢
     exact hR q c' H1 hs1
   exact add 0 (by omega) q0 c0 H9 hs9
 exact go 0 (by omega)
theorem c31{p q:Option Addr}{l c l2 c2:Nat}{xs ys:List Int}(h1:IS H p l (kints .u8 xs))(h2:IS H q l2 (kints .u8 ys))(hl:l+l2≤1000000000)
 (hR: ∀r c' H',St H H' [.sl r (xs++ys).length c' 5 1 (kints .u8 (xs++ys))]→R (.slice r (xs++ys).length c') H'):CallsH Tryz.prog 31 #[.slice p l c,.slice q l2 c2] H R:=by
 have e1:=h1.length
 have e2:=h2.length
 refine Tryz.s31 ((St.nil H).alc fun b H1 hs1=>?_)
 have hs1:St H H1 [.sl (some ⟨b,0,none⟩) 0 0 5 1 []]:=hs1.toSl 0 rfl rfl rfl (by simp)
 refine hs1.appI 0 rfl (h1.ext hs1.ext) (kints_one _ _) rfl (by omega) (by omega) fun p1 c1 H2 hs2=>?_
 refine hs2.appI 0 rfl (h2.ext hs2.ext) (kints_one _ _) rfl (by omega) (by omega) fun p2 c3 H3 hs3=>?_
 have:=hR p2 c3 H3 (by
  rw[List.length_append,e1,e2]
  rw[kints_append]
  rw[Nat.zero_add] at hs3
  exact hs3)
 rw[List.length_append,e1,e2] at this
 rw[Nat.zero_add]
 exact this
end Go.Proofs
namespace Go.Proofs
open Go.Sh
theorem shl64{x k:Int}(h0:0≤x)(h1:x≤1099511627776)(k0:0≤k)(k1:k≤16):shlI .i64 x k=x*2^k.toNat:=by
 unfold shlI
 have hb:min k.toNat (IntKind.bits .i64)=k.toNat:=by
  have:IntKind.bits .i64=64:=rfl
  rw[this];omega
 rw[hb]
 have hp:(2:Int)^k.toNat≤65536:=by
  have h2:2^k.toNat≤2^16:=Nat.pow_le_pow_right (by omega) (by omega)
  have h3:((2^k.toNat:Nat):Int)=(2:Int)^k.toNat:=by simp
  have h4:(2:Nat)^16=65536:=rfl
  omega
 have hq:(0:Int)≤2^k.toNat:=Int.pow_nonneg (by omega)
 have hm:x*2^k.toNat≤1099511627776*65536:=Int.mul_le_mul h1 hp hq (by omega)
 have hm0:0≤x*2^k.toNat:=Int.mul_nonneg h0 hq
 exact wrap_id (by omega) (by omega)
theorem shr64{x k:Int}(k0:0≤k)(k1:k≤16):shrI .i64 x k=x/2^k.toNat:=by
 unfold shrI
 have hb:min k.toNat (IntKind.bits .i64)=k.toNat:=by
  have:IntKind.bits .i64=64:=rfl
  rw[this];omega
 rw[hb]
 exact Int.fdiv_eq_ediv_of_nonneg _ (Int.pow_nonneg (by omega))
def wt(n:Int):Int:=if n>0 then 2^(16-n).toNat else 0
def wtM(ls:List Int):Int:=(ls.map wt).sum
structure OkW(ls:List Int):Prop where
 len:ls.length≤300
 rng: ∀n∈ls,0≤n∧n≤16
theorem wt_rng{n:Int}(h:0≤n∧n≤16):0≤wt n∧wt n≤32768:=by
 unfold wt
 have:n=0∨n=1∨n=2∨n=3∨n=4∨n=5∨n=6∨n=7∨n=8∨n=9∨n=10∨n=11∨n=12∨n=13∨n=14∨n=15∨n=16:=by omega
 rcases this with h|h|h|h|h|h|h|h|h|h|h|h|h|h|h|h|h<;>subst h<;>decide
theorem wt_shr{n:Int}(h:0<n∧n≤16):shrI .i64 (65536:Int) n=wt n:=by
 have:n=1∨n=2∨n=3∨n=4∨n=5∨n=6∨n=7∨n=8∨n=9∨n=10∨n=11∨n=12∨n=13∨n=14∨n=15∨n=16:=by omega
 rcases this with h|h|h|h|h|h|h|h|h|h|h|h|h|h|h|h<;>subst h<;>decide
theorem wt_shl{n:Int}(h:0<n∧n≤16):shlI .i64 (1:Int) (16-n)=wt n:=by
 rw[shl64 (by omega) (by omega) (by omega) (by omega)]
 unfold wt
 rw[if_pos h.1]
 omega
theorem sum_append(a b:List Int):(a++b).sum=a.sum+b.sum:=by
 induction a with
 |nil=>simp
 |cons x r ih=>simp[ih];omega
theorem wtM_snoc(a:List Int)(n:Int):wtM (a++[n])=wtM a+wt n:=by unfold wtM;rw[List.map_append,sum_append];simp
theorem wtM_rng{ls:List Int}(h: ∀n∈ls,0≤n∧n≤16):0≤wtM ls∧wtM ls≤32768*ls.length:=by
 induction ls with
 |nil=>simp[wtM]
 |cons n r ih=>
  have h1:=wt_rng (h n List.mem_cons_self)
  have h2:=ih fun x hx=>h x (List.mem_cons_of_mem _ hx)
  unfold wtM at*
  simp only[List.map_cons,List.sum_cons,List.length_cons]
  omega
theorem c108{H:Heap}{p:Option Addr}{l c:Nat}{ls:List Int}(h:IS H p l (ints ls)){R:Value→Heap→Prop}(hbad: ¬OkW ls→R (.tuple #[.int .i64 0,.bool false]) H)(hgood:OkW ls→R (.tuple #[.int .i64 (wtM ls),.bool true]) H):
 CallsH Tryz.prog 108 #[.slice p l c] H R:=by
 have hl:ls.length=l:=by have:=h.len;rw[ints_len] at this;omega
 refine Tryz.s108 ?_
 unfold Tryz.S108
 refine br_dec (fun hb=>hbad fun ok=>by have:=ok.len;omega) (fun hb=>?_)
 intro X hX
 have loop: ∀(m s:Nat),l-s=m→s≤l→(∀n∈ls.take s,0≤n∧n≤16)→X [.int .i64 (wtM (ls.take s)),.int .i64 s] H:=by
  intro m
  induction m with
  |zero=>
   intro s hm hs rg
   rw[List.take_of_length_le (by omega)] at rg ⊢
   exact hX _ _ H (br_n (by omega) (hgood ⟨by omega,rg⟩))
  |succ m ih=>
   intro s hm hs rg
   have ws:IntKind.wrap .i64 ((s:Int)+1)=((s+1:Nat):Int):=by rw[wrap_id (by omega) (by omega)];omega
   have hsl:s<ls.length:=by omega
   have hv:ls[s]?=some ls[s]:=List.getElem?_eq_getElem hsl
   have htake:ls.take (s+1)=ls.take s++[ls[s]]:=List.take_succ_eq_append_getElem hsl
   have hmem:ls[s]∈ls:=List.getElem_mem hsl
   have hnx:=ih (s+1) (by omega) (by omega)
   rw[htake] at hnx
   generalize ls[s]=n at hv htake hmem hnx
   obtain⟨blk,hp,cv⟩:=h.cell (ints_get hv)
   have hw:=wtM_rng rg
   have htl:(ls.take s).length≤300:=by simp;omega
   refine hX _ _ H (br_y (by omega) ⟨_,hp,by omega,by omega,n,by simpa using cv,?_⟩)
   rw[ws]
   intro J hJ
   refine br_dec (fun hn=>hbad fun ok=>by have:=ok.rng n hmem;omega) (fun n0=>br_dec (fun hn=>hbad fun ok=>by have:=ok.rng n hmem;omega) (fun n16=>hJ H ?_))
   have rg': ∀x∈ls.take s++[n],0≤x∧x≤16:=fun x hx=>by
    rcases List.mem_append.1 hx with hx|hx
    ·exact rg x hx
    ·rw[List.mem_singleton] at hx;subst hx;omega
   have hwn:=wt_rng (n:=n) (by omega)
   have hnx:=hnx rg'
   rw[wtM_snoc] at hnx
   refine br_dec (fun hpos=>?_) (fun hz=>?_)
   ·have w1:IntKind.wrap .i64 ((16:Int)-n)=16-n:=wrap_id (by omega) (by omega)
    rw[w1,wt_shl (by omega),wrap_id (n:=wtM (ls.take s)+wt n) (by omega) (by omega)]
    exact⟨by omega,hnx⟩
   ·have:wt n=0:=by unfold wt;rw[if_neg hz]
    rw[this,Int.add_zero] at hnx
    exact hnx
 have:=loop l 0 (by omega) (by omega) (fun n hn=>by simp at hn)
 simpa[wtM] using this
theorem c115{H:Heap}{p:Option Addr}{l c:Nat}{ls:List Int}(h:IS H p l (ints ls)){R:Value→Heap→Prop}(hbad: ¬OkW ls→R (.tuple #[.int .i64 0,.bool false]) H)(hgood:OkW ls→R (.tuple #[.int .i64 (wtM ls),.bool true]) H):
 CallsH Tryz.prog 115 #[.slice p l c] H R:=by
 have hl:ls.length=l:=by have:=h.len;rw[ints_len] at this;omega
 refine Tryz.s115 ?_
 unfold Tryz.S115
 refine br_dec (fun hb=>hbad fun ok=>by have:=ok.len;omega) (fun hb=>?_)
 intro X hX
 have loop: ∀(m s:Nat),l-s=m→s≤l→(∀n∈ls.take s,0≤n∧n≤16)→X [.int .i64 (wtM (ls.take s)),.int .i64 s] H:=by
  intro m
  induction m with
  |zero=>
   intro s hm hs rg
   rw[List.take_of_length_le (by omega)] at rg ⊢
   exact hX _ _ H (br_n (by omega) (hgood ⟨by omega,rg⟩))
  |succ m ih=>
   intro s hm hs rg
   have ws:IntKind.wrap .i64 ((s:Int)+1)=((s+1:Nat):Int):=by rw[wrap_id (by omega) (by omega)];omega
   have hsl:s<ls.length:=by omega
   have hv:ls[s]?=some ls[s]:=List.getElem?_eq_getElem hsl
   have htake:ls.take (s+1)=ls.take s++[ls[s]]:=List.take_succ_eq_append_getElem hsl
   have hmem:ls[s]∈ls:=List.getElem_mem hsl
   have hnx:=ih (s+1) (by omega) (by omega)
   rw[htake] at hnx
   generalize ls[s]=n at hv htake hmem hnx
   obtain⟨blk,hp,cv⟩:=h.cell (ints_get hv)
   have hw:=wtM_rng rg
   have htl:(ls.take s).length≤300:=by simp;omega
   refine hX _ _ H (br_y (by omega) ?_)
   rw[ws]
   intro J hJ
   refine⟨_,hp,by omega,by omega,n,by simpa using cv,br_dec (fun hn=>hbad fun ok=>by have:=ok.rng n hmem;omega) (fun n0=>⟨_,hp,by omega,by omega,n,by simpa using cv,br_dec (fun hn=>hbad fun ok=>by have:=ok.rng n hmem;omega) (fun n16=>hJ H ?_)⟩)⟩
   have rg': ∀x∈ls.take s++[n],0≤x∧x≤16:=fun x hx=>by
    rcases List.mem_append.1 hx with hx|hx
    ·exact rg x hx
    ·rw[List.mem_singleton] at hx;subst hx;omega
   have hwn:=wt_rng (n:=n) (by omega)
   have hnx:=hnx rg'
   rw[wtM_snoc] at hnx
   refine⟨_,hp,by omega,by omega,n,by simpa using cv,br_dec (fun hpos=>⟨_,hp,by omega,by omega,n,by simpa using cv,by omega,?_⟩) (fun hz=>?_)⟩
   ·rw[wt_shr (by omega),wrap_id (n:=wtM (ls.take s)+wt n) (by omega) (by omega)]
    exact hnx
   ·have:wt n=0:=by unfold wt;rw[if_neg hz]
    rw[this,Int.add_zero] at hnx
    exact hnx
 have:=loop l 0 (by omega) (by omega) (fun n hn=>by simp at hn)
 simpa[wtM] using this
def rank(ls:List Int)(s n:Nat):Nat:=(ls.take s).countP (fun x=>x==(n:Int))
def cnt(ls:List Int)(n:Nat):Nat:=if n=0 then 0 else rank ls ls.length n
def base(ls:List Int):Nat→Int
 |0=>0
 |n+1=>2*(base ls n+cnt ls n)
def codeM(ls:List Int)(s:Nat):Int:=match ls[s]? with
 |some n=>if n>0 then base ls n.toNat+rank ls s n.toNat else 0
 |none=>0
def codesM(ls:List Int):List Int:=(List.range ls.length).map (codeM ls)
structure OkC(ls:List Int):Prop where
 w:OkW ls
 le:wtM ls≤65536
theorem rank_le(ls:List Int)(s n:Nat):rank ls s n≤ls.length:=Nat.le_trans List.countP_le_length (by simp;omega)
theorem cnt_le(ls:List Int)(n:Nat):cnt ls n≤ls.length:=by unfold cnt;split;omega;exact rank_le _ _ _
theorem base_rng(ls:List Int): ∀n,0≤base ls n∧base ls n≤ls.length*(2^(n+1)-2)
 |0=>by simp[base]
 |n+1=>by
  have ih:=base_rng ls n
  have hc:=cnt_le ls n
  have e:(2:Int)^(n+1+1)=2^(n+1)*2:=Int.pow_succ ..
  rw[e]
  show 0≤2*(base ls n+cnt ls n)∧2*(base ls n+cnt ls n)≤_
  generalize (2:Int)^(n+1)=z at*
  have e2:(ls.length:Int)*(z*2-2)=2*(ls.length*(z-2))+2*ls.length:=by
   rw[Int.mul_sub,Int.mul_sub,←Int.mul_assoc];omega
  rw[e2]
  omega
theorem base_small{ls:List Int}(hl:ls.length≤300){n:Nat}(hn:n≤16):0≤base ls n∧base ls n≤40000000:=by
 have h:=base_rng ls n
 have h2:2^(n+1)≤2^17:=Nat.pow_le_pow_right (by omega) (by omega)
 have h3:((2^(n+1):Nat):Int)=(2:Int)^(n+1):=by simp
 have h4:(2:Nat)^17=131072:=rfl
 have h5:(ls.length:Int)*(2^(n+1)-2)≤300*(2^(n+1)-2):=Int.mul_le_mul_of_nonneg_right (by omega) (by have:=Nat.one_le_two_pow (n:=n);have:(2:Nat)^(n+1)=2^n*2:=Nat.pow_succ ..;omega)
 omega
theorem rank_snoc{ls:List Int}{s:Nat}{v:Int}(h:ls[s]?=some v)(n:Nat):rank ls (s+1) n=rank ls s n+if v=(n:Int) then 1 else 0:=by
 obtain⟨hl,hv⟩:=List.getElem?_eq_some_iff.1 h
 unfold rank
 rw[List.take_succ_eq_append_getElem hl,List.countP_append,hv]
 by_cases hvn:v=(n:Int)<;>simp[hvn]
def partM(ls:List Int)(n s i:Nat):Int:=match ls[i]? with
 |some v=>if v>0∧(v<n∨(v=n∧i<s)) then codeM ls i else 0
 |none=>0
def partsM(ls:List Int)(n s:Nat):List Int:=(List.range ls.length).map (partM ls n s)
theorem partsM_set{ls:List Int}{n s:Nat}{v:Int}(h:ls[s]?=some v)(hv:v=(n:Int))(hn:0<n):(partsM ls n s).set s (codeM ls s)=partsM ls n (s+1):=by
 apply List.ext_getElem?
 intro i
 have hsl:=(List.getElem?_eq_some_iff.1 h).1
 have hpl:(partsM ls n s).length=ls.length:=by simp[partsM]
 rw[List.getElem?_set]
 by_cases hi:i<ls.length
 ·have e1:(partsM ls n (s+1))[i]?=some (partM ls n (s+1) i):=by simp[partsM,hi]
  have e0:(partsM ls n s)[i]?=some (partM ls n s i):=by simp[partsM,hi]
  rw[e1,e0]
  by_cases hsi:s=i
  ·subst hsi
   rw[if_pos rfl,if_pos (by omega)]
   unfold partM
   rw[h]
   simp only
   rw[if_pos ⟨by omega,by omega⟩]
  ·rw[if_neg hsi]
   unfold partM
   have hg:ls[i]?=some ls[i]:=List.getElem?_eq_getElem hi
   rw[hg]
   simp only
   by_cases hc:ls[i]>0∧(ls[i]<n∨(ls[i]=n∧i<s))
   ·rw[if_pos hc,if_pos ⟨hc.1,by omega⟩]
   ·rw[if_neg hc,if_neg fun hh=>hc ⟨hh.1,by omega⟩]
 ·rw[List.getElem?_eq_none_iff.2 (by simp[partsM];omega),List.getElem?_eq_none_iff.2 (by simp[partsM];omega),if_neg (by omega)]
theorem partsM_skip{ls:List Int}{n s:Nat}{v:Int}(h:ls[s]?=some v)(hv:v≠(n:Int)):partsM ls n s=partsM ls n (s+1):=by
 apply List.map_congr_left
 intro i hi
 unfold partM
 have hil:i<ls.length:=List.mem_range.1 hi
 have hg:ls[i]?=some ls[i]:=List.getElem?_eq_getElem hil
 rw[hg]
 simp only
 by_cases hsi:i=s
 ·subst hsi
  rw[hg] at h;cases h
  by_cases hc:ls[i]>0∧(ls[i]<n∨(ls[i]=n∧i<i))
  ·rw[if_pos hc,if_pos ⟨hc.1,by omega⟩]
  ·rw[if_neg hc,if_neg fun hh=>hc ⟨hh.1,by omega⟩]
 ·by_cases hc:ls[i]>0∧(ls[i]<n∨(ls[i]=n∧i<s))
  ·rw[if_pos hc,if_pos ⟨hc.1,by omega⟩]
  ·rw[if_neg hc,if_neg fun hh=>hc ⟨hh.1,by omega⟩]
theorem partsM_next(ls:List Int)(n:Nat):partsM ls n ls.length=partsM ls (n+1) 0:=by
 apply List.map_congr_left
 intro i hi
 unfold partM
 have hil:i<ls.length:=List.mem_range.1 hi
 have hg:ls[i]?=some ls[i]:=List.getElem?_eq_getElem hil
 rw[hg]
 simp only
 by_cases hc:ls[i]>0∧(ls[i]<n∨(ls[i]=n∧i<ls.length))
 ·rw[if_pos hc,if_pos ⟨hc.1,by omega⟩]
 ·rw[if_neg hc,if_neg fun hh=>hc ⟨hh.1,by omega⟩]
theorem partsM_first(ls:List Int):partsM ls 1 0=List.replicate ls.length 0:=by
 apply List.ext_getElem?
 intro i
 by_cases hi:i<ls.length
 ·simp only[partsM,List.getElem?_map,List.getElem?_range hi,Option.map_some,List.getElem?_replicate,if_pos hi]
  unfold partM
  have hg:ls[i]?=some ls[i]:=List.getElem?_eq_getElem hi
  rw[hg]
  simp only
  rw[if_neg (by omega)]
 ·rw[List.getElem?_eq_none_iff.2 (by simp[partsM];omega),List.getElem?_eq_none_iff.2 (by simp;omega)]
theorem partsM_last{ls:List Int}(h: ∀n∈ls,0≤n∧n≤16):partsM ls 17 0=codesM ls:=by
 apply List.map_congr_left
 intro i hi
 have hil:i<ls.length:=List.mem_range.1 hi
 have hg:ls[i]?=some ls[i]:=List.getElem?_eq_getElem hil
 have hr:=h _ (List.getElem_mem hil)
 unfold partM
 rw[hg]
 simp only
 by_cases hp:ls[i]>0
 ·rw[if_pos ⟨hp,by omega⟩]
 ·rw[if_neg (fun hh=>hp hh.1)]
  unfold codeM
  rw[hg]
  simp only
  rw[if_neg hp]
set_option maxHeartbeats 1000000 in
theorem c86{H:Heap}{p:Option Addr}{l c:Nat}{ls:List Int}(h:IS H p l (ints ls)){R:Value→Heap→Prop}(hbad: ¬OkC ls→R (.tuple #[.slice none 0 0,.bool false]) H)
 (hgood:OkC ls→ ∀H' b,FS H.size H' (some ⟨b,0,none⟩) l l 3 1 (ints (codesM ls))→Ext H H'→R (.tuple #[.slice (some ⟨b,0,none⟩) l l,.bool true]) H'):CallsH Tryz.prog 86 #[.slice p l c] H R:=by
 have hl:ls.length=l:=by have:=h.len;rw[ints_len] at this;omega
 refine Tryz.s86 ?_
 unfold Tryz.S86 alc
 refine c108 h (fun hn=>⟨_,_,rfl,fun J hJ=>br_t rfl (hbad fun ok=>hn ok.w)⟩) (fun okw=>⟨_,_,rfl,?_⟩)
 intro J hJ
 refine br_f rfl (br_dec (fun hgt=>hbad fun ok=>by have:=ok.le;omega) (fun hle=>hJ H ?_))
 have ok:OkC ls:=⟨okw,by omega⟩
 have l300:=okw.len
 rw[Int.toNat_natCast]
 refine⟨by omega,by omega,by omega,by omega,?_⟩
 have hb2:=get_push_self H (.cells (List.toArray (reps l [Value.int .i64 0])) 3)
 have e2:Ext H (H.push (.cells (List.toArray (reps l [Value.int .i64 0])) 3)):=Ext.push _ _
 have out2:FS H.size (H.push (.cells (List.toArray (reps l [Value.int .i64 0])) 3)) (some ⟨H.size,0,none⟩) l l 3 1 (ints (partsM ls 1 0)):=by
  rw[partsM_first,hl];exact zeros_FS (Nat.le_refl _) hb2
 generalize H.push (.cells (List.toArray (reps l [Value.int .i64 0])) 3)=H2 at e2 out2
 intro X hX
 have one:(0:Int)≤1:=by omega
 have levels: ∀(m n:Nat) (H3:Heap),17-n=m→1≤n→n≤17→Ext H H3→FS H.size H3 (some ⟨H.size,0,none⟩) l l 3 1 (ints (partsM ls n 0))→X [.int .i64 (base ls (n-1)+cnt ls (n-1)),.int .i64 n] H3:=by
  intro m
  induction m with
  |zero=>
   intro n H3 hm hn1 hn e3 f3
   have:n=17:=by omega
   subst this
   rw[partsM_last okw.rng] at f3
   exact hX _ _ H3 (br_n (by omega) (hgood ok H3 H.size f3 e3))
  |succ m ih=>
   intro n H3 hm hn1 hn e3 f3
   have wn:IntKind.wrap .i64 ((n:Int)+1)=((n+1:Nat):Int):=by rw[wrap_id (by omega) (by omega)];omega
   have hbs:=base_small l300 (n:=n-1) (by omega)
   have hcs:=cnt_le ls (n-1)
   have hbn:shlI .i64 (base ls (n-1)+cnt ls (n-1)) (1:Int)=base ls n:=by
    rw[shl64 (by omega) (by omega) (by omega) (by omega)]
    have:n=n-1+1:=by omega
    rw[this]
    show _=2*(base ls (n-1)+cnt ls (n-1))
    simp;omega
   refine hX _ _ H3 (br_y (by omega) ⟨one,?_⟩)
   rw[hbn,wn]
   intro Y hY
   have inner: ∀(m2 s:Nat) (H4:Heap),l-s=m2→s≤l→Ext H H4→FS H.size H4 (some ⟨H.size,0,none⟩) l l 3 1 (ints (partsM ls n s))→Y [.int .i64 (base ls n+rank ls s n),.int .i64 s] H4:=by
    intro m2
    induction m2 with
    |zero=>
     intro s H4 hm2 hs e4 f4
     have:s=ls.length:=by omega
     subst this
     refine hY _ _ H4 (br_n (by omega) ?_)
     rw[partsM_next] at f4
     have:=ih (n+1) H4 (by omega) (by omega) (by omega) e4 f4
     have hc:cnt ls (n+1-1)=rank ls ls.length n:=by rw[Nat.add_sub_cancel];unfold cnt;rw[if_neg (by omega)]
     rw[hc,Nat.add_sub_cancel] at this
     exact this
    |succ m2 ih2=>
     intro s H4 hm2 hs e4 f4
     have ws:IntKind.wrap .i64 ((s:Int)+1)=((s+1:Nat):Int):=by rw[wrap_id (by omega) (by omega)];omega
     have hsl:s<ls.length:=by omega
     have hv:ls[s]?=some ls[s]:=List.getElem?_eq_getElem hsl
     generalize ls[s]=v at hv
     obtain⟨blk,hp,cv⟩:=(h.ext e4).cell (ints_get hv)
     have hb:=base_small l300 (n:=n) (by omega)
     have hr:=rank_le ls s n
     have hrs:=rank_snoc hv n
     refine hY _ _ H4 (br_y (by omega) ⟨_,hp,by omega,by omega,v,by simpa using cv,br_eq (fun heq=>⟨_,rfl,by omega,by omega,?_⟩) (fun hne=>?_)⟩)
     ·rw[ws]
      simp only[add_none,Nat.zero_add,Nat.mul_one,Int.toNat_natCast]
      have hcode:base ls n+(rank ls s n:Int)=codeM ls s:=by
       unfold codeM
       rw[hv]
       simp only
       rw[if_pos (by omega),heq,Int.toNat_natCast]
      have hw:IntKind.wrap .i64 (base ls n+(rank ls s n:Int)+1)=base ls n+(rank ls (s+1) n:Int):=by
       rw[wrap_id (by omega) (by omega),hrs,if_pos heq];omega
      rw[hw]
      refine f4.set (by rw[ints_len];simp[partsM];omega) rfl fun H5 f5 hk5 hs5=>?_
      rw[ints_set,hcode,partsM_set hv heq (by omega)] at f5
      exact ih2 (s+1) H5 (by omega) (by omega) (fun b o hb=>hk5 b o (e4 b o hb) (by have:=lt_of_get hb;omega)) f5
     ·rw[ws]
      rw[partsM_skip hv hne] at f4
      have:=ih2 (s+1) H4 (by omega) (by omega) e4 f4
      rw[hrs,if_neg hne,Nat.add_zero] at this
      exact this
   have:=inner l 0 H3 (by omega) (by omega) e3 f3
   simpa[rank] using this
 have:=levels 16 1 H2 rfl (by omega) (by omega) e2 out2
 simpa[base,cnt] using this
set_option maxHeartbeats 1000000 in
theorem c116{H:Heap}{p:Option Addr}{l c:Nat}{ls:List Int}(h:IS H p l (ints ls)){R:Value→Heap→Prop}(hbad: ¬OkC ls→R (.tuple #[.slice none 0 0,.bool false]) H)
 (hgood:OkC ls→ ∀H' b,FS H.size H' (some ⟨b,0,none⟩) l l 3 1 (ints (codesM ls))→Ext H H'→R (.tuple #[.slice (some ⟨b,0,none⟩) l l,.bool true]) H'):CallsH Tryz.prog 116 #[.slice p l c] H R:=by
 have hl:ls.length=l:=by have:=h.len;rw[ints_len] at this;omega
 refine Tryz.s116 ?_
 unfold Tryz.S116 alc
 refine c115 h (fun hn=>⟨_,_,rfl,fun J hJ=>br_t rfl (hbad fun ok=>hn ok.w)⟩) (fun okw=>⟨_,_,rfl,?_⟩)
 intro J hJ
 refine br_f rfl (br_dec (fun hgt=>hbad fun ok=>by have:=ok.le;omega) (fun hle=>hJ H ?_))
 have ok:OkC ls:=⟨okw,by omega⟩
 have l300:=okw.len
 rw[Int.toNat_natCast]
 refine⟨by omega,by omega,by omega,by omega,?_⟩
 have hb2:=get_push_self H (.cells (List.toArray (reps l [Value.int .i64 0])) 3)
 have e2:Ext H (H.push (.cells (List.toArray (reps l [Value.int .i64 0])) 3)):=Ext.push _ _
 have out2:FS H.size (H.push (.cells (List.toArray (reps l [Value.int .i64 0])) 3)) (some ⟨H.size,0,none⟩) l l 3 1 (ints (partsM ls 1 0)):=by
  rw[partsM_first,hl];exact zeros_FS (Nat.le_refl _) hb2
 generalize H.push (.cells (List.toArray (reps l [Value.int .i64 0])) 3)=H2 at e2 out2
 intro X hX
 -- the code given last,and its length
 let Inv:Nat→Nat→Int→Nat→Prop:=fun n s code last=>(last=0∧code=0∧base ls n+rank ls s n=0)∨(1≤last∧last≤n∧0≤code∧(code+1)*2^(n-last)=base ls n+rank ls s n)
 have levels: ∀(m n:Nat) (H3:Heap) (code:Int) (last:Nat),17-n=m→1≤n→n≤17→Ext H H3→FS H.size H3 (some ⟨H.size,0,none⟩) l l 3 1 (ints (partsM ls n 0))→Inv n 0 code last→X [.int .i64 code,.int .i64 last,.int .i64 n] H3:=by
  intro m
  induction m with
  |zero=>
   intro n H3 code last hm hn1 hn e3 f3 hi
   have:n=17:=by omega
   subst this
   rw[partsM_last okw.rng] at f3
   exact hX _ _ _ H3 (br_n (by omega) (hgood ok H3 H.size f3 e3))
  |succ m ih=>
   intro n H3 code last hm hn1 hn e3 f3 hi
   have wn:IntKind.wrap .i64 ((n:Int)+1)=((n+1:Nat):Int):=by rw[wrap_id (by omega) (by omega)];omega
   have hb:=base_small l300 (n:=n) (by omega)
   refine hX _ _ _ H3 (br_y (by omega) ?_)
   rw[wn]
   intro Y hY
   have inner: ∀(m2 s:Nat) (H4:Heap) (code:Int) (last:Nat),l-s=m2→s≤l→Ext H H4→FS H.size H4 (some ⟨H.size,0,none⟩) l l 3 1 (ints (partsM ls n s))→Inv n s code last→Y [.int .i64 code,.int .i64 last,.int .i64 s] H4:=by
    intro m2
    induction m2 with
    |zero=>
     intro s H4 code last hm2 hs e4 f4 hi
     have:s=ls.length:=by omega
     subst this
     refine hY _ _ _ H4 (br_n (by omega) ?_)
     rw[partsM_next] at f4
     refine ih (n+1) H4 code last (by omega) (by omega) (by omega) e4 f4 ?_
     have hc:base ls (n+1)=2*(base ls n+rank ls ls.length n):=by
      show 2*(base ls n+cnt ls n)=_
      unfold cnt;rw[if_neg (by omega)]
     have hr0:rank ls 0 (n+1)=0:=by simp[rank]
     rcases hi with ⟨a1,a2,a3⟩|⟨a1,a2,a3,a4⟩
     ·exact .inl ⟨a1,a2,by rw[hc,hr0];omega⟩
     ·refine .inr ⟨a1,by omega,a3,?_⟩
      have e:n+1-last=n-last+1:=by omega
      rw[hc,hr0,←a4,e,Int.pow_succ,←Int.mul_assoc]
      omega
    |succ m2 ih2=>
     intro s H4 code last hm2 hs e4 f4 hi
     have ws:IntKind.wrap .i64 ((s:Int)+1)=((s+1:Nat):Int):=by rw[wrap_id (by omega) (by omega)];omega
     have hsl:s<ls.length:=by omega
     have hv:ls[s]?=some ls[s]:=List.getElem?_eq_getElem hsl
     generalize ls[s]=v at hv
     obtain⟨blk,hp,cv⟩:=(h.ext e4).cell (ints_get hv)
     have hr:=rank_le ls s n
     have hrs:=rank_snoc hv n
     refine hY _ _ _ H4 (br_y (by omega) ⟨_,hp,by omega,by omega,v,by simpa using cv,br_ne (fun hne=>?_) (fun heq=>?_)⟩)
     ·rw[ws]
      rw[partsM_skip hv hne] at f4
      refine ih2 (s+1) H4 code last (by omega) (by omega) e4 f4 ?_
      show(_∧_∧base ls n+(rank ls (s+1) n:Int)=0)∨(_∧_∧_∧_=base ls n+(rank ls (s+1) n:Int))
      rw[hrs,if_neg hne,Nat.add_zero]
      exact hi
     ·intro J2 hJ2
      have hcode:base ls n+(rank ls s n:Int)=codeM ls s:=by
       unfold codeM
       rw[hv]
       simp only
       rw[if_pos (by omega),heq,Int.toNat_natCast]
      have go:J2 [.int .i64 (base ls n+(rank ls s n:Int))] H4:=by
       refine hJ2 _ H4 ⟨_,rfl,by omega,by omega,?_⟩
       rw[ws]
       simp only[add_none,Nat.zero_add,Nat.mul_one,Int.toNat_natCast]
       refine f4.set (by rw[ints_len];simp[partsM];omega) rfl fun H5 f5 hk5 hs5=>?_
       rw[ints_set,hcode,partsM_set hv heq (by omega)] at f5
       refine ih2 (s+1) H5 _ n (by omega) (by omega) (fun b o hb=>hk5 b o (e4 b o hb) (by have:=lt_of_get hb;omega)) f5 (.inr ⟨hn1,Nat.le_refl _,by omega,?_⟩)
       rw[hrs,if_pos heq,Nat.sub_self]
       simp;omega
      rcases hi with ⟨a1,a2,a3⟩|⟨a1,a2,a3,a4⟩
      ·refine br_n (by omega) ?_
       rw[a2,←a3];exact go
      ·refine br_y (by omega) ?_
       have w1:IntKind.wrap .i64 ((n:Int)-last)=((n-last:Nat):Int):=by rw[wrap_id (by omega) (by omega)];omega
       have p1:(1:Int)≤2^(n-last):=Int.pow_pos (by omega)
       have hcb:code+1≤(code+1)*2^(n-last):=by
        have:=Int.mul_le_mul_of_nonneg_left p1 (show 0≤code+1 by omega)
        omega
       have w2:IntKind.wrap .i64 (code+1)=code+1:=wrap_id (by omega) (by omega)
       rw[w1,w2,shl64 (by omega) (by omega) (by omega) (by omega),Int.toNat_natCast,a4]
       exact⟨by omega,go⟩
   exact inner l 0 H3 code last (by omega) (by omega) e3 f3 hi
 exact levels 16 1 H2 0 0 rfl (by omega) (by omega) e2 out2 (.inl ⟨rfl,rfl,by simp[base,cnt,rank]⟩)
end Go.Proofs
namespace Go.Proofs
open Go.Sh
def W(ls:List Int):Nat→Int
 |0=>0
 |n+1=>W ls n+(rank ls ls.length (n+1):Int)*2^(16-(n+1))
theorem rank_all_cons(n:Int)(r:List Int)(k:Nat):(rank (n::r) (n::r).length k:Int)=rank r r.length k+if n=(k:Int) then 1 else 0:=by
 unfold rank
 rw[List.take_length,List.take_length,List.countP_cons]
 by_cases h:n=(k:Int)<;>simp[h]
theorem W_cons(n:Int)(r:List Int)(h0:0≤n): ∀m:Nat,W (n::r) m=W r m+if 1≤n∧n≤(m:Int) then 2^(16-n.toNat) else 0
 |0=>by
  simp only[W]
  rw[if_neg (by omega)];rfl
 |m+1=>by
  simp only[W]
  rw[W_cons n r h0 m,rank_all_cons,Int.add_mul]
  by_cases hn:n=((m+1:Nat):Int)
  ·rw[if_neg (by omega),if_pos hn,if_pos (by omega)]
   have:n.toNat=m+1:=by omega
   rw[this];omega
  ·rw[if_neg hn]
   by_cases h:1≤n∧n≤(m:Int)
   ·rw[if_pos h,if_pos (by omega)];omega
   ·rw[if_neg h,if_neg (by omega)];omega
theorem W_all{ls:List Int}(h: ∀n∈ls,0≤n∧n≤16):W ls 16=wtM ls:=by
 induction ls with
 |nil=>simp[W,wtM,rank]
 |cons n r ih=>
  have hn:=h n List.mem_cons_self
  rw[W_cons n r hn.1,ih fun x hx=>h x (List.mem_cons_of_mem _ hx)]
  unfold wtM
  simp only[List.map_cons,List.sum_cons]
  unfold wt
  by_cases hp:n>0
  ·rw[if_pos (by omega),if_pos hp]
   have:(16-n).toNat=16-n.toNat:=by omega
   rw[this];omega
  ·rw[if_neg (by omega),if_neg hp];omega
theorem W_mono(ls:List Int){m n:Nat}(h:m≤n):W ls m≤W ls n:=by
 induction n with
 |zero=>
  have:m=0:=by omega
  subst this;exact Int.le_refl _
 |succ n ih=>
  by_cases hm:m=n+1
  ·subst hm;exact Int.le_refl _
  ·have:=ih (by omega)
   have h2:0≤(rank ls ls.length (n+1):Int)*2^(16-(n+1)):=Int.mul_nonneg (by omega) (Int.pow_nonneg (by omega))
   simp only[W]
   omega
theorem base_W(ls:List Int): ∀n:Nat,n≤16→(base ls n+cnt ls n)*2^(16-n)=W ls n
 |0,_=>by simp[base,cnt,W]
 |n+1,h=>by
  have ih:=base_W ls n (by omega)
  have hc:cnt ls (n+1)=rank ls ls.length (n+1):=by unfold cnt;rw[if_neg (by omega)]
  have e:16-n=16-(n+1)+1:=by omega
  rw[e,Int.pow_succ] at ih
  simp only[W,base]
  rw[hc,Int.add_mul,←ih]
  generalize (2:Int)^(16-(n+1))=z
  rw[Int.mul_comm z 2,←Int.mul_assoc,Int.mul_comm (base ls n+(cnt ls n:Int)) 2]
theorem pow_split{n:Nat}(h:n≤16):(65536:Int)=2^n*2^(16-n):=by
 rw[←Int.pow_add]
 have:n+(16-n)=16:=by omega
 rw[this];decide
theorem base_cnt_le{ls:List Int}(ok:OkC ls){n:Nat}(hn:n≤16):base ls n+cnt ls n≤2^n:=by
 have h1:=base_W ls n hn
 have h2:=W_mono ls hn
 rw[W_all ok.w.rng] at h2
 have h3:=ok.le
 have h4:=pow_split hn
 have hp:(0:Int)<2^(16-n):=Int.pow_pos (by omega)
 rw[←h1] at h2
 have:(base ls n+cnt ls n)*2^(16-n)≤2^n*2^(16-n):=by omega
 exact Int.le_of_mul_le_mul_right this hp
theorem rank_mono(ls:List Int)(n:Nat){i j:Nat}(h:i≤j):rank ls i n≤rank ls j n:=by
 unfold rank
 have:(ls.take i)=(ls.take j).take i:=by rw[List.take_take];congr 1;omega
 rw[this]
 exact List.Sublist.countP_le (List.take_sublist _ _)
theorem rank_lt{ls:List Int}{i j n:Nat}(hi:ls[i]?=some (n:Int))(h:i<j):rank ls i n<rank ls j n:=by
 have h1:=rank_snoc hi n
 rw[if_pos rfl] at h1
 have:=rank_mono ls n (show i+1≤j by omega)
 omega
theorem rank_lt_cnt{ls:List Int}{i n:Nat}(hi:ls[i]?=some (n:Int))(hn:0<n):rank ls i n<cnt ls n:=by
 unfold cnt
 rw[if_neg (by omega)]
 exact rank_lt hi (List.getElem?_eq_some_iff.1 hi).1
theorem codeM_pos{ls:List Int}{i n:Nat}(hi:ls[i]?=some (n:Int))(hn:0<n):codeM ls i=base ls n+rank ls i n:=by
 unfold codeM
 rw[hi]
 simp only
 rw[if_pos (by omega),Int.toNat_natCast]
theorem code_rng{ls:List Int}(ok:OkC ls){i n:Nat}(hi:ls[i]?=some (n:Int))(hn:0<n):0≤codeM ls i∧codeM ls i<2^n:=by
 have hr:=ok.w.rng _ (List.mem_of_getElem? hi)
 have h1:=base_cnt_le ok (n:=n) (by omega)
 have h2:=rank_lt_cnt hi hn
 have h3:=(base_rng ls n).1
 rw[codeM_pos hi hn]
 omega
theorem base_later{ls:List Int}{n:Nat}(hn:0<n): ∀d:Nat,0<d→(base ls n+cnt ls n)*2^d≤base ls (n+d)
 |0,h=>by omega
 |1,_=>by
  show _≤2*(base ls n+cnt ls n)
  simp;omega
 |d+2,_=>by
  have ih:=base_later (ls:=ls) hn (d+1) (by omega)
  have e:n+(d+2)=n+(d+1)+1:=by omega
  rw[e,Int.pow_succ,←Int.mul_assoc]
  show _≤2*(base ls (n+(d+1))+cnt ls (n+(d+1)))
  omega
theorem no_prefix{ls:List Int}(ok:OkC ls){i j n m:Nat}(hij:i≠j)(hi:ls[i]?=some (n:Int))(hj:ls[j]?=some (m:Int))(hn:0<n)(hnm:n≤m):codeM ls j/2^(m-n)≠codeM ls i:=by
 intro he
 have ci:=codeM_pos hi hn
 have cj:=codeM_pos hj (by omega)
 have ri:=rank_lt_cnt hi hn
 by_cases h:m=n
 ·subst h
  rw[Nat.sub_self,Int.pow_zero,Int.ediv_one,ci,cj] at he
  rcases Nat.lt_or_ge i j with h|h
  ·have:=rank_lt hi h;omega
  ·have:=rank_lt hj (show j<i by omega);omega
 ·have hb:=base_later (ls:=ls) hn (m-n) (by omega)
  have e:n+(m-n)=m:=by omega
  rw[e] at hb
  have hp:(0:Int)<2^(m-n):=Int.pow_pos (by omega)
  have h1:base ls n+cnt ls n≤codeM ls j/2^(m-n):=by
   refine(Int.le_ediv_iff_mul_le hp).2 ?_
   rw[cj];omega
  rw[he,ci] at h1
  omega
theorem codesM_get{ls:List Int}{i:Nat}(hi:i<ls.length):(codesM ls)[i]?=some (codeM ls i):=by simp[codesM,hi]
end Go.Proofs
