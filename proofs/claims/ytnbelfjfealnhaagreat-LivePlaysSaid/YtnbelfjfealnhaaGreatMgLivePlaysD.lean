/-
  OWN WORK. Several texts in one: GFunG, GFunH, GFun, TrB, TrC, TrD, TrE, TrF, TrG, TrH, TrI, TrJ, TrK, TrL.
-/
import Derived.Test.YtnbelfjfealnhaaGreatMgLivePlaysB
import Derived.Test.YtnbelfjfealnhaaGreatMgLivePlaysC
import Derived.Lib.Overlaps

set_option linter.unusedVariables false
set_option maxRecDepth 100000
set_option linter.unusedSimpArgs false
namespace Go.Proofs
open Go.Sh Go.Sh.Plan
open Go.IntKind (wrap)
open Int (toNat)
def Tryz.S115(c1:AV)(H:Heap)(R:Kv):Prop:=
 alc H (.cells c1 106) fun b2 H3=>0≤(0:Int)∧(0:Int)<((4:Nat):Int)∧ ∃v4,cell H3 (.add ⟨b2,0,none⟩ (toNat (0:Int)*1))=some (.int .i64 v4)∧0≤(24:Int)∧0≤(1:Int)∧(1:Int)<((4:Nat):Int)∧ ∃v5,cell H3 (.add ⟨b2,0,none⟩ (toNat (1:Int)*1))=some (.int .i64 v5)∧0≤(16:Int)∧0≤(2:Int)∧(2:Int)<((4:Nat):Int)∧ ∃v6,cell H3 (.add ⟨b2,0,none⟩ (toNat (2:Int)*1))=some (.int .i64 v6)∧0≤(8:Int)∧0≤(3:Int)∧(3:Int)<((4:Nat):Int)∧ ∃v7,cell H3 (.add ⟨b2,0,none⟩ (toNat (3:Int)*1))=some (.int .i64 v7)∧R (.int .i64 (orI .i64 (orI .i64 (orI .i64 (shlI .i64 v4 24) (shlI .i64 v5 16)) (shlI .i64 v6 8)) v7)) H3
def Tryz.p115:Plan:=(tl (tl leaf))
theorem Tryz.s115{c1:AV}{H R}(h:Tryz.S115 c1 H R):Tryz.C 115 #[.agg c1] H R:=vcs Tryz.tab_ok Tryz.mixed Tryz.func115 Tryz.cal115 Tryz.p115 h (by kernel_rfl)
def Tryz.S116(mo1:Int)(s2 d3:AV)(H:Heap)(R:Kv):Prop:=
 alc H (.cells s2 106) fun b4 H5=>alc H5 (.cells d3 106) fun b6 H7=>alc H7 (.cells #[.int .i64 0,.int .i64 0,.int .i64 0,.int .i64 0] 106) fun b8 H9=>0≤(3:Int)∧(3:Int)<((4:Nat):Int)∧ ∃v10,cell H9 (.add ⟨b4,0,none⟩ (toNat (3:Int)*1))=some (.int .i64 v10)∧0≤(3:Int)∧(3:Int)<((4:Nat):Int)∧ ∃v11,cell H9 (.add ⟨b6,0,none⟩ (toNat (3:Int)*1))=some (.int .i64 v11)∧Tryz.C 129 #[.int .i64 v10,.int .i64 v11] H9 fun r12 H13=> ∃bo14,r12= .int .i64 bo14∧0≤(3:Int)∧(3:Int)<((4:Nat):Int)∧ ∃v15,cell H13 (.add ⟨b4,0,none⟩ (toNat (3:Int)*1))=some (.int .i64 v15)∧0≤(3:Int)∧(3:Int)<((4:Nat):Int)∧ ∃v16,cell H13 (.add ⟨b6,0,none⟩ (toNat (3:Int)*1))=some (.int .i64 v16)∧alc H13 (.cells #[.int .i64 0,.int .i64 0,.int .i64 0,.int .i64 0] 106) fun b17 H18=>#[Value.int .i64 0,Value.int .i64 0,Value.int .i64 0,Value.int .i64 (wrap .i64 ((wrap .i64 (v15+v16))-bo14))].size=4∧stAt H18 ⟨b17,0,none⟩ (Array.toList #[.int .i64 0,.int .i64 0,.int .i64 0,.int .i64 (wrap .i64 ((wrap .i64 (v15+v16))-bo14))]) fun H19=> ∀X20:Kl,(∀(i21:Int) H22,(br (decide (i21<3)) (0≤i21∧i21<((4:Nat):Int)∧ ∃v23,cell H22 (.add ⟨b6,0,none⟩ (toNat i21*1))=some (.int .i64 v23)∧0≤(3:Int)∧(3:Int)<((4:Nat):Int)∧ ∃v24,cell H22 (.add ⟨b6,0,none⟩ (toNat (3:Int)*1))=some (.int .i64 v24)∧0≤i21∧i21<((4:Nat):Int)∧ ∃v25,cell H22 (.add ⟨b4,0,none⟩ (toNat i21*1))=some (.int .i64 v25)∧0≤(3:Int)∧(3:Int)<((4:Nat):Int)∧ ∃v26,cell H22 (.add ⟨b4,0,none⟩ (toNat (3:Int)*1))=some (.int .i64 v26)∧Tryz.C 133 #[.int .i64 v23,.int .i64 v24] H22 fun r27 H28=> ∃r29,r27= .int .i64 r29∧(Ext H22 H28∨(∃v56,cell H28 (.add ⟨b4,0,none⟩ (toNat (3:Int)*1))=some (.int .i64 v56)∧Value.int .i64 v56= .int .i64 v26)∧(∃v57,cell H28 (.add ⟨b4,0,none⟩ (toNat i21*1))=some (.int .i64 v57)∧Value.int .i64 v57= .int .i64 v25))∧Tryz.C 133 #[.int .i64 v25,.int .i64 v26] H28 fun r30 H31=> ∃r32,r30= .int .i64 r32∧Tryz.C 132 #[.int .i64 mo1,.int .i64 r29,.int .i64 r32] H31 fun r33 H34=> ∃b35,r33= .int .i64 b35∧0≤(3:Int)∧(3:Int)<((4:Nat):Int)∧ ∃v36,cell H34 (.add ⟨b17,0,none⟩ (toNat (3:Int)*1))=some (.int .i64 v36)∧0≤i21∧i21<((4:Nat):Int)∧ ∃v37,cell H34 (.add ⟨b4,0,none⟩ (toNat i21*1))=some (.int .i64 v37)∧0≤(3:Int)∧(3:Int)<((4:Nat):Int)∧ ∃v38,cell H34 (.add ⟨b6,0,none⟩ (toNat (3:Int)*1))=some (.int .i64 v38)∧0≤i21∧i21<((4:Nat):Int)∧ ∃v39,cell H34 (.add ⟨b6,0,none⟩ (toNat i21*1))=some (.int .i64 v39)∧0≤(3:Int)∧(3:Int)<((4:Nat):Int)∧ ∃v40,cell H34 (.add ⟨b4,0,none⟩ (toNat (3:Int)*1))=some (.int .i64 v40)∧Tryz.C 129 #[.int .i64 v37,.int .i64 (wrap .i64 ((255:Int)-v38))] H34 fun r41 H42=> ∃r43,r41= .int .i64 r43∧(Ext H34 H42∨(∃v53,cell H42 (.add ⟨b4,0,none⟩ (toNat (3:Int)*1))=some (.int .i64 v53)∧Value.int .i64 v53= .int .i64 v40)∧(∃v54,cell H42 (.add ⟨b6,0,none⟩ (toNat i21*1))=some (.int .i64 v54)∧Value.int .i64 v54= .int .i64 v39)∧(∃v55,cell H42 (.add ⟨b17,0,none⟩ (toNat (3:Int)*1))=some (.int .i64 v55)∧Value.int .i64 v55= .int .i64 v36))∧Tryz.C 129 #[.int .i64 v39,.int .i64 (wrap .i64 ((255:Int)-v40))] H42 fun r44 H45=> ∃r46,r44= .int .i64 r46∧(Ext H42 H45∨(∃v52,cell H45 (.add ⟨b17,0,none⟩ (toNat (3:Int)*1))=some (.int .i64 v52)∧Value.int .i64 v52= .int .i64 v36))∧Tryz.C 129 #[.int .i64 bo14,.int .i64 b35] H45 fun r47 H48=> ∃r49,r47= .int .i64 r49∧(Ext H45 H48∨(∃v51,cell H48 (.add ⟨b17,0,none⟩ (toNat (3:Int)*1))=some (.int .i64 v51)∧Value.int .i64 v51= .int .i64 v36))∧0≤i21∧i21<((4:Nat):Int)∧stAt H48 (.add ⟨b17,0,none⟩ (toNat i21*1)) [.int .i64 (min v36 (wrap .i64 ((wrap .i64 (r43+r46))+r49)))] fun H50=>X20 [.int .i64 (wrap .i64 (i21+1))] H50) (∃v58,v58.size=4∧rowIn H22 ⟨b17,0,none⟩ v58∧v58.size=4∧stAt H22 ⟨b8,0,none⟩ v58.toList fun H59=> ∃re60,re60.size=4∧rowIn H59 ⟨b8,0,none⟩ re60∧R (.agg re60) H59))→X20 [.int .i64 i21] H22)→X20 [.int .i64 0] H19
def Tryz.p116:Plan:=(tl (tl (tl (two (tl (one (loop [(24,3)] [0,4,5,6,7,8] (tl (two (tl leaf) (two (one (tl (tl leaf))) leaf)))))) (tl leaf)))))
theorem Tryz.s116{mo1:Int}{s2 d3:AV}{H R}(h:Tryz.S116 mo1 s2 d3 H R):Tryz.C 116 #[.int .i64 mo1,.agg s2,.agg d3] H R:=vcs Tryz.tab_ok Tryz.mixed Tryz.func116 Tryz.cal116 Tryz.p116 h (by kernel_rfl)
def Tryz.S117(p1:AV)(a2:Int)(H:Heap)(R:Kv):Prop:=
 alc H (.cells p1 106) fun b3 H4=>alc H4 (.cells #[.int .i64 0,.int .i64 0,.int .i64 0,.int .i64 0] 106) fun b5 H6=> ∃v7,v7.size=4∧rowIn H6 ⟨b3,0,none⟩ v7∧ ∀X8:Kl,(∀(i9:Int) H10,(br (decide (i9<4)) (0≤i9∧i9<((4:Nat):Int)∧ ∃c11,v7[(toNat i9*1)]?=some (.int .i64 c11)∧Tryz.C 129 #[.int .i64 c11,.int .i64 a2] H10 fun r12 H13=> ∃r14,r12= .int .i64 r14∧0≤i9∧i9<((4:Nat):Int)∧stAt H13 (.add ⟨b3,0,none⟩ (toNat i9*1)) [.int .i64 r14] fun H15=>X8 [.int .i64 (wrap .i64 (i9+1))] H15) (∃v16,v16.size=4∧rowIn H10 ⟨b3,0,none⟩ v16∧v16.size=4∧stAt H10 ⟨b5,0,none⟩ v16.toList fun H17=> ∃re18,re18.size=4∧rowIn H17 ⟨b5,0,none⟩ re18∧R (.agg re18) H17))→X8 [.int .i64 i9] H10)→X8 [.int .i64 0] H6
def Tryz.p117:Plan:=(tl (two (tl (one (loop [(8,3)] [1,2,4,7] (tl (two (tl leaf) (two (one (tl leaf)) leaf)))))) (tl leaf)))
theorem Tryz.s117{p1:AV}{a2:Int}{H R}(h:Tryz.S117 p1 a2 H R):Tryz.C 117 #[.agg p1,.int .i64 a2] H R:=vcs Tryz.tab_ok Tryz.mixed Tryz.func117 Tryz.cal117 Tryz.p117 h (by kernel_rfl)
def Tryz.S118(a1 b2:Int)(H:Heap)(R:Kv):Prop:=
 br (decide (a1>b2))
 (R (.int .i64 a1) H)
 (R (.int .i64 b2) H)
def Tryz.p118:Plan:=(tl (tg (tl leaf)))
theorem Tryz.s118{a1 b2:Int}{H R}(h:Tryz.S118 a1 b2 H R):Tryz.C 118 #[.int .i64 a1,.int .i64 b2] H R:=vcs Tryz.tab_ok Tryz.mixed Tryz.func118 Tryz.cal118 Tryz.p118 h (by kernel_rfl)
def Tryz.S119(p1:AV)(H:Heap)(R:Kv):Prop:=
 alc H (.cells p1 87) fun b2 H3=> ∃X4,cell H3 (.add ⟨b2,0,none⟩ 0)=some (.int .i64 X4)∧br (decide (X4≥(-1048576:Int))) (∃X5,cell H3 (.add ⟨b2,0,none⟩ 0)=some (.int .i64 X5)∧br (decide (X5≤1048576)) (∃Y6,cell H3 (.add ⟨b2,0,none⟩ 1)=some (.int .i64 Y6)∧br (decide (Y6≥(-1048576:Int))) (∃Y7,cell H3 (.add ⟨b2,0,none⟩ 1)=some (.int .i64 Y7)∧R (.bool (decide (Y7≤1048576))) H3) (R (.bool false) H3)) (R (.bool false) H3)) (R (.bool false) H3)
def Tryz.p119:Plan:=(tl (tl leaf))
theorem Tryz.s119{p1:AV}{H R}(h:Tryz.S119 p1 H R):Tryz.C 119 #[.agg p1] H R:=vcs Tryz.tab_ok Tryz.mixed Tryz.func119 Tryz.cal119 Tryz.p119 h (by kernel_rfl)
def Tryz.S120(a1 b2:AV)(x3 y4:Int)(H:Heap)(R:Kv):Prop:=
 alc H (.cells a1 87) fun b5 H6=>alc H6 (.cells b2 87) fun b7 H8=> ∃Y9,cell H8 (.add ⟨b5,0,none⟩ 1)=some (.int .i64 Y9)∧ ∃Y10,cell H8 (.add ⟨b7,0,none⟩ 1)=some (.int .i64 Y10)∧br ((decide (((wrap .i64 ((2:Int)*Y9)):Int)>(wrap .i64 ((wrap .i64 ((2:Int)*y4))+1))))==(decide (((wrap .i64 ((2:Int)*Y10)):Int)>(wrap .i64 ((wrap .i64 ((2:Int)*y4))+1)))))
 (R (.bool false) H8)
 (∃Y11,cell H8 (.add ⟨b7,0,none⟩ 1)=some (.int .i64 Y11)∧ ∃Y12,cell H8 (.add ⟨b5,0,none⟩ 1)=some (.int .i64 Y12)∧ ∃X13,cell H8 (.add ⟨b7,0,none⟩ 0)=some (.int .i64 X13)∧ ∃X14,cell H8 (.add ⟨b5,0,none⟩ 0)=some (.int .i64 X14)∧ ∃Y15,cell H8 (.add ⟨b5,0,none⟩ 1)=some (.int .i64 Y15)∧ ∃X16,cell H8 (.add ⟨b5,0,none⟩ 0)=some (.int .i64 X16)∧br (decide (((wrap .i64 ((wrap .i64 ((2:Int)*Y11))-(wrap .i64 ((2:Int)*Y12)))):Int)<0)) (R (.bool (decide (((wrap .i64 ((wrap .i64 ((wrap .i64 ((wrap .i64 ((2:Int)*X13))-(wrap .i64 ((2:Int)*X14))))*(wrap .i64 ((wrap .i64 ((wrap .i64 ((2:Int)*y4))+1))-(wrap .i64 ((2:Int)*Y15))))))+(wrap .i64 ((wrap .i64 ((wrap .i64 ((2:Int)*X16))-(wrap .i64 ((wrap .i64 ((2:Int)*x3))+1))))*(wrap .i64 ((wrap .i64 ((2:Int)*Y11))-(wrap .i64 ((2:Int)*Y12)))))))):Int)<0))) H8) (R (.bool (decide (((wrap .i64 ((wrap .i64 ((wrap .i64 ((wrap .i64 ((2:Int)*X13))-(wrap .i64 ((2:Int)*X14))))*(wrap .i64 ((wrap .i64 ((wrap .i64 ((2:Int)*y4))+1))-(wrap .i64 ((2:Int)*Y15))))))+(wrap .i64 ((wrap .i64 ((wrap .i64 ((2:Int)*X16))-(wrap .i64 ((wrap .i64 ((2:Int)*x3))+1))))*(wrap .i64 ((wrap .i64 ((2:Int)*Y11))-(wrap .i64 ((2:Int)*Y12)))))))):Int)>0))) H8))
def Tryz.p120:Plan:=(tl (tl (tl (tg (tl (tl (tg (tl leaf))))))))
theorem Tryz.s120{a1 b2:AV}{x3 y4:Int}{H R}(h:Tryz.S120 a1 b2 x3 y4 H R):Tryz.C 120 #[.agg a1,.agg b2,.int .i64 x3,.int .i64 y4] H R:=vcs Tryz.tab_ok Tryz.mixed Tryz.func120 Tryz.cal120 Tryz.p120 h (by kernel_rfl)
def Tryz.S123(p1:AV)(H:Heap)(R:Kv):Prop:=
 alc H (.cells p1 86) fun b2 H3=> ∃X4,cell H3 (.add ⟨b2,0,none⟩ 0)=some (.int .i64 X4)∧br (decide (X4≥(-1048576:Int))) (∃X5,cell H3 (.add ⟨b2,0,none⟩ 0)=some (.int .i64 X5)∧br (decide (X5≤1048576)) (∃Y6,cell H3 (.add ⟨b2,0,none⟩ 1)=some (.int .i64 Y6)∧br (decide (Y6≥(-1048576:Int))) (∃Y7,cell H3 (.add ⟨b2,0,none⟩ 1)=some (.int .i64 Y7)∧R (.bool (decide (Y7≤1048576))) H3) (R (.bool false) H3)) (R (.bool false) H3)) (R (.bool false) H3)
def Tryz.p123:Plan:=(tl (tl leaf))
theorem Tryz.s123{p1:AV}{H R}(h:Tryz.S123 p1 H R):Tryz.C 123 #[.agg p1] H R:=vcs Tryz.tab_ok Tryz.mixed Tryz.func123 Tryz.cal123 Tryz.p123 h (by kernel_rfl)
def Tryz.S124(p1:AV)(H:Heap)(R:Kv):Prop:=
 alc H (.cells p1 86) fun b2 H3=> ∃X4,cell H3 (.add ⟨b2,0,none⟩ 0)=some (.int .i64 X4)∧ ∃Y5,cell H3 (.add ⟨b2,0,none⟩ 1)=some (.int .i64 Y5)∧(FloatKind.f64=FloatKind.f64∧R (.complex .f64 (floatOfInt .f64 X4) (floatOfInt .f64 Y5)) H3)
def Tryz.p124:Plan:=(tl (tl leaf))
theorem Tryz.s124{p1:AV}{H R}(h:Tryz.S124 p1 H R):Tryz.C 124 #[.agg p1] H R:=vcs Tryz.tab_ok Tryz.mixed Tryz.func124 Tryz.cal124 Tryz.p124 h (by kernel_rfl)
def Tryz.S125(a1r a1i b2r b2i:Nat)(H:Heap)(R:Kv):Prop:=
 (FloatKind.f64=FloatKind.f64∧(FloatKind.f64=FloatKind.f64∧FloatKind.f64=FloatKind.f64∧ ∃re3 im4:Nat,cMulBits a1r (Op.negFloat .f64 a1i) b2r b2i=some (re3,im4)∧R (.float .f64 im4) H))
def Tryz.p125:Plan:=(tl (tl leaf))
theorem Tryz.s125{a1r a1i b2r b2i:Nat}{H R}(h:Tryz.S125 a1r a1i b2r b2i H R):Tryz.C 125 #[.complex .f64 a1r a1i,.complex .f64 b2r b2i] H R:=vcs Tryz.tab_ok Tryz.mixed Tryz.func125 Tryz.cal125 Tryz.p125 h (by kernel_rfl)
def Tryz.S126(n1 m2:Int)(H:Heap)(R:Kv):Prop:=
 m2≠0∧ ∀J3:Kl,(∀(q4:Int) H5,(R (.int .i64 q4) H5)→J3 [.int .i64 q4] H5)→
 m2≠0∧br (((Int.tmod n1 m2):Int) != 0) (br (!((decide (n1<0))==(decide (m2<0)))) (J3 [.int .i64 (wrap .i64 ((wrap .i64 (Int.tdiv n1 m2))-1))] H) (J3 [.int .i64 (wrap .i64 (Int.tdiv n1 m2))] H)) (J3 [.int .i64 (wrap .i64 (Int.tdiv n1 m2))] H)
def Tryz.p126:Plan:=(tl (tl (two (join [(5,3)] [] (tl (tl leaf))) (tl leaf))))
theorem Tryz.s126{n1 m2:Int}{H R}(h:Tryz.S126 n1 m2 H R):Tryz.C 126 #[.int .i64 n1,.int .i64 m2] H R:=vcs Tryz.tab_ok Tryz.mixed Tryz.func126 Tryz.cal126 Tryz.p126 h (by kernel_rfl)
def Tryz.S127(i1 v2 v3 at_4:Int)(ad5 ad6 ad7:Addr)(H:Heap)(R:Kv):Prop:=
 ∃v8,v8.size=19∧rowIn H ad5 v8∧Tryz.C 114 #[.agg v8,.int .i64 at_4] H fun r9 H10=> ∃f11,r9= .int .i64 f11∧ ∃v12p v12l v12c,cell H10 ad6=some (.slice v12p v12l v12c)∧ ∃a13,v12p=some a13∧0≤i1∧i1<(v12l:Int)∧ ∃v14,cell H10 (.add a13 (toNat i1*1))=some (.int .i64 v14)∧Tryz.C 102 #[.int .i64 v14] H10 fun r15 H16=> ∃r17,r15= .agg r17∧alc H16 (.cells #[.int .i64 0,.int .i64 0,.int .i64 0,.int .i64 0] 106) fun b18 H19=>r17.size=4∧stAt H19 ⟨b18,0,none⟩ r17.toList fun H20=> ∃v21p v21l v21c,cell H20 ad7=some (.slice v21p v21l v21c)∧ ∃v22,v22.size=4∧rowIn H20 ⟨b18,0,none⟩ v22∧Tryz.C 128 #[.slice v21p v21l v21c,.agg v22] H20 fun r23 H24=> ∃r25,r23= .agg r25∧alc H24 (.cells #[.int .i64 0,.int .i64 0,.int .i64 0,.int .i64 0] 106) fun b26 H27=>r25.size=4∧stAt H27 ⟨b26,0,none⟩ r25.toList fun H28=> ∀X29:Kl,(∀(c30:Int) H31,(br (decide (c30<3)) (0≤(3:Int)∧(3:Int)<((4:Nat):Int)∧ ∃v32,cell H31 (.add ⟨b18,0,none⟩ (toNat (3:Int)*1))=some (.int .i64 v32)∧0≤c30∧c30<((4:Nat):Int)∧ ∃v33,cell H31 (.add ⟨b26,0,none⟩ (toNat c30*1))=some (.int .i64 v33)∧0≤c30∧c30<((4:Nat):Int)∧ ∃v34,cell H31 (.add ⟨b18,0,none⟩ (toNat c30*1))=some (.int .i64 v34)∧Tryz.C 129 #[.int .i64 v33,.int .i64 f11] H31 fun r35 H36=> ∃r37,r35= .int .i64 r37∧(Ext H31 H36∨(∃v43,cell H36 (.add ⟨b18,0,none⟩ (toNat c30*1))=some (.int .i64 v43)∧Value.int .i64 v43= .int .i64 v34)∧(∃v44,cell H36 (.add ⟨b18,0,none⟩ (toNat (3:Int)*1))=some (.int .i64 v44)∧Value.int .i64 v44= .int .i64 v32))∧Tryz.C 129 #[.int .i64 v34,.int .i64 (wrap .i64 ((255:Int)-f11))] H36 fun r38 H39=> ∃r40,r38= .int .i64 r40∧(Ext H36 H39∨(∃v42,cell H39 (.add ⟨b18,0,none⟩ (toNat (3:Int)*1))=some (.int .i64 v42)∧Value.int .i64 v42= .int .i64 v32))∧0≤c30∧c30<((4:Nat):Int)∧stAt H39 (.add ⟨b18,0,none⟩ (toNat c30*1)) [.int .i64 (min v32 (wrap .i64 (r37+r40)))] fun H41=>X29 [.int .i64 (wrap .i64 (c30+1))] H41) (∃v45p v45l v45c,cell H31 ad6=some (.slice v45p v45l v45c)∧ ∃v46,v46.size=4∧rowIn H31 ⟨b18,0,none⟩ v46∧Tryz.C 115 #[.agg v46] H31 fun r47 H48=> ∃r49,r47= .int .i64 r49∧(Ext H31 H48∨(∃v52p v52l v52c,cell H48 ad6=some (.slice v52p v52l v52c)∧Value.slice v52p v52l v52c= .slice v45p v45l v45c))∧ ∃a50,v45p=some a50∧0≤i1∧i1<(v45l:Int)∧stAt H48 (.add a50 (toNat i1*1)) [.int .i64 r49] fun H51=>R (.tuple #[]) H51))→X29 [.int .i64 c30] H31)→X29 [.int .i64 0] H28
def Tryz.p127:Plan:=(tl (tl (tl (two (tl (one (loop [(26,3)] [0,5,11,12,13] (tl (two (tl leaf) (two (one (tl leaf)) leaf)))))) leaf))))
theorem Tryz.s127{i1 v2 v3 at_4:Int}{ad5 ad6 ad7:Addr}{H R}(h:Tryz.S127 i1 v2 v3 at_4 ad5 ad6 ad7 H R):Tryz.C 127 #[.int .i64 i1,.int .i64 v2,.int .i64 v3,.int .i64 at_4,.pointer (some ad5),.pointer (some ad6),.pointer (some ad7)] H R:=vcs Tryz.tab_ok Tryz.mixed Tryz.func127 Tryz.cal127 Tryz.p127 h (by kernel_rfl)
def Tryz.S128(ta1p:OA)(ta1l ta1c:Nat)(p2:AV)(H:Heap)(R:Kv):Prop:=
 alc H (.cells p2 106) fun b3 H4=>alc H4 (.cells #[.int .i64 0,.int .i64 0,.int .i64 0,.int .i64 0] 106) fun b5 H6=> ∀X7:Kl,(∀(i8:Int) H9,(br (decide (i8<3)) (0≤i8∧i8<((4:Nat):Int)∧ ∃v10,cell H9 (.add ⟨b3,0,none⟩ (toNat i8*1))=some (.int .i64 v10)∧0≤(3:Int)∧(3:Int)<((4:Nat):Int)∧ ∃v11,cell H9 (.add ⟨b3,0,none⟩ (toNat (3:Int)*1))=some (.int .i64 v11)∧0≤(3:Int)∧(3:Int)<((4:Nat):Int)∧ ∃v12,cell H9 (.add ⟨b3,0,none⟩ (toNat (3:Int)*1))=some (.int .i64 v12)∧Tryz.C 133 #[.int .i64 v10,.int .i64 v11] H9 fun r13 H14=> ∃r15,r13= .int .i64 r15∧(Ext H9 H14∨(∃v22,cell H14 (.add ⟨b3,0,none⟩ (toNat (3:Int)*1))=some (.int .i64 v22)∧Value.int .i64 v22= .int .i64 v12))∧ ∃a16,ta1p=some a16∧0≤r15∧r15<(ta1l:Int)∧ ∃v17,cell H14 (.add a16 (toNat r15*1))=some (.int .i64 v17)∧Tryz.C 129 #[.int .i64 v17,.int .i64 v12] H14 fun r18 H19=> ∃r20,r18= .int .i64 r20∧0≤i8∧i8<((4:Nat):Int)∧stAt H19 (.add ⟨b3,0,none⟩ (toNat i8*1)) [.int .i64 r20] fun H21=>X7 [.int .i64 (wrap .i64 (i8+1))] H21) (∃v23,v23.size=4∧rowIn H9 ⟨b3,0,none⟩ v23∧v23.size=4∧stAt H9 ⟨b5,0,none⟩ v23.toList fun H24=> ∃re25,re25.size=4∧rowIn H24 ⟨b5,0,none⟩ re25∧R (.agg re25) H24))→X7 [.int .i64 i8] H9)→X7 [.int .i64 0] H6
def Tryz.p128:Plan:=(tl (two (tl (one (loop [(6,3)] [0,3,4] (tl (two (tl leaf) (two (one (tl leaf)) leaf)))))) (tl leaf)))
theorem Tryz.s128{ta1p:OA}{ta1l ta1c:Nat}{p2:AV}{H R}(h:Tryz.S128 ta1p ta1l ta1c p2 H R):Tryz.C 128 #[.slice ta1p ta1l ta1c,.agg p2] H R:=vcs Tryz.tab_ok Tryz.mixed Tryz.func128 Tryz.cal128 Tryz.p128 h (by kernel_rfl)
def Tryz.S129(a1 b2:Int)(H:Heap)(R:Kv):Prop:=
 (255:Int)≠0∧R (.int .i64 (wrap .i64 (Int.tdiv (wrap .i64 ((wrap .i64 (a1*b2))+127)) 255))) H
def Tryz.p129:Plan:=(tl (tl leaf))
theorem Tryz.s129{a1 b2:Int}{H R}(h:Tryz.S129 a1 b2 H R):Tryz.C 129 #[.int .i64 a1,.int .i64 b2] H R:=vcs Tryz.tab_ok Tryz.mixed Tryz.func129 Tryz.cal129 Tryz.p129 h (by kernel_rfl)
def Tryz.S130(i1 x2 y3 v4:Int)(ad5 ad6 ad7 ad8:Addr)(H:Heap)(R:Kv):Prop:=
 ∃v9p v9l v9c,cell H ad8=some (.slice v9p v9l v9c)∧ ∃v10,v10.size=3∧rowIn H ad5 v10∧ ∃v11,v11.size=6∧rowIn H ad6 v11∧ ∃Sm12,cell H (.add ad7 15)=some (.bool Sm12)∧Tryz.C 131 #[.agg v10,.agg v11,.int .i64 x2,.int .i64 y3,.bool Sm12] H fun r13 H14=> ∃r15,r13= .int .i64 r15∧(Ext H H14∨(∃v18p v18l v18c,cell H14 ad8=some (.slice v18p v18l v18c)∧Value.slice v18p v18l v18c= .slice v9p v9l v9c))∧ ∃a16,v9p=some a16∧0≤i1∧i1<(v9l:Int)∧stAt H14 (.add a16 (toNat i1*1)) [.int .i64 r15] fun H17=>R (.tuple #[]) H17
def Tryz.p130:Plan:=leaf
theorem Tryz.s130{i1 x2 y3 v4:Int}{ad5 ad6 ad7 ad8:Addr}{H R}(h:Tryz.S130 i1 x2 y3 v4 ad5 ad6 ad7 ad8 H R):Tryz.C 130 #[.int .i64 i1,.int .i64 x2,.int .i64 y3,.int .i64 v4,.pointer (some ad5),.pointer (some ad6),.pointer (some ad7),.pointer (some ad8)] H R:=vcs Tryz.tab_ok Tryz.mixed Tryz.func130 Tryz.cal130 Tryz.p130 h (by kernel_rfl)
def Tryz.S131(p1 ba2:AV)(x3 y4:Int)(sm5:Bool)(H:Heap)(R:Kv):Prop:=
 alc H (.cells p1 168) fun b6 H7=>alc H7 (.cells ba2 42) fun b8 H9=>0≤(0:Int)∧(0:Int)<((6:Nat):Int)∧ ∃v10,cell H9 (.add ⟨b8,0,none⟩ (toNat (0:Int)*1))=some (.int .i64 v10)∧0≤(1:Int)∧(1:Int)<((6:Nat):Int)∧ ∃v11,cell H9 (.add ⟨b8,0,none⟩ (toNat (1:Int)*1))=some (.int .i64 v11)∧0≤(1:Int)∧0≤(4:Int)∧(4:Int)<((6:Nat):Int)∧ ∃v12,cell H9 (.add ⟨b8,0,none⟩ (toNat (4:Int)*1))=some (.int .i64 v12)∧0≤(2:Int)∧(2:Int)<((6:Nat):Int)∧ ∃v13,cell H9 (.add ⟨b8,0,none⟩ (toNat (2:Int)*1))=some (.int .i64 v13)∧0≤(3:Int)∧(3:Int)<((6:Nat):Int)∧ ∃v14,cell H9 (.add ⟨b8,0,none⟩ (toNat (3:Int)*1))=some (.int .i64 v14)∧0≤(1:Int)∧0≤(5:Int)∧(5:Int)<((6:Nat):Int)∧ ∃v15,cell H9 (.add ⟨b8,0,none⟩ (toNat (5:Int)*1))=some (.int .i64 v15)∧br sm5
 (∃v16,v16.size=3∧rowIn H9 ⟨b6,0,none⟩ v16∧Tryz.C 135 #[.agg v16,.int .i64 (wrap .i64 ((shrI .i64 (wrap .i64 ((wrap .i64 (v10*(wrap .i64 ((wrap .i64 ((2:Int)*x3))+1))))+(wrap .i64 (v11*(wrap .i64 ((wrap .i64 ((2:Int)*y4))+1)))))) 1)+v12)),.int .i64 (wrap .i64 ((shrI .i64 (wrap .i64 ((wrap .i64 (v13*(wrap .i64 ((wrap .i64 ((2:Int)*x3))+1))))+(wrap .i64 (v14*(wrap .i64 ((wrap .i64 ((2:Int)*y4))+1)))))) 1)+v15))] H9 fun r17 H18=> ∃r19,r17= .int .i64 r19∧R (.int .i64 r19) H18)
 (∃v20,v20.size=3∧rowIn H9 ⟨b6,0,none⟩ v20∧0≤(16:Int)∧0≤(16:Int)∧Tryz.C 136 #[.agg v20,.int .i64 (shrI .i64 (wrap .i64 ((shrI .i64 (wrap .i64 ((wrap .i64 (v10*(wrap .i64 ((wrap .i64 ((2:Int)*x3))+1))))+(wrap .i64 (v11*(wrap .i64 ((wrap .i64 ((2:Int)*y4))+1)))))) 1)+v12)) 16),.int .i64 (shrI .i64 (wrap .i64 ((shrI .i64 (wrap .i64 ((wrap .i64 (v13*(wrap .i64 ((wrap .i64 ((2:Int)*x3))+1))))+(wrap .i64 (v14*(wrap .i64 ((wrap .i64 ((2:Int)*y4))+1)))))) 1)+v15)) 16)] H9 fun r21 H22=> ∃r23,r21= .int .i64 r23∧R (.int .i64 r23) H22)
def Tryz.p131:Plan:=(tl (tl (tl (tl (tg (tl leaf))))))
theorem Tryz.s131{p1 ba2:AV}{x3 y4:Int}{sm5:Bool}{H R}(h:Tryz.S131 p1 ba2 x3 y4 sm5 H R):Tryz.C 131 #[.agg p1,.agg ba2,.int .i64 x3,.int .i64 y4,.bool sm5] H R:=vcs Tryz.tab_ok Tryz.mixed Tryz.func131 Tryz.cal131 Tryz.p131 h (by kernel_rfl)
def Tryz.S132(mo1 x2 y3:Int)(H:Heap)(R:Kv):Prop:=
 br (mo1==1)
 (Tryz.C 129 #[.int .i64 x2,.int .i64 y3] H fun r4 H5=> ∃r6,r4= .int .i64 r6∧R (.int .i64 r6) H5)
 (br (mo1==2) (Tryz.C 137 #[.int .i64 x2,.int .i64 y3] H fun r7 H8=> ∃r9,r7= .int .i64 r9∧R (.int .i64 r9) H8) (br (mo1==3) (Tryz.C 138 #[.int .i64 y3,.int .i64 x2] H fun r10 H11=> ∃r12,r10= .int .i64 r12∧R (.int .i64 r12) H11) (br (mo1==4) (R (.int .i64 (min x2 y3)) H) (br (mo1==5) (R (.int .i64 (max x2 y3)) H) (br (mo1==6) (br (x2==0) (R (.int .i64 0) H) (br (y3==255) (R (.int .i64 255) H) ((wrap .i64 ((255:Int)-y3))≠0∧R (.int .i64 (min 255 (wrap .i64 (Int.tdiv (wrap .i64 ((255:Int)*x2)) (wrap .i64 ((255:Int)-y3)))))) H))) (br (mo1==7) (br (x2==255) (R (.int .i64 255) H) (br (y3==0) (R (.int .i64 0) H) (y3≠0∧R (.int .i64 (wrap .i64 ((255:Int)-(min 255 (wrap .i64 (Int.tdiv (wrap .i64 ((255:Int)*(wrap .i64 ((255:Int)-x2)))) y3)))))) H))) (br (mo1==8) (Tryz.C 138 #[.int .i64 x2,.int .i64 y3] H fun r13 H14=> ∃r15,r13= .int .i64 r15∧R (.int .i64 r15) H14) (br (mo1==9) (R (.int .i64 (max (wrap .i64 (x2-y3)) (wrap .i64 (y3-x2)))) H) (br (mo1==10) (Tryz.C 129 #[.int .i64 x2,.int .i64 y3] H fun r16 H17=> ∃r18,r16= .int .i64 r18∧R (.int .i64 (wrap .i64 ((wrap .i64 (x2+y3))-(wrap .i64 ((2:Int)*r18))))) H17) (br (mo1==11) (Tryz.C 129 #[.int .i64 x2,.int .i64 x2] H fun r19 H20=> ∃r21,r19= .int .i64 r21∧Tryz.C 129 #[.int .i64 x2,.int .i64 y3] H20 fun r22 H23=> ∃r24,r22= .int .i64 r24∧Tryz.C 129 #[.int .i64 x2,.int .i64 x2] H23 fun r25 H26=> ∃r27,r25= .int .i64 r27∧Tryz.C 129 #[.int .i64 r27,.int .i64 y3] H26 fun r28 H29=> ∃r30,r28= .int .i64 r30∧R (.int .i64 (min 255 (max 0 (wrap .i64 ((wrap .i64 (r21+(wrap .i64 ((2:Int)*r24))))-(wrap .i64 ((2:Int)*r30))))))) H29) (R (.int .i64 y3) H)))))))))))
def Tryz.p132:Plan:=(tl (two (tl (one (tl (two (tl leaf) (tl (two (tl leaf) (tl (two (tl leaf) (tl (two (tl leaf) (tl (two (tl leaf) (tl (two (two (one (tl (two (tl leaf) g0))) (tl leaf)) (tl (two (two (one (tl (two (tl leaf) g0))) (tl leaf)) (tl (two (tl leaf) (tl (two (tl leaf) (tl (two (tl leaf) g0)))))))))))))))))))))) (tl leaf)))
theorem Tryz.s132{mo1 x2 y3:Int}{H R}(h:Tryz.S132 mo1 x2 y3 H R):Tryz.C 132 #[.int .i64 mo1,.int .i64 x2,.int .i64 y3] H R:=vcs Tryz.tab_ok Tryz.mixed Tryz.func132 Tryz.cal132 Tryz.p132 h (by kernel_rfl)
def Tryz.S133(c1 a2:Int)(H:Heap)(R:Kv):Prop:=
 br (a2==0)
 (R (.int .i64 0) H)
 ((2:Int)≠0∧a2≠0∧R (.int .i64 (min 255 (wrap .i64 (Int.tdiv (wrap .i64 ((wrap .i64 ((255:Int)*c1))+(wrap .i64 (Int.tdiv a2 2)))) a2)))) H)
def Tryz.p133:Plan:=(tl (tg (tl leaf)))
theorem Tryz.s133{c1 a2:Int}{H R}(h:Tryz.S133 c1 a2 H R):Tryz.C 133 #[.int .i64 c1,.int .i64 a2] H R:=vcs Tryz.tab_ok Tryz.mixed Tryz.func133 Tryz.cal133 Tryz.p133 h (by kernel_rfl)
end Go.Proofs
namespace Go.Proofs
open Go.Sh Go.Sh.Plan
open Go.IntKind (wrap)
open Int (toNat)
def Tryz.S135(p1:AV)(u2 v3:Int)(H:Heap)(R:Kv):Prop:=
 alc H (.cells p1 168) fun b4 H5=>0≤(16:Int)∧0≤(16:Int)∧0≤(8:Int)∧0≤(8:Int)∧ ∀J6:Kl,(∀(fo7:Addr) H8,(alc H8 (.cells #[.int .i64 0,.int .i64 0,.int .i64 0,.int .i64 0] 106) fun b9 H10=>#[Value.int .i64 (wrap .i64 ((wrap .i64 ((256:Int)-(andI .i64 (shrI .i64 (wrap .i64 (u2-32768)) 8) 255)))*(wrap .i64 ((256:Int)-(andI .i64 (shrI .i64 (wrap .i64 (v3-32768)) 8) 255))))),Value.int .i64 (wrap .i64 ((andI .i64 (shrI .i64 (wrap .i64 (u2-32768)) 8) 255)*(wrap .i64 ((256:Int)-(andI .i64 (shrI .i64 (wrap .i64 (v3-32768)) 8) 255))))),Value.int .i64 (wrap .i64 ((wrap .i64 ((256:Int)-(andI .i64 (shrI .i64 (wrap .i64 (u2-32768)) 8) 255)))*(andI .i64 (shrI .i64 (wrap .i64 (v3-32768)) 8) 255))),Value.int .i64 (wrap .i64 ((andI .i64 (shrI .i64 (wrap .i64 (u2-32768)) 8) 255)*(andI .i64 (shrI .i64 (wrap .i64 (v3-32768)) 8) 255)))].size=4∧stAt H10 ⟨b9,0,none⟩ (Array.toList #[.int .i64 (wrap .i64 ((wrap .i64 ((256:Int)-(andI .i64 (shrI .i64 (wrap .i64 (u2-32768)) 8) 255)))*(wrap .i64 ((256:Int)-(andI .i64 (shrI .i64 (wrap .i64 (v3-32768)) 8) 255))))),.int .i64 (wrap .i64 ((andI .i64 (shrI .i64 (wrap .i64 (u2-32768)) 8) 255)*(wrap .i64 ((256:Int)-(andI .i64 (shrI .i64 (wrap .i64 (v3-32768)) 8) 255))))),.int .i64 (wrap .i64 ((wrap .i64 ((256:Int)-(andI .i64 (shrI .i64 (wrap .i64 (u2-32768)) 8) 255)))*(andI .i64 (shrI .i64 (wrap .i64 (v3-32768)) 8) 255))),.int .i64 (wrap .i64 ((andI .i64 (shrI .i64 (wrap .i64 (u2-32768)) 8) 255)*(andI .i64 (shrI .i64 (wrap .i64 (v3-32768)) 8) 255)))]) fun H11=>alc H11 (.cells #[.int .i64 0,.int .i64 0,.int .i64 0,.int .i64 0] 106) fun b12 H13=> ∀X14:Kl,(∀(c15:Int) H16,(br (decide (c15<4)) (∃v17,v17.size=4∧rowIn H16 ⟨b9,0,none⟩ v17∧ ∀X18:Kl,(∀(su19 k20:Int) H21,(br (decide (k20<4)) (0≤k20∧k20<((4:Nat):Int)∧ ∃w22,v17[(toNat k20*1)]?=some (.int .i64 w22)∧0≤k20∧k20<((4:Nat):Int)∧0≤c15∧c15<((4:Nat):Int)∧ ∃v23,cell H21 (.add (.add fo7 (toNat k20*4)) (toNat c15*1))=some (.int .i64 v23)∧X18 [.int .i64 (wrap .i64 (su19+(wrap .i64 (v23*w22)))),.int .i64 (wrap .i64 (k20+1))] H21) (0≤(16:Int)∧0≤c15∧c15<((4:Nat):Int)∧stAt H21 (.add ⟨b12,0,none⟩ (toNat c15*1)) [.int .i64 (shrI .i64 su19 16)] fun H24=>X14 [.int .i64 (wrap .i64 (c15+1))] H24))→X18 [.int .i64 su19,.int .i64 k20] H21)→X18 [.int .i64 32768,.int .i64 0] H16) (∃v25,v25.size=4∧rowIn H16 ⟨b12,0,none⟩ v25∧Tryz.C 115 #[.agg v25] H16 fun r26 H27=> ∃r28,r26= .int .i64 r28∧R (.int .i64 r28) H27))→X14 [.int .i64 c15] H16)→X14 [.int .i64 0] H13)→J6 [.pointer (some fo7)] H8)→
 ∃v29,v29.size=3∧rowIn H5 ⟨b4,0,none⟩ v29∧ ∃v30,v30.size=3∧rowIn H5 ⟨b4,0,none⟩ v30∧ ∃v31,v31.size=3∧rowIn H5 ⟨b4,0,none⟩ v31∧ ∃v32,v32.size=3∧rowIn H5 ⟨b4,0,none⟩ v32∧(Tryz.C 136 #[.agg v29,.int .i64 (shrI .i64 (wrap .i64 (u2-32768)) 16),.int .i64 (shrI .i64 (wrap .i64 (v3-32768)) 16)] H5 fun r33 H34=> ∃r35,r33= .int .i64 r35∧(Ext H5 H34∨(∃v208,v208.size=3∧rowIn H34 ⟨b4,0,none⟩ v208∧Value.agg v208= .agg v32)∧(∃v209,v209.size=3∧rowIn H34 ⟨b4,0,none⟩ v209∧Value.agg v209= .agg v31)∧(∃v210,v210.size=3∧rowIn H34 ⟨b4,0,none⟩ v210∧Value.agg v210= .agg v30))∧(Tryz.C 102 #[.int .i64 r35] H34 fun r36 H37=> ∃r38,r36= .agg r38∧(Ext H34 H37∨(∃v169,v169.size=3∧rowIn H37 ⟨b4,0,none⟩ v169∧Value.agg v169= .agg v32)∧(∃v170,v170.size=3∧rowIn H37 ⟨b4,0,none⟩ v170∧Value.agg v170= .agg v31)∧(∃v171,v171.size=3∧rowIn H37 ⟨b4,0,none⟩ v171∧Value.agg v171= .agg v30))∧(Tryz.C 136 #[.agg v30,.int .i64 (wrap .i64 ((shrI .i64 (wrap .i64 (u2-32768)) 16)+1)),.int .i64 (shrI .i64 (wrap .i64 (v3-32768)) 16)] H37 fun r39 H40=> ∃r41,r39= .int .i64 r41∧(Ext H37 H40∨(∃v137,v137.size=3∧rowIn H40 ⟨b4,0,none⟩ v137∧Value.agg v137= .agg v32)∧(∃v138,v138.size=3∧rowIn H40 ⟨b4,0,none⟩ v138∧Value.agg v138= .agg v31))∧(Tryz.C 102 #[.int .i64 r41] H40 fun r42 H43=> ∃r44,r42= .agg r44∧(Ext H40 H43∨(∃v111,v111.size=3∧rowIn H43 ⟨b4,0,none⟩ v111∧Value.agg v111= .agg v32)∧(∃v112,v112.size=3∧rowIn H43 ⟨b4,0,none⟩ v112∧Value.agg v112= .agg v31))∧(Tryz.C 136 #[.agg v31,.int .i64 (shrI .i64 (wrap .i64 (u2-32768)) 16),.int .i64 (wrap .i64 ((shrI .i64 (wrap .i64 (v3-32768)) 16)+1))] H43 fun r45 H46=> ∃r47,r45= .int .i64 r47∧(Ext H43 H46∨(∃v91,v91.size=3∧rowIn H46 ⟨b4,0,none⟩ v91∧Value.agg v91= .agg v32))∧(Tryz.C 102 #[.int .i64 r47] H46 fun r48 H49=> ∃r50,r48= .agg r50∧(Ext H46 H49∨(∃v76,v76.size=3∧rowIn H49 ⟨b4,0,none⟩ v76∧Value.agg v76= .agg v32))∧(Tryz.C 136 #[.agg v32,.int .i64 (wrap .i64 ((shrI .i64 (wrap .i64 (u2-32768)) 16)+1)),.int .i64 (wrap .i64 ((shrI .i64 (wrap .i64 (v3-32768)) 16)+1))] H49 fun r51 H52=> ∃r53,r51= .int .i64 r53∧(Tryz.C 102 #[.int .i64 r53] H52 fun r54 H55=> ∃r56,r54= .agg r56∧r38.size=4∧0+4≤16∧r44.size=4∧4+4≤16∧r50.size=4∧8+4≤16∧r56.size=4∧12+4≤16∧alc H55 (.cells #[.int .i64 0,.int .i64 0,.int .i64 0,.int .i64 0,.int .i64 0,.int .i64 0,.int .i64 0,.int .i64 0,.int .i64 0,.int .i64 0,.int .i64 0,.int .i64 0,.int .i64 0,.int .i64 0,.int .i64 0,.int .i64 0] 171) fun b57 H58=>(List.toArray (setL (setL (setL (setL [.int .i64 0,.int .i64 0,.int .i64 0,.int .i64 0,.int .i64 0,.int .i64 0,.int .i64 0,.int .i64 0,.int .i64 0,.int .i64 0,.int .i64 0,.int .i64 0,.int .i64 0,.int .i64 0,.int .i64 0,.int .i64 0] 0 r38.toList) 4 r44.toList) 8 r50.toList) 12 r56.toList)).size=16∧stAt H58 ⟨b57,0,none⟩ (Array.toList (List.toArray (setL (setL (setL (setL [.int .i64 0,.int .i64 0,.int .i64 0,.int .i64 0,.int .i64 0,.int .i64 0,.int .i64 0,.int .i64 0,.int .i64 0,.int .i64 0,.int .i64 0,.int .i64 0,.int .i64 0,.int .i64 0,.int .i64 0,.int .i64 0] 0 r38.toList) 4 r44.toList) 8 r50.toList) 12 r56.toList))) fun H59=>J6 [.pointer (some ⟨b57,0,none⟩)] H59)∧(alc H52 (.cells #[.int .i64 0,.int .i64 0,.int .i64 0,.int .i64 0,.int .i64 0,.int .i64 0,.int .i64 0,.int .i64 0,.int .i64 0,.int .i64 0,.int .i64 0,.int .i64 0,.int .i64 0,.int .i64 0,.int .i64 0,.int .i64 0] 171) fun b60 H61=>Tryz.C 102 #[.int .i64 r53] H61 fun r62 H63=> ∃r64,r62= .agg r64∧r38.size=4∧0+4≤16∧r44.size=4∧4+4≤16∧r50.size=4∧8+4≤16∧r64.size=4∧12+4≤16∧(List.toArray (setL (setL (setL (setL [.int .i64 0,.int .i64 0,.int .i64 0,.int .i64 0,.int .i64 0,.int .i64 0,.int .i64 0,.int .i64 0,.int .i64 0,.int .i64 0,.int .i64 0,.int .i64 0,.int .i64 0,.int .i64 0,.int .i64 0,.int .i64 0] 0 r38.toList) 4 r44.toList) 8 r50.toList) 12 r64.toList)).size=16∧stAt H63 ⟨b60,0,none⟩ (Array.toList (List.toArray (setL (setL (setL (setL [.int .i64 0,.int .i64 0,.int .i64 0,.int .i64 0,.int .i64 0,.int .i64 0,.int .i64 0,.int .i64 0,.int .i64 0,.int .i64 0,.int .i64 0,.int .i64 0,.int .i64 0,.int .i64 0,.int .i64 0,.int .i64 0] 0 r38.toList) 4 r44.toList) 8 r50.toList) 12 r64.toList))) fun H65=>J6 [.pointer (some ⟨b60,0,none⟩)] H65))∧(alc H49 (.cells #[.int .i64 0,.int .i64 0,.int .i64 0,.int .i64 0,.int .i64 0,.int .i64 0,.int .i64 0,.int .i64 0,.int .i64 0,.int .i64 0,.int .i64 0,.int .i64 0,.int .i64 0,.int .i64 0,.int .i64 0,.int .i64 0] 171) fun b66 H67=>(Ext H49 H67∨(∃v75,v75.size=3∧rowIn H67 ⟨b4,0,none⟩ v75∧Value.agg v75= .agg v32))∧Tryz.C 136 #[.agg v32,.int .i64 (wrap .i64 ((shrI .i64 (wrap .i64 (u2-32768)) 16)+1)),.int .i64 (wrap .i64 ((shrI .i64 (wrap .i64 (v3-32768)) 16)+1))] H67 fun r68 H69=> ∃r70,r68= .int .i64 r70∧Tryz.C 102 #[.int .i64 r70] H69 fun r71 H72=> ∃r73,r71= .agg r73∧r38.size=4∧0+4≤16∧r44.size=4∧4+4≤16∧r50.size=4∧8+4≤16∧r73.size=4∧12+4≤16∧(List.toArray (setL (setL (setL (setL [.int .i64 0,.int .i64 0,.int .i64 0,.int .i64 0,.int .i64 0,.int .i64 0,.int .i64 0,.int .i64 0,.int .i64 0,.int .i64 0,.int .i64 0,.int .i64 0,.int .i64 0,.int .i64 0,.int .i64 0,.int .i64 0] 0 r38.toList) 4 r44.toList) 8 r50.toList) 12 r73.toList)).size=16∧stAt H72 ⟨b66,0,none⟩ (Array.toList (List.toArray (setL (setL (setL (setL [.int .i64 0,.int .i64 0,.int .i64 0,.int .i64 0,.int .i64 0,.int .i64 0,.int .i64 0,.int .i64 0,.int .i64 0,.int .i64 0,.int .i64 0,.int .i64 0,.int .i64 0,.int .i64 0,.int .i64 0,.int .i64 0] 0 r38.toList) 4 r44.toList) 8 r50.toList) 12 r73.toList))) fun H74=>J6 [.pointer (some ⟨b66,0,none⟩)] H74))∧(alc H46 (.cells #[.int .i64 0,.int .i64 0,.int .i64 0,.int .i64 0,.int .i64 0,.int .i64 0,.int .i64 0,.int .i64 0,.int .i64 0,.int .i64 0,.int .i64 0,.int .i64 0,.int .i64 0,.int .i64 0,.int .i64 0,.int .i64 0] 171) fun b77 H78=>(Ext H46 H78∨(∃v90,v90.size=3∧rowIn H78 ⟨b4,0,none⟩ v90∧Value.agg v90= .agg v32))∧Tryz.C 102 #[.int .i64 r47] H78 fun r79 H80=> ∃r81,r79= .agg r81∧(Ext H78 H80∨(∃v89,v89.size=3∧rowIn H80 ⟨b4,0,none⟩ v89∧Value.agg v89= .agg v32))∧Tryz.C 136 #[.agg v32,.int .i64 (wrap .i64 ((shrI .i64 (wrap .i64 (u2-32768)) 16)+1)),.int .i64 (wrap .i64 ((shrI .i64 (wrap .i64 (v3-32768)) 16)+1))] H80 fun r82 H83=> ∃r84,r82= .int .i64 r84∧Tryz.C 102 #[.int .i64 r84] H83 fun r85 H86=> ∃r87,r85= .agg r87∧r38.size=4∧0+4≤16∧r44.size=4∧4+4≤16∧r81.size=4∧8+4≤16∧r87.size=4∧12+4≤16∧(List.toArray (setL (setL (setL (setL [.int .i64 0,.int .i64 0,.int .i64 0,.int .i64 0,.int .i64 0,.int .i64 0,.int .i64 0,.int .i64 0,.int .i64 0,.int .i64 0,.int .i64 0,.int .i64 0,.int .i64 0,.int .i64 0,.int .i64 0,.int .i64 0] 0 r38.toList) 4 r44.toList) 8 r81.toList) 12 r87.toList)).size=16∧stAt H86 ⟨b77,0,none⟩ (Array.toList (List.toArray (setL (setL (setL (setL [.int .i64 0,.int .i64 0,.int .i64 0,.int .i64 0,.int .i64 0,.int .i64 0,.int .i64 0,.int .i64 0,.int .i64 0,.int .i64 0,.int .i64 0,.int .i64 0,.int .i64 0,.int .i64 0,.int .i64 0,.int .i64 0] 0 r38.toList) 4 r44.toList) 8 r81.toList) 12 r87.toList))) fun H88=>J6 [.pointer (some ⟨b77,0,none⟩)] H88))∧(alc H43 (.cells #[.int .i64 0,.int .i64 0,.int .i64 0,.int .i64 0,.int .i64 0,.int .i64 0,.int .i64 0,.int .i64 0,.int .i64 0,.int .i64 0,.int .i64 0,.int .i64 0,.int .i64 0,.int .i64 0,.int .i64 0,.int .i64 0] 171) fun b92 H93=>(Ext H43 H93∨(∃v109,v109.size=3∧rowIn H93 ⟨b4,0,none⟩ v109∧Value.agg v109= .agg v32)∧(∃v110,v110.size=3∧rowIn H93 ⟨b4,0,none⟩ v110∧Value.agg v110= .agg v31))∧Tryz.C 136 #[.agg v31,.int .i64 (shrI .i64 (wrap .i64 (u2-32768)) 16),.int .i64 (wrap .i64 ((shrI .i64 (wrap .i64 (v3-32768)) 16)+1))] H93 fun r94 H95=> ∃r96,r94= .int .i64 r96∧(Ext H93 H95∨(∃v108,v108.size=3∧rowIn H95 ⟨b4,0,none⟩ v108∧Value.agg v108= .agg v32))∧Tryz.C 102 #[.int .i64 r96] H95 fun r97 H98=> ∃r99,r97= .agg r99∧(Ext H95 H98∨(∃v107,v107.size=3∧rowIn H98 ⟨b4,0,none⟩ v107∧Value.agg v107= .agg v32))∧Tryz.C 136 #[.agg v32,.int .i64 (wrap .i64 ((shrI .i64 (wrap .i64 (u2-32768)) 16)+1)),.int .i64 (wrap .i64 ((shrI .i64 (wrap .i64 (v3-32768)) 16)+1))] H98 fun r100 H101=> ∃r102,r100= .int .i64 r102∧Tryz.C 102 #[.int .i64 r102] H101 fun r103 H104=> ∃r105,r103= .agg r105∧r38.size=4∧0+4≤16∧r44.size=4∧4+4≤16∧r99.size=4∧8+4≤16∧r105.size=4∧12+4≤16∧(List.toArray (setL (setL (setL (setL [.int .i64 0,.int .i64 0,.int .i64 0,.int .i64 0,.int .i64 0,.int .i64 0,.int .i64 0,.int .i64 0,.int .i64 0,.int .i64 0,.int .i64 0,.int .i64 0,.int .i64 0,.int .i64 0,.int .i64 0,.int .i64 0] 0 r38.toList) 4 r44.toList) 8 r99.toList) 12 r105.toList)).size=16∧stAt H104 ⟨b92,0,none⟩ (Array.toList (List.toArray (setL (setL (setL (setL [.int .i64 0,.int .i64 0,.int .i64 0,.int .i64 0,.int .i64 0,.int .i64 0,.int .i64 0,.int .i64 0,.int .i64 0,.int .i64 0,.int .i64 0,.int .i64 0,.int .i64 0,.int .i64 0,.int .i64 0,.int .i64 0] 0 r38.toList) 4 r44.toList) 8 r99.toList) 12 r105.toList))) fun H106=>J6 [.pointer (some ⟨b92,0,none⟩)] H106))∧(alc H40 (.cells #[.int .i64 0,.int .i64 0,.int .i64 0,.int .i64 0,.int .i64 0,.int .i64 0,.int .i64 0,.int .i64 0,.int .i64 0,.int .i64 0,.int .i64 0,.int .i64 0,.int .i64 0,.int .i64 0,.int .i64 0,.int .i64 0] 171) fun b113 H114=>(Ext H40 H114∨(∃v135,v135.size=3∧rowIn H114 ⟨b4,0,none⟩ v135∧Value.agg v135= .agg v32)∧(∃v136,v136.size=3∧rowIn H114 ⟨b4,0,none⟩ v136∧Value.agg v136= .agg v31))∧Tryz.C 102 #[.int .i64 r41] H114 fun r115 H116=> ∃r117,r115= .agg r117∧(Ext H114 H116∨(∃v133,v133.size=3∧rowIn H116 ⟨b4,0,none⟩ v133∧Value.agg v133= .agg v32)∧(∃v134,v134.size=3∧rowIn H116 ⟨b4,0,none⟩ v134∧Value.agg v134= .agg v31))∧Tryz.C 136 #[.agg v31,.int .i64 (shrI .i64 (wrap .i64 (u2-32768)) 16),.int .i64 (wrap .i64 ((shrI .i64 (wrap .i64 (v3-32768)) 16)+1))] H116 fun r118 H119=> ∃r120,r118= .int .i64 r120∧(Ext H116 H119∨(∃v132,v132.size=3∧rowIn H119 ⟨b4,0,none⟩ v132∧Value.agg v132= .agg v32))∧Tryz.C 102 #[.int .i64 r120] H119 fun r121 H122=> ∃r123,r121= .agg r123∧(Ext H119 H122∨(∃v131,v131.size=3∧rowIn H122 ⟨b4,0,none⟩ v131∧Value.agg v131= .agg v32))∧Tryz.C 136 #[.agg v32,.int .i64 (wrap .i64 ((shrI .i64 (wrap .i64 (u2-32768)) 16)+1)),.int .i64 (wrap .i64 ((shrI .i64 (wrap .i64 (v3-32768)) 16)+1))] H122 fun r124 H125=> ∃r126,r124= .int .i64 r126∧Tryz.C 102 #[.int .i64 r126] H125 fun r127 H128=> ∃r129,r127= .agg r129∧r38.size=4∧0+4≤16∧r117.size=4∧4+4≤16∧r123.size=4∧8+4≤16∧r129.size=4∧12+4≤16∧(List.toArray (setL (setL (setL (setL [.int .i64 0,.int .i64 0,.int .i64 0,.int .i64 0,.int .i64 0,.int .i64 0,.int .i64 0,.int .i64 0,.int .i64 0,.int .i64 0,.int .i64 0,.int .i64 0,.int .i64 0,.int .i64 0,.int .i64 0,.int .i64 0] 0 r38.toList) 4 r117.toList) 8 r123.toList) 12 r129.toList)).size=16∧stAt H128 ⟨b113,0,none⟩ (Array.toList (List.toArray (setL (setL (setL (setL [.int .i64 0,.int .i64 0,.int .i64 0,.int .i64 0,.int .i64 0,.int .i64 0,.int .i64 0,.int .i64 0,.int .i64 0,.int .i64 0,.int .i64 0,.int .i64 0,.int .i64 0,.int .i64 0,.int .i64 0,.int .i64 0] 0 r38.toList) 4 r117.toList) 8 r123.toList) 12 r129.toList))) fun H130=>J6 [.pointer (some ⟨b113,0,none⟩)] H130))∧(alc H37 (.cells #[.int .i64 0,.int .i64 0,.int .i64 0,.int .i64 0,.int .i64 0,.int .i64 0,.int .i64 0,.int .i64 0,.int .i64 0,.int .i64 0,.int .i64 0,.int .i64 0,.int .i64 0,.int .i64 0,.int .i64 0,.int .i64 0] 171) fun b139 H140=>(Ext H37 H140∨(∃v166,v166.size=3∧rowIn H140 ⟨b4,0,none⟩ v166∧Value.agg v166= .agg v32)∧(∃v167,v167.size=3∧rowIn H140 ⟨b4,0,none⟩ v167∧Value.agg v167= .agg v31)∧(∃v168,v168.size=3∧rowIn H140 ⟨b4,0,none⟩ v168∧Value.agg v168= .agg v30))∧Tryz.C 136 #[.agg v30,.int .i64 (wrap .i64 ((shrI .i64 (wrap .i64 (u2-32768)) 16)+1)),.int .i64 (shrI .i64 (wrap .i64 (v3-32768)) 16)] H140 fun r141 H142=> ∃r143,r141= .int .i64 r143∧(Ext H140 H142∨(∃v164,v164.size=3∧rowIn H142 ⟨b4,0,none⟩ v164∧Value.agg v164= .agg v32)∧(∃v165,v165.size=3∧rowIn H142 ⟨b4,0,none⟩ v165∧Value.agg v165= .agg v31))∧Tryz.C 102 #[.int .i64 r143] H142 fun r144 H145=> ∃r146,r144= .agg r146∧(Ext H142 H145∨(∃v162,v162.size=3∧rowIn H145 ⟨b4,0,none⟩ v162∧Value.agg v162= .agg v32)∧(∃v163,v163.size=3∧rowIn H145 ⟨b4,0,none⟩ v163∧Value.agg v163= .agg v31))∧Tryz.C 136 #[.agg v31,.int .i64 (shrI .i64 (wrap .i64 (u2-32768)) 16),.int .i64 (wrap .i64 ((shrI .i64 (wrap .i64 (v3-32768)) 16)+1))] H145 fun r147 H148=> ∃r149,r147= .int .i64 r149∧(Ext H145 H148∨(∃v161,v161.size=3∧rowIn H148 ⟨b4,0,none⟩ v161∧Value.agg v161= .agg v32))∧Tryz.C 102 #[.int .i64 r149] H148 fun r150 H151=> ∃r152,r150= .agg r152∧(Ext H148 H151∨(∃v160,v160.size=3∧rowIn H151 ⟨b4,0,none⟩ v160∧Value.agg v160= .agg v32))∧Tryz.C 136 #[.agg v32,.int .i64 (wrap .i64 ((shrI .i64 (wrap .i64 (u2-32768)) 16)+1)),.int .i64 (wrap .i64 ((shrI .i64 (wrap .i64 (v3-32768)) 16)+1))] H151 fun r153 H154=> ∃r155,r153= .int .i64 r155∧Tryz.C 102 #[.int .i64 r155] H154 fun r156 H157=> ∃r158,r156= .agg r158∧r38.size=4∧0+4≤16∧r146.size=4∧4+4≤16∧r152.size=4∧8+4≤16∧r158.size=4∧12+4≤16∧(List.toArray (setL (setL (setL (setL [.int .i64 0,.int .i64 0,.int .i64 0,.int .i64 0,.int .i64 0,.int .i64 0,.int .i64 0,.int .i64 0,.int .i64 0,.int .i64 0,.int .i64 0,.int .i64 0,.int .i64 0,.int .i64 0,.int .i64 0,.int .i64 0] 0 r38.toList) 4 r146.toList) 8 r152.toList) 12 r158.toList)).size=16∧stAt H157 ⟨b139,0,none⟩ (Array.toList (List.toArray (setL (setL (setL (setL [.int .i64 0,.int .i64 0,.int .i64 0,.int .i64 0,.int .i64 0,.int .i64 0,.int .i64 0,.int .i64 0,.int .i64 0,.int .i64 0,.int .i64 0,.int .i64 0,.int .i64 0,.int .i64 0,.int .i64 0,.int .i64 0] 0 r38.toList) 4 r146.toList) 8 r152.toList) 12 r158.toList))) fun H159=>J6 [.pointer (some ⟨b139,0,none⟩)] H159))∧(alc H34 (.cells #[.int .i64 0,.int .i64 0,.int .i64 0,.int .i64 0,.int .i64 0,.int .i64 0,.int .i64 0,.int .i64 0,.int .i64 0,.int .i64 0,.int .i64 0,.int .i64 0,.int .i64 0,.int .i64 0,.int .i64 0,.int .i64 0] 171) fun b172 H173=>(Ext H34 H173∨(∃v205,v205.size=3∧rowIn H173 ⟨b4,0,none⟩ v205∧Value.agg v205= .agg v32)∧(∃v206,v206.size=3∧rowIn H173 ⟨b4,0,none⟩ v206∧Value.agg v206= .agg v31)∧(∃v207,v207.size=3∧rowIn H173 ⟨b4,0,none⟩ v207∧Value.agg v207= .agg v30))∧Tryz.C 102 #[.int .i64 r35] H173 fun r174 H175=> ∃r176,r174= .agg r176∧(Ext H173 H175∨(∃v202,v202.size=3∧rowIn H175 ⟨b4,0,none⟩ v202∧Value.agg v202= .agg v32)∧(∃v203,v203.size=3∧rowIn H175 ⟨b4,0,none⟩ v203∧Value.agg v203= .agg v31)∧(∃v204,v204.size=3∧rowIn H175 ⟨b4,0,none⟩ v204∧Value.agg v204= .agg v30))∧Tryz.C 136 #[.agg v30,.int .i64 (wrap .i64 ((shrI .i64 (wrap .i64 (u2-32768)) 16)+1)),.int .i64 (shrI .i64 (wrap .i64 (v3-32768)) 16)] H175 fun r177 H178=> ∃r179,r177= .int .i64 r179∧(Ext H175 H178∨(∃v200,v200.size=3∧rowIn H178 ⟨b4,0,none⟩ v200∧Value.agg v200= .agg v32)∧(∃v201,v201.size=3∧rowIn H178 ⟨b4,0,none⟩ v201∧Value.agg v201= .agg v31))∧Tryz.C 102 #[.int .i64 r179] H178 fun r180 H181=> ∃r182,r180= .agg r182∧(Ext H178 H181∨(∃v198,v198.size=3∧rowIn H181 ⟨b4,0,none⟩ v198∧Value.agg v198= .agg v32)∧(∃v199,v199.size=3∧rowIn H181 ⟨b4,0,none⟩ v199∧Value.agg v199= .agg v31))∧Tryz.C 136 #[.agg v31,.int .i64 (shrI .i64 (wrap .i64 (u2-32768)) 16),.int .i64 (wrap .i64 ((shrI .i64 (wrap .i64 (v3-32768)) 16)+1))] H181 fun r183 H184=> ∃r185,r183= .int .i64 r185∧(Ext H181 H184∨(∃v197,v197.size=3∧rowIn H184 ⟨b4,0,none⟩ v197∧Value.agg v197= .agg v32))∧Tryz.C 102 #[.int .i64 r185] H184 fun r186 H187=> ∃r188,r186= .agg r188∧(Ext H184 H187∨(∃v196,v196.size=3∧rowIn H187 ⟨b4,0,none⟩ v196∧Value.agg v196= .agg v32))∧Tryz.C 136 #[.agg v32,.int .i64 (wrap .i64 ((shrI .i64 (wrap .i64 (u2-32768)) 16)+1)),.int .i64 (wrap .i64 ((shrI .i64 (wrap .i64 (v3-32768)) 16)+1))] H187 fun r189 H190=> ∃r191,r189= .int .i64 r191∧Tryz.C 102 #[.int .i64 r191] H190 fun r192 H193=> ∃r194,r192= .agg r194∧r176.size=4∧0+4≤16∧r182.size=4∧4+4≤16∧r188.size=4∧8+4≤16∧r194.size=4∧12+4≤16∧(List.toArray (setL (setL (setL (setL [.int .i64 0,.int .i64 0,.int .i64 0,.int .i64 0,.int .i64 0,.int .i64 0,.int .i64 0,.int .i64 0,.int .i64 0,.int .i64 0,.int .i64 0,.int .i64 0,.int .i64 0,.int .i64 0,.int .i64 0,.int .i64 0] 0 r176.toList) 4 r182.toList) 8 r188.toList) 12 r194.toList)).size=16∧stAt H193 ⟨b172,0,none⟩ (Array.toList (List.toArray (setL (setL (setL (setL [.int .i64 0,.int .i64 0,.int .i64 0,.int .i64 0,.int .i64 0,.int .i64 0,.int .i64 0,.int .i64 0,.int .i64 0,.int .i64 0,.int .i64 0,.int .i64 0,.int .i64 0,.int .i64 0,.int .i64 0,.int .i64 0] 0 r176.toList) 4 r182.toList) 8 r188.toList) 12 r194.toList))) fun H195=>J6 [.pointer (some ⟨b172,0,none⟩)] H195))∧(alc H5 (.cells #[.int .i64 0,.int .i64 0,.int .i64 0,.int .i64 0,.int .i64 0,.int .i64 0,.int .i64 0,.int .i64 0,.int .i64 0,.int .i64 0,.int .i64 0,.int .i64 0,.int .i64 0,.int .i64 0,.int .i64 0,.int .i64 0] 171) fun b211 H212=>(Ext H5 H212∨(∃v250,v250.size=3∧rowIn H212 ⟨b4,0,none⟩ v250∧Value.agg v250= .agg v32)∧(∃v251,v251.size=3∧rowIn H212 ⟨b4,0,none⟩ v251∧Value.agg v251= .agg v31)∧(∃v252,v252.size=3∧rowIn H212 ⟨b4,0,none⟩ v252∧Value.agg v252= .agg v30)∧(∃v253,v253.size=3∧rowIn H212 ⟨b4,0,none⟩ v253∧Value.agg v253= .agg v29))∧Tryz.C 136 #[.agg v29,.int .i64 (shrI .i64 (wrap .i64 (u2-32768)) 16),.int .i64 (shrI .i64 (wrap .i64 (v3-32768)) 16)] H212 fun r213 H214=> ∃r215,r213= .int .i64 r215∧(Ext H212 H214∨(∃v247,v247.size=3∧rowIn H214 ⟨b4,0,none⟩ v247∧Value.agg v247= .agg v32)∧(∃v248,v248.size=3∧rowIn H214 ⟨b4,0,none⟩ v248∧Value.agg v248= .agg v31)∧(∃v249,v249.size=3∧rowIn H214 ⟨b4,0,none⟩ v249∧Value.agg v249= .agg v30))∧Tryz.C 102 #[.int .i64 r215] H214 fun r216 H217=> ∃r218,r216= .agg r218∧(Ext H214 H217∨(∃v244,v244.size=3∧rowIn H217 ⟨b4,0,none⟩ v244∧Value.agg v244= .agg v32)∧(∃v245,v245.size=3∧rowIn H217 ⟨b4,0,none⟩ v245∧Value.agg v245= .agg v31)∧(∃v246,v246.size=3∧rowIn H217 ⟨b4,0,none⟩ v246∧Value.agg v246= .agg v30))∧Tryz.C 136 #[.agg v30,.int .i64 (wrap .i64 ((shrI .i64 (wrap .i64 (u2-32768)) 16)+1)),.int .i64 (shrI .i64 (wrap .i64 (v3-32768)) 16)] H217 fun r219 H220=> ∃r221,r219= .int .i64 r221∧(Ext H217 H220∨(∃v242,v242.size=3∧rowIn H220 ⟨b4,0,none⟩ v242∧Value.agg v242= .agg v32)∧(∃v243,v243.size=3∧rowIn H220 ⟨b4,0,none⟩ v243∧Value.agg v243= .agg v31))∧Tryz.C 102 #[.int .i64 r221] H220 fun r222 H223=> ∃r224,r222= .agg r224∧(Ext H220 H223∨(∃v240,v240.size=3∧rowIn H223 ⟨b4,0,none⟩ v240∧Value.agg v240= .agg v32)∧(∃v241,v241.size=3∧rowIn H223 ⟨b4,0,none⟩ v241∧Value.agg v241= .agg v31))∧Tryz.C 136 #[.agg v31,.int .i64 (shrI .i64 (wrap .i64 (u2-32768)) 16),.int .i64 (wrap .i64 ((shrI .i64 (wrap .i64 (v3-32768)) 16)+1))] H223 fun r225 H226=> ∃r227,r225= .int .i64 r227∧(Ext H223 H226∨(∃v239,v239.size=3∧rowIn H226 ⟨b4,0,none⟩ v239∧Value.agg v239= .agg v32))∧Tryz.C 102 #[.int .i64 r227] H226 fun r228 H229=> ∃r230,r228= .agg r230∧(Ext H226 H229∨(∃v238,v238.size=3∧rowIn H229 ⟨b4,0,none⟩ v238∧Value.agg v238= .agg v32))∧Tryz.C 136 #[.agg v32,.int .i64 (wrap .i64 ((shrI .i64 (wrap .i64 (u2-32768)) 16)+1)),.int .i64 (wrap .i64 ((shrI .i64 (wrap .i64 (v3-32768)) 16)+1))] H229 fun r231 H232=> ∃r233,r231= .int .i64 r233∧Tryz.C 102 #[.int .i64 r233] H232 fun r234 H235=> ∃r236,r234= .agg r236∧r218.size=4∧0+4≤16∧r224.size=4∧4+4≤16∧r230.size=4∧8+4≤16∧r236.size=4∧12+4≤16∧(List.toArray (setL (setL (setL (setL [.int .i64 0,.int .i64 0,.int .i64 0,.int .i64 0,.int .i64 0,.int .i64 0,.int .i64 0,.int .i64 0,.int .i64 0,.int .i64 0,.int .i64 0,.int .i64 0,.int .i64 0,.int .i64 0,.int .i64 0,.int .i64 0] 0 r218.toList) 4 r224.toList) 8 r230.toList) 12 r236.toList)).size=16∧stAt H235 ⟨b211,0,none⟩ (Array.toList (List.toArray (setL (setL (setL (setL [.int .i64 0,.int .i64 0,.int .i64 0,.int .i64 0,.int .i64 0,.int .i64 0,.int .i64 0,.int .i64 0,.int .i64 0,.int .i64 0,.int .i64 0,.int .i64 0,.int .i64 0,.int .i64 0,.int .i64 0,.int .i64 0] 0 r218.toList) 4 r224.toList) 8 r230.toList) 12 r236.toList))) fun H237=>J6 [.pointer (some ⟨b211,0,none⟩)] H237)
def Tryz.p135:Plan:=(tl (tl (tl (two (join [(11,999999)] [9,10] leaf) (tl (tl (two (tl (one (loop [(74,3)] [11,12,13] (tl (two (tl leaf) (two (one (tl (tl (two (tl (one (loop [(15,3),(78,3)] [11,12,13,14,74,77] (tl (two (tl leaf) (two (one (tl leaf)) leaf)))))) leaf)))) leaf)))))) (tl leaf))))))))
theorem Tryz.s135{p1:AV}{u2 v3:Int}{H R}(h:Tryz.S135 p1 u2 v3 H R):Tryz.C 135 #[.agg p1,.int .i64 u2,.int .i64 v3] H R:=vcs Tryz.tab_ok Tryz.mixed Tryz.func135 Tryz.cal135 Tryz.p135 h (by kernel_rfl)
def Tryz.S136(p1:AV)(x2 y3:Int)(H:Heap)(R:Kv):Prop:=
 alc H (.cells p1 168) fun b4 H5=> ∀J6:Kl,(∀H7,(∃P8p P8l P8c,cell H7 (.add ⟨b4,0,none⟩ 2)=some (.slice P8p P8l P8c)∧ ∃W9,cell H7 (.add ⟨b4,0,none⟩ 0)=some (.int .i64 W9)∧ ∃a10,P8p=some a10∧0≤(wrap .i64 ((wrap .i64 (y3*W9))+x2))∧(wrap .i64 ((wrap .i64 (y3*W9))+x2))<(P8l:Int)∧ ∃v11,cell H7 (.add a10 (toNat (wrap .i64 ((wrap .i64 (y3*W9))+x2))*1))=some (.int .i64 v11)∧R (.int .i64 v11) H7)→J6 [] H7)→
 br (decide (x2<0)) (R (.int .i64 0) H5) (∃W12,cell H5 (.add ⟨b4,0,none⟩ 0)=some (.int .i64 W12)∧br (decide (x2≥W12)) (R (.int .i64 0) H5) (br (decide (y3<0)) (R (.int .i64 0) H5) (∃H13,cell H5 (.add ⟨b4,0,none⟩ 1)=some (.int .i64 H13)∧br (decide (y3≥H13)) (R (.int .i64 0) H5) (J6 [] H5))))
def Tryz.p136:Plan:=(tl (two (join [] [1,2,3] g0) (tl leaf)))
theorem Tryz.s136{p1:AV}{x2 y3:Int}{H R}(h:Tryz.S136 p1 x2 y3 H R):Tryz.C 136 #[.agg p1,.int .i64 x2,.int .i64 y3] H R:=vcs Tryz.tab_ok Tryz.mixed Tryz.func136 Tryz.cal136 Tryz.p136 h (by kernel_rfl)
def Tryz.S137(x1 y2:Int)(H:Heap)(R:Kv):Prop:=
 Tryz.C 129 #[.int .i64 x1,.int .i64 y2] H fun r3 H4=> ∃r5,r3= .int .i64 r5∧R (.int .i64 (wrap .i64 ((wrap .i64 (x1+y2))-r5))) H4
def Tryz.p137:Plan:=(tl (tl leaf))
theorem Tryz.s137{x1 y2:Int}{H R}(h:Tryz.S137 x1 y2 H R):Tryz.C 137 #[.int .i64 x1,.int .i64 y2] H R:=vcs Tryz.tab_ok Tryz.mixed Tryz.func137 Tryz.cal137 Tryz.p137 h (by kernel_rfl)
def Tryz.S138(x1 y2:Int)(H:Heap)(R:Kv):Prop:=
 br (decide (y2<128))
 (Tryz.C 129 #[.int .i64 x1,.int .i64 (wrap .i64 ((2:Int)*y2))] H fun r3 H4=> ∃r5,r3= .int .i64 r5∧R (.int .i64 r5) H4)
 (Tryz.C 137 #[.int .i64 x1,.int .i64 (wrap .i64 ((wrap .i64 ((2:Int)*y2))-255))] H fun r6 H7=> ∃r8,r6= .int .i64 r8∧R (.int .i64 r8) H7)
def Tryz.p138:Plan:=(tl (tg (tl leaf)))
theorem Tryz.s138{x1 y2:Int}{H R}(h:Tryz.S138 x1 y2 H R):Tryz.C 138 #[.int .i64 x1,.int .i64 y2] H R:=vcs Tryz.tab_ok Tryz.mixed Tryz.func138 Tryz.cal138 Tryz.p138 h (by kernel_rfl)
end Go.Proofs
namespace Go.Proofs
open Go.Sh
mutual
def okL:Lay→Prop
 | .mk f ks=>f.p.length≤1000000000∧f.mask.length≤1000000000∧f.params.length≤1000000000∧ks.length≤1000000000∧okKs ks
def okKs:List Lay→Prop
 |[]=>True
 |t::ts=>okL t∧okKs ts
end
mutual
def cntL:Lay→Nat
 | .mk _ ks=>1+cntKs ks
def cntKs:List Lay→Nat
 |[]=>0
 |t::ts=>cntL t+cntKs ts
end
mutual
def depL:Lay→Nat
 | .mk _ ks=>1+depKs ks
def depKs:List Lay→Nat
 |[]=>0
 |t::ts=>max (depL t) (depKs ts)
end
theorem okKs_iff: ∀{ts:List Lay},okKs ts↔ ∀t∈ts,okL t
 |[]=>⟨fun _ _ h=>(by cases h),fun _=>trivial⟩
 |t::ts=>by
  rw[okKs,okKs_iff]
  simp only[List.forall_mem_cons]
theorem okL.kids{t:Lay}(h:okL t):okKs t.kids∧t.kids.length≤1000000000:=by
 cases t;rw[okL] at h;exact⟨h.2.2.2.2,h.2.2.2.1⟩
theorem cntL_pos(t:Lay):1≤cntL t:=by cases t;rw[cntL];omega
theorem len_cnt: ∀ts:List Lay,ts.length≤cntKs ts
 |[]=>Nat.le_refl _
 |t::ts=>by have:=len_cnt ts;have:=cntL_pos t;rw[cntKs,List.length_cons];omega
theorem dep_cntKs: ∀{ts:List Lay},(∀t∈ts,depL t≤cntL t)→depKs ts≤cntKs ts
 |[],_=>Nat.le_refl _
 |t::ts,h=>by
  have h1:=h t List.mem_cons_self
  have h2:=dep_cntKs fun u hu=>h u (List.mem_cons_of_mem _ hu)
  rw[depKs,cntKs];omega
theorem dep_cntL: ∀t,depL t≤cntL t:=Lay.ind fun f ks ih=>by
 have:=dep_cntKs ih
 rw[depL,cntL];omega
theorem dep_cnt(ts:List Lay):depKs ts≤cntKs ts:=dep_cntKs fun t _=>dep_cntL t
theorem cnt_mem: ∀{ts:List Lay} {t:Lay},t∈ts→cntL t≤cntKs ts
 |u::ts,t,h=>by
  rw[cntKs]
  rcases List.mem_cons.1 h with rfl|h
  ·omega
  ·have:=cnt_mem h;omega
theorem cntKs_app(a b:List Lay):cntKs (a++b)=cntKs a+cntKs b:=by
 induction a with
 |nil=>simp[cntKs]
 |cons t a ih=>rw[List.cons_append,cntKs,ih,cntKs];omega
theorem depKs_app(a b:List Lay):depKs (a++b)=max (depKs a) (depKs b):=by
 induction a with
 |nil=>simp[depKs]
 |cons t a ih=>rw[List.cons_append,depKs,ih,depKs];omega
theorem setL_all{cs l:List Value}(h:l.length=cs.length):setL cs 0 l=l:=by simp[setL,h]
variable {H0 H:Heap} {R:Value→Heap→Prop}
theorem c80{p:Option Addr}{l c:Nat}{xs:List Int}(h:IS H p l (ints xs))(hl:xs.length≤1000000000)(hR: ∀(q:Sl3) H',St H H' [.sl q.p q.l q.c 3 1 (ints xs)]→R q.v H'):
 CallsH Tryz.prog 80 #[.slice p l c] H R:=by
 have hlen:=h.length
 refine Tryz.s80 (br_none (fun hp=>?_) fun a hp=>?_)
 ·subst hp
  have:xs=[]:=List.eq_nil_iff_forall_not_mem.2 fun v hv=>by
   obtain⟨i,hi⟩:=List.getElem?_of_mem hv
   obtain⟨a,h1,_⟩:=h.get i _ (ints_get hi)
   cases h1
  subst this
  exact hR .nil H ((St.nil H).nilSl _ _)
 ·refine(St.nil H).alcE fun b2 H3 he hs=>?_
  have hs:=hs.toSl 0 (l:=0) (k:=1) (fs:=[]) rfl rfl rfl (by simp)
  refine hs.appI 0 rfl (h.ext he) (ints_one xs) rfl (by omega) (by omega) fun p' c' H' hs'=>?_
  rw[Nat.zero_add] at hs' ⊢
  exact hR ⟨p',l,c'⟩ H' hs'
theorem c97{p:Option Addr}{l c:Nat}{xs:List Int}(h:IS H p l (kints .u8 xs))(hl:xs.length≤1000000000)(hR: ∀(q:Sl3) H',St H H' [.sl q.p q.l q.c 5 1 (kints .u8 xs)]→R q.v H'):
 CallsH Tryz.prog 97 #[.slice p l c] H R:=by
 have hlen:=h.length
 refine Tryz.s97 (br_none (fun hp=>?_) fun a hp=>?_)
 ·subst hp
  have:xs=[]:=List.eq_nil_iff_forall_not_mem.2 fun v hv=>by
   obtain⟨i,hi⟩:=List.getElem?_of_mem hv
   obtain⟨a,h1,_⟩:=h.get i _ (kints_get hi)
   cases h1
  subst this
  exact hR .nil H ((St.nil H).nilSl _ _)
 ·refine(St.nil H).alcE fun b2 H3 he hs=>?_
  have hs:=hs.toSl 0 (l:=0) (k:=1) (fs:=[]) rfl rfl rfl (by simp)
  refine hs.appI 0 rfl (h.ext he) (kints_one .u8 xs) rfl (by omega) (by omega) fun p' c' H' hs'=>?_
  rw[Nat.zero_add] at hs' ⊢
  exact hR ⟨p',l,c'⟩ H' hs'
def CopyOk(t:T):Prop:= ∀{H:Heap} {R:Value→Heap→Prop},rdT H t→okL (layT t)→(∀t' H',layT t'=layT t→St H H' (resT t')→R (.agg (cellsT t').toArray) H')→CallsH Tryz.prog 66 #[.agg (cellsT t).toArray] H R
theorem all_of{ks:List T}(ih: ∀t∈ks,CopyOk t){K:Sl3}(hg:grp H K ks)(ho:okKs (layKs ks))(hl:ks.length≤1000000000)(hR: ∀(K':Sl3) ks' H',layKs ks'=layKs ks→St H H' (resG K' ks')→R K'.v H'):
 CallsH Tryz.prog 36 #[K.v] H R:=by
 show CallsH Tryz.prog 36 #[.slice K.p K.l K.c] H R
 refine Tryz.s36 ?_
 unfold Tryz.S36
 intro X hX
 have hKl:=hg.1.1
 have go: ∀k,k≤ks.length→ ∀p c H1 (built:List T),layKs built=(layKs ks).take k→St H H1 (.sl p k c 70 19 (cellsKs built)::resKs built)→X [.slice p k c,.int .i64 k] H1:=by
  refine upto fun k hk ihk p c H1 built hb hs=>hX _ _ _ _ _ (br_dec (fun hlt=>?_) fun hge=>?_)
  ·have hk':k<ks.length:=by omega
   have ht:=List.getElem?_eq_getElem hk'
   obtain⟨a,h1,h2,h3⟩:=(hg.ext hs.ext).get ht
   refine⟨a,h1,by omega,hlt,(cellsT ks[k]).toArray,by simp[cellsT_len],h2,hs.alcE fun b8 H9 he9 hs9=>⟨by simp[cellsT_len],hs9.putAll 0 rfl (by simp[cellsT_len]) (by simpa using cellsT_one _) fun H10 hs10=>?_⟩⟩
   refine⟨_,?_,rowIn_whole (hs10.block 0 rfl),?_⟩
   ·simp[cellsT_len]
   refine ih ks[k] (List.getElem_mem hk') (rdT.ext (hs10.ext) _ (rdKs_iff.1 hg.2 _ (List.getElem_mem hk'))) (okKs_iff.1 ho _ (by rw[layKs_map];exact List.mem_map_of_mem (List.getElem_mem hk'))) fun t' H13 hlay hs13=>?_
   refine⟨_,rfl,by simp[cellsT_len],by decide,?_⟩
   rw[setL_all (by simp[cellsT_len])]
   refine(hs10.callR hs13).alc fun b15 H16 hs16=>?_
   refine hs16.appC 2 0 rfl rfl (by simp[cellsT_len]) (by simpa using cellsT_one _) (by decide) rfl (by omega) (by omega) fun p' c' H18 hs18=>?_
   rw[wrap_id (by omega) (by omega)]
   refine ihk hk' p' c' H18 (built++[t']) ?_ ?_
   ·rw[layKs_app,hb,layKs_map [t'],List.take_add_one]
    have:(layKs ks)[k]?=some (layT ks[k]):=by rw[layKs_map,List.getElem?_map,ht];rfl
    rw[this,←hlay];rfl
   ·rw[cellsKs_app,cellsKs_one,resKs_app,resKs_one]
    exact hs18.drop 2
  ·have:k=ks.length:=by omega
   subst this
   rw[List.take_of_length_le (by rw[layKs_len];exact Nat.le_refl _)] at hb
   exact hR ⟨p,ks.length,c⟩ built H1 hb hs
 exact go 0 (by omega) none 0 H [] rfl ((St.nil H).nilSl _ _)
theorem c66: ∀t,CopyOk t:=by
 refine T.ind fun f P M A K ks ih=>?_
 intro H R hr ho hR
 rw[rdT] at hr
 obtain⟨hP,hM,hA,hK,hks⟩:=hr
 have ho':=ho
 rw[layT,okL] at ho'
 obtain⟨o1,o2,o3,o4,o5⟩:=ho'
 refine Tryz.s66 ?_
 unfold Tryz.S66
 refine(St.nil H).alcE fun b2 H1 he1 hs1=>hs1.alcE fun b4 H2 he2 hs2=>?_
 refine⟨_,_,_,hs2.get 1 rfl rfl,_,_,_,hs2.get 1 rfl rfl,_,_,_,hs2.get 1 rfl rfl,?_⟩
 refine c80 (hP.ext hs2.ext) o1 fun P' H3 hp3=>⟨_,_,_,rfl,.inl hp3.ext,?_⟩
 have hs3:=hs2.callR hp3
 refine c97 (hM.ext hs3.ext) o2 fun M' H4 hp4=>⟨_,_,_,rfl,.inl hp4.ext,?_⟩
 have hs4:=hs3.callR hp4
 refine c80 (hA.ext hs4.ext) o3 fun A' H5 hp5=>⟨_,_,_,rfl,?_⟩
 have hs5:=hs4.callR hp5
 refine hs5.put 1 rfl (j:=7) (Nat.le_of_ble_eq_true rfl) rfl fun H6 hs6=>hs6.put 1 rfl (j:=8) (Nat.le_of_ble_eq_true rfl) rfl fun H7 hs7=>hs7.put 1 rfl (j:=17) (Nat.le_of_ble_eq_true rfl) rfl fun H8 hs8=>?_
 refine⟨_,_,_,hs8.get 1 rfl (j:=18) rfl,?_⟩
 refine all_of ih (K:=K) (grp.ext ⟨hK,hks⟩ hs8.ext) o5 (by rw[layKs_len] at o4;exact o4) fun K' ks' H9 hlay hp9=>⟨_,_,_,rfl,?_⟩
 have hs9:=hs8.callR hp9
 refine hs9.put 1 rfl (j:=18) (Nat.le_of_ble_eq_true rfl) rfl fun H10 hs10=>?_
 refine⟨_,?_,rowIn_whole (hs10.block 1 rfl),?_,?_⟩
 ·rfl
 ·rfl
 refine hs10.putAll 0 rfl rfl (cellsL_one f P' M' A' K') fun H11 hs11=>⟨_,rfl,rowIn_whole (hs11.block 0 rfl),?_⟩
 refine hR (.mk f P' M' A' K' ks') H11 (by rw[layT,layT,hlay]) ?_
 rw[resT_mk]
 exact hs11.drop 2
theorem c36{K:Sl3}{ks:List T}(hg:grp H K ks)(ho:okKs (layKs ks))(hl:ks.length≤1000000000)(hR: ∀(K':Sl3) ks' H',layKs ks'=layKs ks→St H H' (resG K' ks')→R K'.v H'):
 CallsH Tryz.prog 36 #[K.v] H R:=all_of (fun t _=>c66 t) hg ho hl hR
end Go.Proofs
namespace Go.Proofs
open Go.Sh
variable {H0 H:Heap} {R:Value→Heap→Prop}
theorem cellsT_0(t:T):(cellsT t).toArray[0]?=some (.int .i64 t.f.id):=by cases t;rfl
theorem cellsT_18(t:T):(cellsT t).toArray[18]?=some (.slice t.K.p t.K.l t.K.c):=by cases t;rfl
def CntOk(t:T):Prop:= ∀{H:Heap} {R:Value→Heap→Prop},rdT H t→cntKs (layKs t.kids)≤1000000000000→(∀H',Ext H H'→R (.int .i64 (cntKs (layKs t.kids))) H')→CallsH Tryz.prog 70 #[t.K.v] H R
theorem take_succ{α:Type}{l:List α}{k:Nat}{x:α}(h:l[k]?=some x):l.take (k+1)=l.take k++[x]:=by rw[List.take_add_one,h];rfl
theorem layKs_get{ks:List T}{k:Nat}{t:T}(h:ks[k]?=some t):(layKs ks)[k]?=some (layT t):=by rw[layKs_map,List.getElem?_map,h];rfl
theorem cntL_T(t:T):cntL (layT t)=1+cntKs (layKs t.kids):=by cases t;rfl
theorem depL_T(t:T):depL (layT t)=1+depKs (layKs t.kids):=by cases t;rfl
theorem cnt_take(ts:List Lay)(k:Nat):cntKs (ts.take k)≤cntKs ts:=by
 have:=cntKs_app (ts.take k) (ts.drop k)
 rw[List.take_append_drop] at this;omega
theorem cnt_of{ks:List T}(ih: ∀t∈ks,CntOk t){K:Sl3}(hg:grp H K ks)(ho:cntKs (layKs ks)≤1000000000000)(hR: ∀H',Ext H H'→R (.int .i64 (cntKs (layKs ks))) H'):
 CallsH Tryz.prog 70 #[K.v] H R:=by
 show CallsH Tryz.prog 70 #[.slice K.p K.l K.c] H R
 refine Tryz.s70 ?_
 unfold Tryz.S70
 intro X hX
 have hKl:=hg.1.1
 have hlc:=len_cnt (layKs ks)
 rw[layKs_len] at hlc
 have go: ∀k,k≤ks.length→ ∀(n:Int) H1,n+k=ks.length+cntKs ((layKs ks).take k)→Ext H H1→X [.int .i64 n,.int .i64 k] H1:=by
  refine upto fun k hk ihk n H1 hn he=>hX _ _ _ (br_dec (fun hlt=>?_) fun hge=>?_)
  ·have hk':k<ks.length:=by omega
   have ht:=List.getElem?_eq_getElem hk'
   have htm:=List.getElem_mem hk'
   generalize ks[k]=t at ht htm
   obtain⟨a,h1,h2,h3⟩:=(hg.ext he).get ht
   have hcm:=cnt_mem (List.mem_of_getElem? (layKs_get ht))
   rw[cntL_T] at hcm
   refine⟨a,h1,by omega,hlt,(cellsT t).toArray,by simp[cellsT_len],h2,(St.nil H1).alc fun b8 H9 hs9=>⟨by simp[cellsT_len],hs9.putAll 0 rfl (by simp[cellsT_len]) (by simpa using cellsT_one _) fun H10 hs10=>?_⟩⟩
   refine⟨_,_,_,hs10.get 0 rfl (j:=18) (cellsT_18 t),?_⟩
   refine ih t htm (rdT.ext (he.trans hs10.ext) _ (rdKs_iff.1 hg.2 _ htm)) (by omega) fun H13 he13=>⟨_,rfl,?_⟩
   have hts:=cntKs_app ((layKs ks).take k) [layT t]
   rw[←take_succ (layKs_get ht),cntKs,cntKs,Nat.add_zero,cntL_T] at hts
   have hle:=cnt_take (layKs ks) (k+1)
   rw[wrap_id (n:=n+_) (by omega) (by omega),wrap_id (n:=(k:Int)+1) (by omega) (by omega)]
   exact ihk hk' _ _ (by omega) (he.trans (hs10.ext.trans he13))
  ·have:k=ks.length:=by omega
   subst this
   rw[List.take_of_length_le (by rw[layKs_len];exact Nat.le_refl _)] at hn
   have:n=cntKs (layKs ks):=by omega
   subst this
   exact hR H1 he
 have h0:=go 0 (by omega) ks.length H (by simp[cntKs]) (Ext.refl H)
 rw[←hKl] at h0
 exact h0
theorem cnt_all: ∀t,CntOk t:=T.ind fun f P M A K ks ih=>fun{H R} hr ho hR=>cnt_of ih (rdT.grp hr) ho hR
theorem c70{K:Sl3}{ks:List T}(hg:grp H K ks)(ho:cntKs (layKs ks)≤1000000000000)(hR: ∀H',Ext H H'→R (.int .i64 (cntKs (layKs ks))) H'):
 CallsH Tryz.prog 70 #[K.v] H R:=cnt_of (fun t _=>cnt_all t) hg ho hR
def DepOk(t:T):Prop:= ∀{H:Heap} {R:Value→Heap→Prop},rdT H t→cntKs (layKs t.kids)≤1000000000000→(∀H',Ext H H'→R (.int .i64 (depKs (layKs t.kids))) H')→CallsH Tryz.prog 100 #[t.K.v] H R
theorem dep_of{ks:List T}(ih: ∀t∈ks,DepOk t){K:Sl3}(hg:grp H K ks)(ho:cntKs (layKs ks)≤1000000000000)(hR: ∀H',Ext H H'→R (.int .i64 (depKs (layKs ks))) H'):
 CallsH Tryz.prog 100 #[K.v] H R:=by
 show CallsH Tryz.prog 100 #[.slice K.p K.l K.c] H R
 refine Tryz.s100 ?_
 unfold Tryz.S100
 intro X hX
 have hKl:=hg.1.1
 have hlc:=len_cnt (layKs ks)
 rw[layKs_len] at hlc
 have go: ∀k,k≤ks.length→ ∀H1,Ext H H1→X [.int .i64 (depKs ((layKs ks).take k)),.int .i64 k] H1:=by
  refine upto fun k hk ihk H1 he=>hX _ _ _ (br_dec (fun hlt=>?_) fun hge=>?_)
  ·have hk':k<ks.length:=by omega
   have ht:=List.getElem?_eq_getElem hk'
   have htm:=List.getElem_mem hk'
   generalize ks[k]=t at ht htm
   obtain⟨a,h1,h2,h3⟩:=(hg.ext he).get ht
   have hcm:=cnt_mem (List.mem_of_getElem? (layKs_get ht))
   rw[cntL_T] at hcm
   refine⟨a,h1,by omega,hlt,(cellsT t).toArray,by simp[cellsT_len],h2,(St.nil H1).alc fun b8 H9 hs9=>⟨by simp[cellsT_len],hs9.putAll 0 rfl (by simp[cellsT_len]) (by simpa using cellsT_one _) fun H10 hs10=>?_⟩⟩
   refine⟨_,_,_,hs10.get 0 rfl (j:=18) (cellsT_18 t),?_⟩
   refine ih t htm (rdT.ext (he.trans hs10.ext) _ (rdKs_iff.1 hg.2 _ htm)) (by omega) fun H13 he13=>⟨_,rfl,?_⟩
   have hts:=depKs_app ((layKs ks).take k) [layT t]
   rw[←take_succ (layKs_get ht),depKs,depKs,depL_T] at hts
   have hd:=dep_cnt (layKs t.kids)
   rw[wrap_id (n:=1+_) (by omega) (by omega),wrap_id (n:=(k:Int)+1) (by omega) (by omega)]
   have:=ihk hk' _ (he.trans (hs10.ext.trans he13))
   rw[hts] at this
   have e:((max (depKs ((layKs ks).take k)) (max (1+depKs (layKs t.kids)) 0):Nat):Int)=max (depKs ((layKs ks).take k):Int) (1+(depKs (layKs t.kids):Int)):=by omega
   rw[e] at this
   exact this
  ·have:k=ks.length:=by omega
   subst this
   rw[List.take_of_length_le (by rw[layKs_len];exact Nat.le_refl _)]
   exact hR H1 he
 exact go 0 (by omega) H (Ext.refl H)
theorem dep_all: ∀t,DepOk t:=T.ind fun f P M A K ks ih=>fun{H R} hr ho hR=>dep_of ih (rdT.grp hr) ho hR
theorem c100{K:Sl3}{ks:List T}(hg:grp H K ks)(ho:cntKs (layKs ks)≤1000000000000)(hR: ∀H',Ext H H'→R (.int .i64 (depKs (layKs ks))) H'):
 CallsH Tryz.prog 100 #[K.v] H R:=dep_of (fun t _=>dep_all t) hg ho hR
def sizedB(w h:Int):Bool:=decide (1≤w∧1≤h∧w≤32768∧h≤32768∧w*h≤4194304)
def docA(w h next:Int)(K:Sl3):Array Value:=#[.int .i64 w,.int .i64 h,.int .i64 next,K.v]
theorem wrap_area{w h:Int}(h1:1≤w)(h2:1≤h)(h3:w≤32768)(h4:h≤32768):IntKind.wrap .i64 (w*h)=w*h:=by
 have:=mul_bd (x:=w) (y:=h) (A:=32768) (B:=32768) (by omega) (by omega)
 exact wrap_id (by omega) (by omega)
theorem c6{w h:Int}(hR1:sizedB w h=true→ ∀H',Ext H H'→R (.tuple #[.agg (docA w h 1 .nil),.int .i64 0]) H')(hR2:sizedB w h=false→ ∀H',Ext H H'→R (.tuple #[.agg (docA 0 0 0 .nil),.int .i64 31]) H'):
 CallsH Tryz.prog 6 #[.int .i64 w,.int .i64 h] H R:=by
 refine Tryz.s6 ?_
 unfold Tryz.S6
 refine(St.nil H).alc fun b3 H4 hs4=>?_
 intro J hJ
 have bad:sizedB w h=false→(#[Value.int .i64 0,Value.int .i64 0,Value.int .i64 0,Value.slice none 0 0].size=4∧stAt H4 ⟨b3,0,none⟩ (Array.toList #[Value.int .i64 0,Value.int .i64 0,Value.int .i64 0,Value.slice none 0 0]) fun H_9=> ∃res10:Array Value,res10.size=4∧rowIn H_9 ⟨b3,0,none⟩ res10∧R (Value.tuple #[Value.agg res10,Value.int .i64 (31:Int)]) H_9):=fun hb=>
  ⟨rfl,hs4.putAll 0 rfl rfl (by simp[Value.oneCell']) fun H5 hs5=>⟨_,rfl,rowIn_whole (hs5.block 0 rfl),hR2 hb H5 hs5.ext⟩⟩
 refine br_dec (fun c1=>bad ?_) fun c1=>br_dec (fun c2=>bad ?_) fun c2=>br_dec (fun c3=>bad ?_) fun c3=>br_dec (fun c4=>bad ?_) fun c4=>?_
 ·exact decide_eq_false (by omega)
 ·exact decide_eq_false (by omega)
 ·exact decide_eq_false (by omega)
 ·exact decide_eq_false (by omega)
 rw[wrap_area (by omega) (by omega) (by omega) (by omega)]
 refine br_dec (fun c5=>bad ?_) fun c5=>hJ _ ?_
 ·exact decide_eq_false (by omega)
 refine⟨rfl,hs4.putAll 0 rfl rfl (by simp[Value.oneCell']) fun H5 hs5=>⟨_,rfl,rowIn_whole (hs5.block 0 rfl),hR1 ?_ H5 hs5.ext⟩⟩
 exact decide_eq_true ⟨by omega,by omega,by omega,by omega,by omega⟩
structure Fr where
 hdr:Sl3
 pre:List T
 f:LayF
 P:Sl3
 M:Sl3
 A:Sl3
 post:List T
def Fr.ad(fr:Fr):Option Addr:=fr.hdr.p.map fun a=>a.add (fr.pre.length*19)
abbrev Z:=List Fr×Sl3×List T
mutual
def fzT(up:List Fr)(K:Sl3)(pre post:List T)(id:Int):T→Option Z
 | .mk f P M A K' ks=>if f.id=id then some (⟨K,pre,f,P,M,A,post⟩::up,K',ks) else fzK (⟨K,pre,f,P,M,A,post⟩::up) K' [] id ks
def fzK(up:List Fr)(K:Sl3)(pre:List T)(id:Int):List T→Option Z
 |[]=>none
 |t::ts=>match fzT up K pre ts id t with
  |some z=>some z
  |none=>fzK up K (pre++[t]) id ts
end
def resZ:Option Z→Option Addr×Option Addr×Int
 |some (fr1::fr2::_,_,_)=>(fr1.ad,fr2.ad,fr1.pre.length)
 |_=>(none,none,0)
def FindOk(id:Int)(t:T):Prop:= ∀{H:Heap} {R:Value→Heap→Prop} {fr:Fr} {up:List Fr} {a:Addr},fr.ad=some a→rowIn H a (cellsT t).toArray→rdT H t→cntKs (layKs t.kids)≤1000000000000→
 (∀H',Ext H H'→(∀z,fzK (fr::up) t.K [] id t.kids=some z→(resZ (some z)).1≠none)→
  R (.tuple #[.pointer (resZ (fzK (fr::up) t.K [] id t.kids)).1,.pointer (resZ (fzK (fr::up) t.K [] id t.kids)).2.1,.int .i64 (resZ (fzK (fr::up) t.K [] id t.kids)).2.2]) H')→CallsH Tryz.prog 65 #[.pointer (some a),.int .i64 id] H R
theorem c65{id:Int}: ∀t,FindOk id t:=by
 refine T.ind fun f P M A K ks ih=>?_
 intro H R fr up a hfa hrow hr ho hR
 have hg:=rdT.grp hr
 have hKl:=hg.1.1
 have hlc:=len_cnt (layKs ks)
 rw[layKs_len] at hlc
 simp only[T.K,T.kids] at hg hKl ho hR
 refine Tryz.s65 ?_
 unfold Tryz.S65
 have hcell: ∀{H1:Heap},Ext H H1→Sh.cell H1 (a.add 18)=some (.slice K.p K.l K.c):=fun he=>he.cell (hrow 18 _ rfl)
 refine⟨a,rfl,_,_,_,hcell (Ext.refl H),?_⟩
 intro X hX
 have go: ∀k,k≤ks.length→ ∀H1,Ext H H1→fzK (fr::up) K [] id ks=fzK (fr::up) K (ks.take k) id (ks.drop k)→X [.int .i64 k] H1:=by
  refine upto fun k hk ihk H1 he hz=>hX _ _ (br_dec (fun hlt=>?_) fun hge=>?_)
  ·have hk':k<ks.length:=by omega
   have ht:=List.getElem?_eq_getElem hk'
   have htm:=List.getElem_mem hk'
   rw[List.drop_eq_getElem_cons hk'] at hz
   generalize ks[k]=t at ht htm hz
   obtain⟨b,h1,h2,h3⟩:=(hg.ext he).get ht
   have hcm:=cnt_mem (List.mem_of_getElem? (layKs_get ht))
   rw[cntL_T] at hcm
   have hlen:(ks.take k).length=k:=by rw[List.length_take];omega
   refine⟨a,rfl,_,_,_,hcell he,b,h1,by omega,hlt,_,rfl,t.f.id,h2 0 _ (cellsT_0 t),br_eq (fun hid=>?_) fun hid=>?_⟩
   ·have e:fzK (fr::up) K [] id ks=some (⟨K,ks.take k,t.f,t.P',t.M',t.A',ks.drop (k+1)⟩::fr::up,t.K,t.kids):=by
     rw[hz,fzK]
     cases t with|mk f2 P2 M2 A2 K2 ks2=>
     rw[fzT,if_pos (show f2.id=id from hid)]
     rfl
    have:=hR H1 he fun z hz=>by rw[e] at hz;cases hz;simp[resZ,Fr.ad,h1]
    rw[e] at this
    simp only[resZ,Fr.ad,h1,hfa,Option.map_some,hlen] at this
    have hfa':=hfa
    unfold Fr.ad at hfa'
    rw[hfa'] at this
    exact this
   ·have e: ∀(o:Option Z),fzK (⟨K,ks.take k,t.f,t.P',t.M',t.A',ks.drop (k+1)⟩::fr::up) t.K [] id t.kids=o→fzK (fr::up) K [] id ks=(match o with|some z=>some z|none=>fzK (fr::up) K (ks.take (k+1)) id (ks.drop (k+1))):=fun o ho=>by
     rw[hz,fzK,take_succ ht,←ho]
     cases t with|mk f2 P2 M2 A2 K2 ks2=>
     rw[fzT,if_neg (show ¬f2.id=id from hid)]
     rfl
    refine ih t htm (fr:=⟨K,ks.take k,t.f,t.P',t.M',t.A',ks.drop (k+1)⟩) (up:=fr::up) (by unfold Fr.ad;rw[h1,hlen];rfl) h2 h3 (by omega) fun H2 he2 hne=>?_
    refine⟨_,_,_,rfl,?_⟩
    cases hq:fzK (⟨K,ks.take k,t.f,t.P',t.M',t.A',ks.drop (k+1)⟩::fr::up) t.K [] id t.kids with
    |none=>
     refine br_f rfl ?_
     rw[wrap_id (by omega) (by omega)]
     exact ihk hk' H2 (he.trans he2) (e _ hq)
    |some z=>
     have hs:fzK (fr::up) K [] id ks=some z:=e _ hq
     have hn:=hne z hq
     have:=hR H2 (he.trans he2) fun z' hz'=>by rw[hs] at hz';cases hz';exact hn
     rw[hs] at this
     refine br_t ?_ this
     cases h4:(resZ (some z)).1 with
     |none=>exact absurd h4 hn
     |some _=>rfl
  ·have:k=ks.length:=by omega
   subst this
   rw[List.drop_of_length_le (Nat.le_refl _),fzK] at hz
   have:=hR H1 he fun z hz'=>by rw[hz] at hz';cases hz'
   rw[hz] at this
   exact this
 exact go 0 (by omega) H (Ext.refl H) rfl
end Go.Proofs
namespace Go.Sh
variable {H0 H H':Heap} {σ τ:List Rs}
theorem St.slRow(hs:St H0 H σ)(i:Nat){b l c k j l':Nat}{el:TypeId}{fs fs' vs:List Value}{f:Heap→Prop}(hi:σ[i]?=some (.sl (some ⟨b,0,none⟩) l c el k fs))(hj:j+vs.length≤c*k)(ho: ∀v∈vs,v.oneCell'=true)
 (hl':l'≤c)(hlen:fs'.length=l'*k)(hone: ∀v∈fs',v.oneCell'=true)(hget: ∀(x:Nat) v,fs'[x]?=some v→(if j≤x∧x<j+vs.length then vs[x-j]? else fs[x]?)=some v)
 (hK: ∀H',St H0 H' (σ.set i (.sl (some ⟨b,0,none⟩) l' c el k fs'))→f H'):stAt H ⟨b,j,none⟩ vs f:=by
 have hfs:=hs.fs i hi
 rcases hfs.at_ with ⟨h1,_⟩|⟨blk,cs,h1,h2,h3,h4,h5⟩
 ·cases h1
 ·cases h1
  refine stAt_some h3 (by omega) ho fun c' hc' hg=>hK _ ?_
  refine hs.slSet hi ⟨hlen,hl',hone,.inr ⟨b,c',rfl,Nat.zero_le _,get_set_self h3,by rw[hc',h4],fun x v hv=>?_⟩⟩ (fun b' o ho' hne=>get_set_ne (fun he=>hne (by rw[he])) ho') (.inl rfl)
  rw[hg]
  have:=hget x v hv
  split at this
  ·rename_i hc;rw[if_pos hc];exact this
  ·rename_i hc;rw[if_neg hc];exact h5 x v this
theorem RS.rowPart{H:Heap}{b l k:Nat}{el:TypeId}{fs:List Value}(h:RS H (some ⟨b,0,none⟩) l el k fs)(j n:Nat)(hj:j+n≤fs.length):Go.Sh.rowOf H (some ⟨b,j,none⟩) n ((fs.drop j).take n).toArray:=by
 refine⟨by simp;omega,fun x v hv=>?_⟩
 rw[add_none]
 rw[List.getElem?_toArray] at hv
 have hx:=(List.getElem?_eq_some_iff.1 hv).1
 rw[List.length_take,List.length_drop] at hx
 rw[List.getElem?_take_of_lt (by omega),List.getElem?_drop] at hv
 obtain⟨blk,h1,h2⟩:=h.cell hv
 cases h1;exact h2
theorem St.appZnew(hs:St H0 H σ){p:Option Addr}{l c k bytes:Nat}{n:Int}{el:TypeId}{zero:Array Value}{fs:List Value}(hrow:rowOf H p (l*k) fs.toArray)(hfl:fs.length=l*k)(hfo: ∀v∈fs,v.oneCell'=true)(hk:0<k)(hz:zero.size=k)(hzo: ∀v∈zero.toList,v.oneCell'=true)
 (hn:0≤n)(hb:(l+n.toNat)*bytes≤70368744177664)(hm:l+n.toNat≤1000000000000)(hc:c<l+n.toNat){K:Option Addr→Nat→Nat→Heap→Prop}
 (hK: ∀b c' H',St H0 H' (.sl (some ⟨b,0,none⟩) (l+n.toNat) c' el k (fs++reps n.toNat zero.toList)::σ)→K (some ⟨b,0,none⟩) (l+n.toNat) c' H'):appZ k bytes zero H p l c n el K:=by
 refine⟨hn,by omega,hb,by omega,fun h=>by omega,fun _=>⟨fs.toArray,hrow,fun c' hc'=>?_⟩⟩
 have hlen:(fs++reps n.toNat zero.toList).length=(l+n.toNat)*k:=by rw[List.length_append,hfl,reps_length,Array.length_toList,hz,Nat.add_mul]
 have hro: ∀m,∀v∈reps m zero.toList,v.oneCell'=true:=fun m=>by
  induction m with
  |zero=>intro v hv;cases hv
  |succ m ih=>intro v hv;rw[reps,List.mem_append] at hv;exact hv.elim (hzo v) (ih v)
 refine hK H.size c' _ (hs.newSl (Ext.push _ _) ⟨hlen,hc',fun v hv=>(List.mem_append.1 hv).elim (hfo v) (hro _ v),.inr ⟨H.size,_,rfl,Nat.le_refl _,get_push_self _ _,?_,fun i v hv=>?_⟩⟩)
 ·rw[zeroCells_eq _ _ (by omega)]
  simp only[Array.size_append,List.size_toArray,reps_length,Array.length_toList,hz,hfl]
  rw[←Nat.add_mul,←Nat.add_mul]
  congr 1;omega
 ·have hi:=(List.getElem?_eq_some_iff.1 hv).1
  rw[Array.getElem?_append_left (by simp[reps_length,hfl,hz];rw[hlen,Nat.add_mul] at hi;omega)]
  have:(fs.toArray++(reps n.toNat zero.toList).toArray).toList=fs++reps n.toNat zero.toList:=by simp
  rw[←Array.getElem?_toList,this]
  exact hv
end Go.Sh
namespace Go.Proofs
open Go.Sh
variable {H0 H:Heap} {σ:List Rs} {R:Value→Heap→Prop}
theorem c121{a b:Addr}{la ca lb cb:Nat}(hne:a.block≠b.block){x y:Array Value}{tx ty:TypeId}(hx:H[a.block]?=some (.cells x tx (0,0)))(hy:H[b.block]?=some (.cells y ty (0,0)))(hy0:y.size≠0)(hR:R (.bool false) H):
 CallsH Tryz.prog 121 #[.slice (some a) la ca,.slice (some b) lb cb] H R:=by
 refine .inr fun w hw=>⟨.bool false,w,?_,rfl,Out.refl w,by rw[hw];exact hR⟩
 have hsl:Tryz.prog.underlying 24=some (.slice 70):=by kernel_rfl
 have hsa:w.shape? a.block=some (tx,x.size):=by unfold World.shape?;rw[hw,hx]
 have hsb:w.shape? b.block=some (ty,y.size):=by unfold World.shape?;rw[hw,hy]
 have hfa: ∀o,w.frozen? {block:=a.block,off:=o}=false:=fun o=>by unfold World.frozen?;simp only[hw,hx];simp
 rw[run_callFunc_extern Tryz.func121 (by kernel_rfl) (by kernel_rfl) (by kernel_rfl) (e:=Extern.SlicesOverlaps.overlaps #[24,24] #[4]) (by kernel_rfl),
  Lib.run_overlaps_apart w 24 4 70 hsl 19 (fun w=>(Tryz.tok70).sizeOf w) a b la ca lb cb hne tx ty x.size y.size hsa hsb hy0 (hfa a.off) (hfa x.size)]
 rfl
end Go.Proofs
namespace Go.Proofs
open Go.Sh
variable {H0 H:Heap} {σ:List Rs} {R:Value→Heap→Prop}
theorem setL_app(A B v:List Value){n:Nat}(h:A.length=n):setL (A++B) n v=A++v++B.drop v.length:=by
 subst h
 simp[setL]
theorem offP{b n c k:Nat}(h:c≠n):(if c=n then some (⟨b,0,none⟩:Addr) else Option.map (fun x=>Addr.add x (n*k)) (some ⟨b,0,none⟩))=some ⟨b,n*k,none⟩:=by
 rw[if_neg h];simp
theorem offP0{b c:Nat}:(if c=0 then some (⟨b,0,none⟩:Addr) else Option.map (fun x=>Addr.add x 0) (some ⟨b,0,none⟩))=some ⟨b,0,none⟩:=by
 split
 ·rfl
 ·simp
theorem copS{H:Heap}{a:Addr}{xs:Array Value}{K:Heap→Prop}(h:stAt H a xs.toList K):copQ H (some a) xs K:=h
theorem _root_.Go.Sh.St.slIn(hs:St H0 H σ)(i:Nat){b l c k j:Nat}{el:TypeId}{fs vs:List Value}{f:Heap→Prop}(hi:σ[i]?=some (.sl (some ⟨b,0,none⟩) l c el k fs))(hj:j+vs.length≤fs.length)(ho: ∀v∈vs,v.oneCell'=true)
 (hK: ∀H',St H0 H' (σ.set i (.sl (some ⟨b,0,none⟩) l c el k (setL fs j vs)))→f H'):stAt H ⟨b,j,none⟩ vs f:=by
 have hf:=hs.fs i hi
 have hlc:=Nat.mul_le_mul_right k hf.le
 have hlen:=hf.len
 refine hs.slRow i hi (by omega) ho hf.le (by rw[setL_len hj];exact hlen) (fun v hv=>?_) (fun x v hv=>by rw[setL_get hj] at hv;exact hv) hK
 unfold setL at hv
 simp only[List.mem_append] at hv
 rcases hv with (hv|hv)|hv
 ·exact hf.one v (List.mem_of_mem_take hv)
 ·exact ho v hv
 ·exact hf.one v (List.mem_of_mem_drop hv)
theorem c99{K:Sl3}{i b:Nat}{cs:Array Value}{fs:List Value}(hs:St H0 H (.sl K.p K.l K.c 70 19 fs:: .cell b cs 70::σ))(hcs:cs.size=19)(hco: ∀v∈cs.toList,v.oneCell'=true)(hi:i≤K.l)(hl:K.l≤1000000000)
 (hR: ∀(K':Sl3) H',K'.l=K.l+1→St H0 H' (.sl K'.p K'.l K'.c 70 19 (fs.take (i*19)++cs.toList++fs.drop (i*19)):: .cell b cs 70::σ)→R K'.v H'):
 CallsH Tryz.prog 99 #[K.v,.int .i64 i,.slice (some ⟨b,0,none⟩) 1 1] H R:=by
 obtain⟨p,l,c⟩:=K
 simp only at hs hi hl hR
 show CallsH Tryz.prog 99 #[.slice p l c,.int .i64 i,.slice (some ⟨b,0,none⟩) 1 1] H R
 have hfl:=(hs.fs 0 rfl).len
 have hfo:=(hs.fs 0 rfl).one
 have hlc:=(hs.fs 0 rfl).le
 refine Tryz.s99 ?_
 unfold Tryz.S99
 refine⟨by omega,by omega,br_eq (fun h=>absurd h (by decide)) fun _=>br_eq (fun h=>?_) fun h=>?_⟩
 ·have:i=l:=by omega
  subst this
  refine hs.appC 0 1 rfl rfl (by rw[hcs]) hco (by decide) rfl (by omega) (by omega) fun p' c' H' hs'=>?_
  refine hR ⟨p',i+1,c'⟩ H' rfl ?_
  rw[List.take_of_length_le (by omega),List.drop_of_length_le (by omega),List.append_nil]
  exact hs'
 ·have hil:i<l:=by omega
  obtain⟨b0,rfl⟩:=hs.slSome 0 (j:=0) rfl (by omega)
  rw[wrap_id (n:=(l:Int)+((1:Nat):Int)) (by omega) (by omega),wrap_id (n:=(l:Int)+((1:Nat):Int)-(i:Int)) (by omega) (by omega),wrap_id (n:=(i:Int)+((1:Nat):Int)) (by omega) (by omega)]
  have t1:Int.toNat ((i:Int)+((1:Nat):Int))=i+1:=by omega
  have t2:Int.toNat (i:Int)=i:=rfl
  have t3:Int.toNat ((l:Int)+((1:Nat):Int))=l+1:=by omega
  have t4:Int.toNat (l:Int)=l:=rfl
  simp only[t1,t2,t3,t4,Nat.sub_zero,Nat.zero_mul,offP0]
  have hdl:(fs.drop (i*19)).length=(l-i)*19:=by rw[List.length_drop];omega
  have hdo: ∀v∈fs.drop (i*19),v.oneCell'=true:=fun v hv=>hfo v (List.mem_of_mem_drop hv)
  have htl:(fs.take (i*19)).length=i*19:=by rw[List.length_take];omega
  refine br_dec (fun hgrow=>?_) fun hfit=>?_
  ·refine⟨by omega,by omega,?_⟩
   have hr0:=(hs.rs 0 rfl).rowPart 0 (i*19) (by omega)
   rw[List.drop_zero] at hr0
   have hn:Int.toNat ((l:Int)+((1:Nat):Int)-(i:Int))=l+1-i:=by omega
   refine hs.appZnew (bytes:=216) hr0 htl (fun v hv=>hfo v (List.mem_of_mem_take hv)) (by decide) rfl (cellsL_one ⟨0,0,false,0,0,0,0,[],[],⟨0,0,0,0,0,0⟩,false,0,[]⟩ .nil .nil .nil .nil) (by omega) (by omega) (by omega) (by omega) fun b' c' H7 hs7=>?_
   rw[hn] at hs7 ⊢
   have hc7:=(hs7.fs 0 rfl).le
   rw[show i+(l+1-i)=l+1 from by omega] at hs7 hc7 ⊢
   refine⟨by omega,by omega,cs,?_,?_⟩
   ·rw[show min 1 (l+1-i)=1 from by omega]
    exact⟨by rw[hcs],rowIn_whole (hs7.block 2 rfl)⟩
   rw[offP (show c'≠i by omega)]
   have hzl:(reps (l+1-i) (cellsL ⟨0,0,false,0,0,0,0,[],[],⟨0,0,0,0,0,0⟩,false,0,[]⟩ Sl3.nil.v Sl3.nil.v Sl3.nil.v Sl3.nil.v)).length=(l+1-i)*19:=by rw[reps_length];rfl
   refine copS (hs7.slIn 0 rfl (by
    have h19:cs.toList.length=19:=by simpa using hcs
    have e:(fs.take (i*19)++reps (l+1-i) (cellsL ⟨0,0,false,0,0,0,0,[],[],⟨0,0,0,0,0,0⟩,false,0,[]⟩ Sl3.nil.v Sl3.nil.v Sl3.nil.v Sl3.nil.v)).length=i*19+(l+1-i)*19:=by rw[List.length_append,htl,hzl]
    rw[h19]
    refine Nat.le_trans ?_ (Nat.le_of_eq e.symm)
    omega) hco fun H9 hs9=>⟨by omega,by omega,by omega,by omega,(fs.drop (i*19)).toArray,?_,?_⟩)
   ·rw[show min (l-i) (l+1-(i+1))=l-i from by omega,offP (show c≠i by omega)]
    have h1:=(hs9.rs 1 rfl).rowPart (i*19) ((l-i)*19) (by omega)
    rw[List.take_of_length_le (by omega)] at h1
    exact h1
   rw[offP (show c'≠i+1 by omega)]
   have h19:cs.toList.length=19:=by simpa using hcs
   have e1:setL (fs.take (i*19)++reps (l+1-i) (cellsL ⟨0,0,false,0,0,0,0,[],[],⟨0,0,0,0,0,0⟩,false,0,[]⟩ Sl3.nil.v Sl3.nil.v Sl3.nil.v Sl3.nil.v)) (i*19) cs.toList=fs.take (i*19)++cs.toList++(reps (l+1-i) (cellsL ⟨0,0,false,0,0,0,0,[],[],⟨0,0,0,0,0,0⟩,false,0,[]⟩ Sl3.nil.v Sl3.nil.v Sl3.nil.v Sl3.nil.v)).drop 19:=by rw[setL_app _ _ _ htl,h19]
   have hs9:St H0 H9 (.sl (some ⟨b',0,none⟩) (l+1) c' 70 19 (fs.take (i*19)++cs.toList++(reps (l+1-i) (cellsL ⟨0,0,false,0,0,0,0,[],[],⟨0,0,0,0,0,0⟩,false,0,[]⟩ Sl3.nil.v Sl3.nil.v Sl3.nil.v Sl3.nil.v)).drop 19):: .sl (some ⟨b0,0,none⟩) l c 70 19 fs:: .cell b cs 70::σ):=by rw[←e1];exact hs9
   have e3:((reps (l+1-i) (cellsL ⟨0,0,false,0,0,0,0,[],[],⟨0,0,0,0,0,0⟩,false,0,[]⟩ Sl3.nil.v Sl3.nil.v Sl3.nil.v Sl3.nil.v)).drop 19).length=(l-i)*19:=by rw[List.length_drop,hzl];omega
   have hacl:(fs.take (i*19)++cs.toList).length=(i+1)*19:=by rw[List.length_append,htl,h19];omega
   refine copS (hs9.slIn 0 rfl (by
    rw[List.length_append,hacl,e3]
    show(i+1)*19+(fs.drop (i*19)).length≤_
    rw[hdl];exact Nat.le_refl _) (by simpa using hdo) fun H11 hs11=>?_)
   refine hR ⟨some ⟨b',0,none⟩,l+1,c'⟩ H11 rfl ?_
   have e2:setL (fs.take (i*19)++cs.toList++(reps (l+1-i) (cellsL ⟨0,0,false,0,0,0,0,[],[],⟨0,0,0,0,0,0⟩,false,0,[]⟩ Sl3.nil.v Sl3.nil.v Sl3.nil.v Sl3.nil.v)).drop 19) ((i+1)*19) (fs.drop (i*19))=fs.take (i*19)++cs.toList++fs.drop (i*19):=by
    rw[setL_app _ _ _ hacl,List.drop_of_length_le (l:=(reps (l+1-i) (cellsL ⟨0,0,false,0,0,0,0,[],[],⟨0,0,0,0,0,0⟩,false,0,[]⟩ Sl3.nil.v Sl3.nil.v Sl3.nil.v Sl3.nil.v)).drop 19) (by rw[e3,hdl];exact Nat.le_refl _),List.append_nil]
   rw[←e2]
   exact St.del hs11 1
  ·refine⟨by omega,by omega,by omega,by omega,?_⟩
   rw[offP (show c≠i+1 by omega)]
   have hb0:=(hs.fs 0 rfl).at_
   rcases hb0 with ⟨h1,_⟩|⟨blk,cs0,h1,_,h3,h4,h5⟩
   ·cases h1
   cases h1
   have hbb:=hs.block 1 rfl
   have hne:b≠b0:=by
    obtain⟨_,fps,hl,hn,_⟩:=hs
    match fps,hl with
    |f::g::fps,hl=>
     have hf:=Rs.sl_at hl.1 rfl
     have hg:=hl.2.1.1
     rw[hf,hg] at hn
     simp only[List.flatten_cons,List.cons_append,List.nil_append,List.nodup_cons,List.mem_cons] at hn
     exact fun h=>hn.1 (.inl h.symm)
   refine c121 (a:=⟨b,0,none⟩) (b:=⟨b0,(i+1)*19,none⟩) hne hbb h3 (by omega) ⟨false,rfl,br_t rfl ?_⟩
   refine⟨by omega,by omega,by omega,by omega,(fs.drop (i*19)).toArray,?_,?_⟩
   ·rw[show min (l+1-i) (l+1-(i+1))=l-i from by omega,offP (show c≠i by omega)]
    have h1:=(hs.rs 0 rfl).rowPart (i*19) ((l-i)*19) (by omega)
    rw[List.take_of_length_le (by omega)] at h1
    exact h1
   have htl2:(fs.take ((i+1)*19)).length=(i+1)*19:=by rw[List.length_take];omega
   refine copS (hs.slRow 0 rfl (l':=l+1) (fs':=fs.take ((i+1)*19)++fs.drop (i*19)) (by simp only[List.toList_toArray];omega) (by simpa using hdo) (by omega) (by rw[List.length_append,htl2,hdl];omega)
    (fun v hv=>(List.mem_append.1 hv).elim (fun h=>hfo v (List.mem_of_mem_take h)) (hdo v)) (fun x v hv=>?_) fun H16 hs16=>?_)
   ·simp only[List.toList_toArray]
    rw[List.getElem?_append] at hv
    split at hv
    ·rename_i hx
     rw[if_neg (by omega)]
     rw[List.getElem?_take_of_lt (by omega)] at hv
     exact hv
    ·rename_i hx
     have:=(List.getElem?_eq_some_iff.1 hv).1
     rw[if_pos (by omega)]
     rw[htl2] at hv
     exact hv
   have h19:cs.toList.length=19:=by simpa using hcs
   refine⟨by omega,by omega,cs,?_,?_⟩
   ·rw[show min 1 (l+1-i)=1 from by omega]
    exact⟨by rw[hcs],rowIn_whole (hs16.block 1 rfl)⟩
   rw[offP (show c≠i by omega)]
   refine copS (hs16.slIn 0 rfl (by rw[List.length_append,htl2,hdl,h19];omega) hco fun H18 hs18=>?_)
   refine hR ⟨some ⟨b0,0,none⟩,l+1,c⟩ H18 rfl ?_
   have e2:setL (fs.take ((i+1)*19)++fs.drop (i*19)) (i*19) cs.toList=fs.take (i*19)++cs.toList++fs.drop (i*19):=by
    have e3:fs.take ((i+1)*19)=fs.take (i*19)++(fs.drop (i*19)).take 19:=by rw[show(i+1)*19=i*19+19 from by omega,List.take_add]
    rw[e3,List.append_assoc,setL_app _ _ _ htl,h19,List.drop_append_of_le_length (by rw[List.length_take];omega),List.drop_of_length_le (by rw[List.length_take];omega),List.nil_append]
   rw[←e2]
   exact hs18
theorem c72{K:Sl3}{i:Nat}{fs:List Value}(hs:St H0 H (.sl K.p K.l K.c 70 19 fs::σ))(hi:i<K.l)(hl:K.l≤1000000000)
 (hR: ∀(K':Sl3) H',K'.l=K.l-1→St H0 H' (.sl K'.p K'.l K'.c 70 19 (fs.take (i*19)++fs.drop ((i+1)*19))::σ)→R K'.v H'):
 CallsH Tryz.prog 72 #[K.v,.int .i64 i,.int .i64 ((i:Int)+1)] H R:=by
 obtain⟨p,l,c⟩:=K
 simp only at hs hi hl hR
 show CallsH Tryz.prog 72 #[.slice p l c,.int .i64 i,.int .i64 ((i:Int)+1)] H R
 have hfl:=(hs.fs 0 rfl).len
 have hfo:=(hs.fs 0 rfl).one
 have hlc:=(hs.fs 0 rfl).le
 obtain⟨b0,rfl⟩:=hs.slSome 0 (j:=0) rfl (by omega)
 refine Tryz.s72 ?_
 unfold Tryz.S72
 have t1:Int.toNat ((i:Int)+1)=i+1:=by omega
 have t2:Int.toNat (i:Int)=i:=rfl
 have t4:Int.toNat (l:Int)=l:=rfl
 simp only[t1,t2,t4,Nat.sub_zero,Nat.zero_mul,offP0]
 refine⟨by omega,by omega,by omega,by omega,by omega,by omega,br_eq (fun h=>by omega) fun _=>⟨by omega,by omega,by omega,by omega,?_⟩⟩
 have hdl:(fs.drop ((i+1)*19)).length=(l-(i+1))*19:=by rw[List.length_drop];omega
 have hdo: ∀v∈fs.drop ((i+1)*19),v.oneCell'=true:=fun v hv=>hfo v (List.mem_of_mem_drop hv)
 have htl:(fs.take (i*19)).length=i*19:=by rw[List.length_take];omega
 refine⟨by omega,by omega,(fs.drop ((i+1)*19)).toArray,?_,fun _=>?_,fun h=>by omega⟩
 ·have h1:=(hs.rs 0 rfl).rowPart ((i+1)*19) ((l-(i+1))*19) (by omega)
  rw[List.take_of_length_le (by omega)] at h1
  by_cases hc:c=i+1
  ·have hn:fs.drop ((i+1)*19)=[]:=List.drop_of_length_le (by omega)
   have hz:l-(i+1)=0:=by omega
   rw[if_pos hc,hn,hz]
   exact⟨rfl,fun j v hv=>by simp at hv⟩
  ·rw[offP hc];exact h1
 show stAt H ((⟨b0,0,none⟩:Addr).add (i*19)) _ _
 rw[add_none,Nat.zero_add]
 -- the row moves down;what was last stays behind
 refine hs.slRow 0 rfl (l':=l) (fs':=fs.take (i*19)++fs.drop ((i+1)*19)++fs.drop ((l-1)*19)) (by simp only[List.toList_toArray];omega) (by simpa using hdo) (by omega) (by rw[List.length_append,List.length_append,htl,hdl,List.length_drop];omega)
  (fun v hv=>by
   simp only[List.mem_append] at hv
   rcases hv with (hv|hv)|hv
   ·exact hfo v (List.mem_of_mem_take hv)
   ·exact hdo v hv
   ·exact hfo v (List.mem_of_mem_drop hv)) (fun x v hv=>?_) fun H5 hs5=>?_
 ·simp only[List.toList_toArray]
  rw[List.getElem?_append] at hv
  have hab:(fs.take (i*19)++fs.drop ((i+1)*19)).length=(l-1)*19:=by rw[List.length_append,htl,hdl];omega
  rw[hab] at hv
  split at hv
  ·rename_i hx
   rw[List.getElem?_append] at hv
   split at hv
   ·rename_i hx2
    rw[if_neg (by omega)]
    rw[List.getElem?_take_of_lt (by omega)] at hv
    exact hv
   ·rename_i hx2
    rw[if_pos (by omega)]
    rw[htl] at hv
    exact hv
  ·rename_i hx
   rw[if_neg (by omega)]
   rw[List.getElem?_drop] at hv
   rw[show x=(l-1)*19+(x-(l-1)*19) from by omega]
   exact hv
 have t7:Int.toNat ((l-1:Nat):Int)=l-1:=rfl
 have t6:i+(l-(i+1))=l-1:=by omega
 simp only[t6,t7]
 refine⟨by omega,by omega,by omega,by omega,fun h=>by omega,fun _=>?_⟩
 rw[offP (show c≠l-1 by omega),show l-(l-1)=1 from by omega]
 have hab:(fs.take (i*19)++fs.drop ((i+1)*19)).length=(l-1)*19:=by rw[List.length_append,htl,hdl];omega
 have hone:=cellsL_one ⟨0,0,false,0,0,0,0,[],[],⟨0,0,0,0,0,0⟩,false,0,[]⟩ .nil .nil .nil .nil
 refine hs5.slRow 0 rfl (l':=l-1) (fs':=fs.take (i*19)++fs.drop ((i+1)*19)) ?_ ?_ (by omega) hab
  (fun v hv=>by
   simp only[List.mem_append] at hv
   rcases hv with hv|hv
   ·exact hfo v (List.mem_of_mem_take hv)
   ·exact hdo v hv) (fun x v hv=>?_) fun H6 hs6=>?_
 ·show(l-1)*19+19≤c*19;omega
 ·exact hone
 ·have hx:=(List.getElem?_eq_some_iff.1 hv).1
  rw[hab] at hx
  rw[if_neg (by omega),List.getElem?_append_left (by rw[hab];exact hx)]
  exact hv
 exact hR ⟨some ⟨b0,0,none⟩,l-1,c⟩ H6 rfl hs6
end Go.Proofs
namespace Go.Sh
variable {H0 H H':Heap} {σ τ:List Rs}
theorem permC{α:Type}{a b:List α}(h: ∀(_:DecidableEq α) (x:α),a.count x=b.count x):a.Perm b:=by
 haveI:DecidableEq α:=fun a b=>Classical.propDecidable (a=b)
 exact List.perm_iff_count.2 (h inferInstance)
theorem perm_front{r:Rs}: ∀(l:List Rs) (i:Nat),l[i]?=some r→l.Perm (r::l.eraseIdx i)∧ ∀r',(l.set i r').Perm (r'::l.eraseIdx i)
 |[],i,h=>by simp at h
 |x::l,0,h=>by simp at h;subst h;exact⟨List.Perm.refl _,fun _=>List.Perm.refl _⟩
 |x::l,i+1,h=>by
  obtain⟨h1,h2⟩:=perm_front l i (by simpa using h)
  exact⟨(h1.cons x).trans (List.Perm.swap _ _ _),fun r'=>((h2 r').cons x).trans (List.Perm.swap _ _ _)⟩
theorem St.two(hs:St H0 H σ)(i m:Nat){r s:Rs}(hi:σ[i]?=some r)(hm:σ[m]?=some s)(hne:m≠i): ∃σ2,St H0 H (r::s::σ2)∧ ∀{H' r'},St H0 H' (r'::s::σ2)→St H0 H' (σ.set i r'):=by
 obtain⟨h1,h2⟩:=perm_front σ i hi
 have hm':(σ.eraseIdx i)[if m<i then m else m-1]?=some s:=by
  rw[List.getElem?_eraseIdx]
  by_cases h:m<i
  ·rw[if_pos h,if_pos h];exact hm
  ·rw[if_neg h,if_neg (by omega),show m-1+1=m from by omega];exact hm
 obtain⟨h3,_⟩:=perm_front _ _ hm'
 exact⟨_,hs.perm (h1.trans (h3.cons r)),fun hs'=>hs'.perm ((h3.symm.cons _).trans (h2 _).symm)⟩
theorem St.one(hs:St H0 H σ)(i:Nat){r:Rs}(hi:σ[i]?=some r): ∃σ2,St H0 H (r::σ2)∧ ∀{H' r'},St H0 H' (r'::σ2)→St H0 H' (σ.set i r'):=by
 obtain⟨h1,h2⟩:=perm_front σ i hi
 exact⟨_,hs.perm h1,fun hs'=>hs'.perm (h2 _).symm⟩
theorem St.elCell(hs:St H0 H σ)(i:Nat){p:Option Addr}{l c n:Nat}{el:TypeId}{A cs B:List Value}(hi:σ[i]?=some (.sl p l c el 19 (A++cs++B)))(hA:A.length=n*19){j:Nat}{v:Value}(hv:cs[j]?=some v){a:Addr}(ha:p.map (fun a=>a.add (n*19))=some a):
 Sh.cell H (a.add j)=some v:=by
 have hj:=(List.getElem?_eq_some_iff.1 hv).1
 obtain⟨blk,h1,h2⟩:=(hs.rs i hi).cell (i:=n*19+j) (v:=v) (by
  rw[List.append_assoc,List.getElem?_append_right (by omega),hA,show n*19+j-n*19=j from by omega,List.getElem?_append_left hj];exact hv)
 subst h1
 cases ha
 show Sh.cell H (((⟨blk,0,none⟩:Addr).add (n*19)).add j)=some v
 rw[add_none,add_none,Nat.zero_add]
 exact h2
theorem St.elRow(hs:St H0 H σ)(i:Nat){p:Option Addr}{l c n:Nat}{el:TypeId}{A cs B:List Value}(hi:σ[i]?=some (.sl p l c el 19 (A++cs++B)))(hA:A.length=n*19){a:Addr}(ha:p.map (fun a=>a.add (n*19))=some a):
 rowIn H a cs.toArray:=fun j v hv=>hs.elCell i hi hA (by simpa using hv) ha
theorem St.elAd(hs:St H0 H σ)(i:Nat){p:Option Addr}{l c n:Nat}{el:TypeId}{A cs B:List Value}(hi:σ[i]?=some (.sl p l c el 19 (A++cs++B)))(hc:cs.length=19): ∃a,p.map (fun a=>a.add (n*19))=some a:=by
 obtain⟨b,h⟩:=hs.slSome i (j:=0) hi (by simp;omega)
 rw[h];exact⟨_,rfl⟩
theorem St.elPut(hs:St H0 H σ)(i:Nat){p:Option Addr}{l c n:Nat}{el:TypeId}{A cs B:List Value}(hi:σ[i]?=some (.sl p l c el 19 (A++cs++B)))(hA:A.length=n*19){j:Nat}(hj:j<cs.length){v:Value}(hv:v.oneCell'=true){a:Addr}(ha:p.map (fun a=>a.add (n*19))=some a)
 {f:Heap→Prop}(hK: ∀H',St H0 H' (σ.set i (.sl p l c el 19 (A++cs.set j v++B)))→f H'):stAt H (a.add j) [v] f:=by
 obtain⟨b,hb⟩:=hs.slSome i (j:=0) hi (by simp;omega)
 subst hb
 cases ha
 show stAt H (((⟨b,0,none⟩:Addr).add (n*19)).add j) [v] f
 rw[add_none,add_none,Nat.zero_add]
 refine hs.slPut i hi (by simp;omega) hv fun H' hs'=>hK H' ?_
 rw[List.append_assoc,List.set_append_right _ _ (by omega),hA,show n*19+j-n*19=j from by omega,List.set_append_left _ _ hj,←List.append_assoc] at hs'
 exact hs'
end Go.Sh
namespace Go.Proofs
open Go.Sh
variable {H0 H:Heap} {σ:List Rs} {R:Value→Heap→Prop}
def Fr.cells(fr:Fr)(K:Sl3):List Value:=cellsL fr.f fr.P.v fr.M.v fr.A.v K.v
def Fr.node(fr:Fr)(K:Sl3)(ks:List T):T:= .mk fr.f fr.P fr.M fr.A K ks
def plugZ:List Fr→Sl3→List T→Sl3×List T
 |[],K,ks=>(K,ks)
 |fr::up,K,ks=>plugZ up fr.hdr (fr.pre++fr.node K ks::fr.post)
def resFr(fr:Fr)(K:Sl3):List Rs:=
 .sl fr.hdr.p fr.hdr.l fr.hdr.c 70 19 (cellsKs fr.pre++fr.cells K++cellsKs fr.post):: .sl fr.P.p fr.P.l fr.P.c 3 1 (ints fr.f.p):: .sl fr.M.p fr.M.l fr.M.c 5 1 (kints .u8 fr.f.mask):: .sl fr.A.p fr.A.l fr.A.c 3 1 (ints fr.f.params)::(resKs fr.pre++resKs fr.post)
def resUp:List Fr→Sl3→List Rs
 |[],_=>[]
 |fr::up,K=>resFr fr K++resUp up fr.hdr
def openR(fr:Fr)(up:List Fr)(K:Sl3)(ks:List T):List Rs:=
 .sl fr.hdr.p fr.hdr.l fr.hdr.c 70 19 (cellsKs fr.pre++fr.cells K++cellsKs fr.post):: .sl fr.P.p fr.P.l fr.P.c 3 1 (ints fr.f.p):: .sl fr.M.p fr.M.l fr.M.c 5 1 (kints .u8 fr.f.mask):: .sl fr.A.p fr.A.l fr.A.c 3 1 (ints fr.f.params)::
  .sl K.p K.l K.c 70 19 (cellsKs ks)::(resKs ks++(resKs fr.pre++(resKs fr.post++resUp up fr.hdr)))
theorem cells_mid(fr:Fr)(K:Sl3)(ks:List T):cellsKs (fr.pre++fr.node K ks::fr.post)=cellsKs fr.pre++fr.cells K++cellsKs fr.post:=by
 rw[cellsKs_app,cellsKs_cons,List.append_assoc];rfl
theorem resKs_mid(fr:Fr)(K:Sl3)(ks:List T):resKs (fr.pre++fr.node K ks::fr.post)=resKs fr.pre++(resT (fr.node K ks)++resKs fr.post):=by
 rw[resKs_app,resKs_cons]
theorem plug_res: ∀(up:List Fr) (K:Sl3) (ks:List T),(resG (plugZ up K ks).1 (plugZ up K ks).2).Perm (resG K ks++resUp up K)
 |[],K,ks=>by rw[resUp,List.append_nil];exact List.Perm.refl _
 |fr::up,K,ks=>by
  rw[plugZ]
  refine(plug_res up fr.hdr _).trans ?_
  refine permC fun _ x=>?_
  simp only[resG,cells_mid,resKs_mid]
  simp only[Fr.node,resT_mk,resG,resUp,resFr,List.count_append,List.count_cons]
  ac_rfl
theorem open_perm(fr:Fr)(up:List Fr)(K:Sl3)(ks:List T):(resG (plugZ (fr::up) K ks).1 (plugZ (fr::up) K ks).2).Perm (openR fr up K ks):=by
 refine(plug_res (fr::up) K ks).trans (permC fun _ x=>?_)
 simp only[resG,resUp,resFr,openR,List.count_append,List.count_cons]
 ac_rfl
theorem _root_.Go.Sh.St.opened{S:Sl3}{ss:List T}(hs:St H0 H (resG S ss++σ)){fr:Fr}{up:List Fr}{K:Sl3}{ks:List T}(h:plugZ (fr::up) K ks=(S,ss)):St H0 H (openR fr up K ks++σ):=by
 have:=open_perm fr up K ks
 rw[h] at this
 exact hs.perm (this.append_right σ)
theorem _root_.Go.Sh.St.closed{fr:Fr}{up:List Fr}{K:Sl3}{ks:List T}(hs:St H0 H (openR fr up K ks++σ)):St H0 H (resG (plugZ (fr::up) K ks).1 (plugZ (fr::up) K ks).2++σ):=
 hs.perm ((open_perm fr up K ks).symm.append_right σ)
theorem fz_plug(id:Int):(∀(t:T) (up:List Fr) (K:Sl3) (pre post:List T) (z:Z),fzT up K pre post id t=some z→plugZ z.1 z.2.1 z.2.2=plugZ up K (pre++t::post)):=by
 refine T.ind fun f P M A K' ks ih up K pre post z hz=>?_
 rw[fzT] at hz
 split at hz
 ·cases hz;rfl
 ·have: ∀(ts:List T),(∀t∈ts,t∈ks)→ ∀(u:List Fr) (K0:Sl3) (pre0:List T),fzK u K0 pre0 id ts=some z→plugZ z.1 z.2.1 z.2.2=plugZ u K0 (pre0++ts):=by
   intro ts
   induction ts with
   |nil=>intro _ u K0 pre0 h;rw[fzK] at h;cases h
   |cons t ts ih2=>
    intro hm u K0 pre0 h
    rw[fzK] at h
    split at h
    ·rename_i z' hz'
     cases h
     exact ih t (hm t List.mem_cons_self) _ _ _ _ _ hz'
    ·rw[ih2 (fun t ht=>hm t (List.mem_cons_of_mem _ ht)) _ _ _ h,List.append_assoc];rfl
  rw[this ks (fun _ h=>h) _ _ _ hz]
  rfl
theorem fzK_plug{id:Int}: ∀(ts:List T) (up:List Fr) (K:Sl3) (pre:List T) (z:Z),fzK up K pre id ts=some z→plugZ z.1 z.2.1 z.2.2=plugZ up K (pre++ts)
 |[],up,K,pre,z,h=>by rw[fzK] at h;cases h
 |t::ts,up,K,pre,z,h=>by
  rw[fzK] at h
  split at h
  ·rename_i z' hz'
   cases h
   exact fz_plug id t _ _ _ _ _ hz'
  ·rw[fzK_plug ts _ _ _ _ h,List.append_assoc];rfl
theorem fz_suf(id:Int):(∀(t:T) (up:List Fr) (K:Sl3) (pre post:List T) (z:Z),fzT up K pre post id t=some z→ ∃fr u,z.1=fr::u++up∧fr.f.id=id):=by
 refine T.ind fun f P M A K' ks ih up K pre post z hz=>?_
 rw[fzT] at hz
 split at hz
 ·rename_i h;cases hz;exact⟨_,[],rfl,h⟩
 ·have: ∀(ts:List T),(∀t∈ts,t∈ks)→ ∀(u:List Fr) (K0:Sl3) (pre0:List T),fzK u K0 pre0 id ts=some z→ ∃fr u',z.1=fr::u'++u∧fr.f.id=id:=by
   intro ts
   induction ts with
   |nil=>intro _ u K0 pre0 h;rw[fzK] at h;cases h
   |cons t ts ih2=>
    intro hm u K0 pre0 h
    rw[fzK] at h
    split at h
    ·rename_i z' hz'
     cases h
     exact ih t (hm t List.mem_cons_self) _ _ _ _ _ hz'
    ·exact ih2 (fun t ht=>hm t (List.mem_cons_of_mem _ ht)) _ _ _ h
  obtain⟨fr,u',h1,h2⟩:=this ks (fun _ h=>h) _ _ _ hz
  exact⟨fr,u'++[⟨K,pre,f,P,M,A,post⟩],by rw[h1];simp,h2⟩
theorem fzK_suf{id:Int}: ∀(ts:List T) (up:List Fr) (K:Sl3) (pre:List T) (z:Z),fzK up K pre id ts=some z→ ∃fr u,z.1=fr::u++up∧fr.f.id=id
 |[],up,K,pre,z,h=>by rw[fzK] at h;cases h
 |t::ts,up,K,pre,z,h=>by
  rw[fzK] at h
  split at h
  ·rename_i z' hz'
   cases h
   exact fz_suf id t _ _ _ _ _ hz'
  ·exact fzK_suf ts _ _ _ _ h
def rootF:LayF:=⟨0,1,false,0,0,0,0,[],[],⟨0,0,0,0,0,0⟩,false,0,[]⟩
def rootT(K:Sl3)(ks:List T):T:= .mk rootF .nil .nil .nil K ks
def rootS(b:Nat):Sl3:=⟨some ⟨b,0,none⟩,1,1⟩
def rootFr(b:Nat):Fr:=⟨rootS b,[],rootF,.nil,.nil,.nil,[]⟩
theorem root_ad(b:Nat):(rootFr b).ad=some ⟨b,0,none⟩:=by unfold Fr.ad rootFr rootS;simp
theorem plug_root(b:Nat): ∀(u:List Fr) (K:Sl3) (ks:List T),plugZ (u++[rootFr b]) K ks=(rootS b,[rootT (plugZ u K ks).1 (plugZ u K ks).2])
 |[],K,ks=>rfl
 |fr::u,K,ks=>by rw[List.cons_append,plugZ,plug_root b u];rfl
def resRoot(b:Nat)(K:Sl3)(ks:List T):List Rs:=resG (rootS b) [rootT K ks]
theorem found_open{b:Nat}{K:Sl3}{ks:List T}(hs:St H0 H (resRoot b K ks++σ)){id:Int}{fr:Fr}{up:List Fr}{K':Sl3}{ks':List T}(h:fzK [rootFr b] K [] id ks=some (fr::up,K',ks')):St H0 H (openR fr up K' ks'++σ):=
 hs.opened (by
  have:=fzK_plug ks _ _ _ _ h
  rw[this];rfl)
theorem close_at{b:Nat}{fr:Fr}{u:List Fr}{K:Sl3}{ks:List T}(hs:St H0 H (openR fr (u++[rootFr b]) K ks++σ)):St H0 H (resRoot b (plugZ (fr::u) K ks).1 (plugZ (fr::u) K ks).2++σ):=by
 have:=hs.closed
 rw[←List.cons_append,plug_root] at this
 exact this
end Go.Proofs
namespace Go.Proofs
open Go.Sh
variable {H0 H:Heap} {σ:List Rs} {R:Value→Heap→Prop}
structure FrL where
 pre:List Lay
 f:LayF
 post:List Lay
abbrev ZL:=List FrL×List Lay
mutual
def flT(up:List FrL)(pre post:List Lay)(id:Int):Lay→Option ZL
 | .mk f ks=>if f.id=id then some (⟨pre,f,post⟩::up,ks) else flK (⟨pre,f,post⟩::up) [] id ks
def flK(up:List FrL)(pre:List Lay)(id:Int):List Lay→Option ZL
 |[]=>none
 |t::ts=>match flT up pre ts id t with
  |some z=>some z
  |none=>flK up (pre++[t]) id ts
end
def plugL:List FrL→List Lay→List Lay
 |[],ks=>ks
 |fr::up,ks=>plugL up (fr.pre++ .mk fr.f ks::fr.post)
def Fr.lay(fr:Fr):FrL:=⟨layKs fr.pre,fr.f,layKs fr.post⟩
def layZ(z:Z):ZL:=(z.1.map Fr.lay,layKs z.2.2)
theorem fz_lay(id:Int): ∀(t:T) (up:List Fr) (K:Sl3) (pre post:List T),(fzT up K pre post id t).map layZ=flT (up.map Fr.lay) (layKs pre) (layKs post) id (layT t):=by
 refine T.ind fun f P M A K' ks ih up K pre post=>?_
 rw[fzT,layT,flT]
 split
 ·rfl
 ·have: ∀(ts:List T),(∀t∈ts,t∈ks)→ ∀(u:List Fr) (K0:Sl3) (pre0:List T),(fzK u K0 pre0 id ts).map layZ=flK (u.map Fr.lay) (layKs pre0) id (layKs ts):=by
   intro ts
   induction ts with
   |nil=>intro _ u K0 pre0;rfl
   |cons t ts ih2=>
    intro hm u K0 pre0
    rw[fzK,layKs,flK,←ih t (hm t List.mem_cons_self) u K0 pre0 ts]
    cases fzT u K0 pre0 ts id t with
    |some z=>rfl
    |none=>
     have:=ih2 (fun t ht=>hm t (List.mem_cons_of_mem _ ht)) u K0 (pre0++[t])
     rw[layKs_app,show layKs [t]=[layT t] from rfl] at this
     exact this
  exact this ks (fun _ h=>h) _ _ _
theorem fzK_lay{id:Int}: ∀(ts:List T) (up:List Fr) (K:Sl3) (pre:List T),(fzK up K pre id ts).map layZ=flK (up.map Fr.lay) (layKs pre) id (layKs ts)
 |[],up,K,pre=>rfl
 |t::ts,up,K,pre=>by
  rw[fzK,layKs,flK,←fz_lay id t up K pre ts]
  cases fzT up K pre ts id t with
  |some z=>rfl
  |none=>
   have:=fzK_lay (id:=id) ts up K (pre++[t])
   rw[layKs_app,show layKs [t]=[layT t] from rfl] at this
   exact this
def addUp(up:List FrL)(z:ZL):ZL:=(z.1++up,z.2)
theorem fl_up(id:Int): ∀(t:Lay) (v up:List FrL) (pre post:List Lay),flT (v++up) pre post id t=(flT v pre post id t).map (addUp up):=by
 refine Lay.ind fun f ks ih v up pre post=>?_
 rw[flT,flT]
 split
 ·rfl
 ·have: ∀(ts:List Lay),(∀t∈ts,t∈ks)→ ∀(u:List FrL) (pre0:List Lay),flK (u++up) pre0 id ts=(flK u pre0 id ts).map (addUp up):=by
   intro ts
   induction ts with
   |nil=>intro _ u pre0;rfl
   |cons t ts ih2=>
    intro hm u pre0
    rw[flK,flK,ih t (hm t List.mem_cons_self) u up pre0 ts]
    cases flT u pre0 ts id t with
    |some z=>rfl
    |none=>exact ih2 (fun t ht=>hm t (List.mem_cons_of_mem _ ht)) u (pre0++[t])
  exact this ks (fun _ h=>h) (_::v) _
theorem flK_up{id:Int}: ∀(ts:List Lay) (v up:List FrL) (pre:List Lay),flK (v++up) pre id ts=(flK v pre id ts).map (addUp up)
 |[],v,up,pre=>rfl
 |t::ts,v,up,pre=>by
  rw[flK,flK,fl_up id t v up pre ts]
  cases flT v pre ts id t with
  |some z=>rfl
  |none=>exact flK_up ts v up (pre++[t])
theorem plug_lay: ∀(u:List Fr) (K:Sl3) (ks:List T),layKs (plugZ u K ks).2=plugL (u.map Fr.lay) (layKs ks)
 |[],K,ks=>rfl
 |fr::u,K,ks=>by
  rw[plugZ,plug_lay u,List.map_cons,plugL,layKs_app,layKs]
  rfl
theorem find_cases(b:Nat)(K:Sl3)(ks:List T)(id:Int):(fzK [rootFr b] K [] id ks=none∧flK [] [] id (layKs ks)=none)∨
 ∃fr u K' ks',fzK [rootFr b] K [] id ks=some (fr::(u++[rootFr b]),K',ks')∧fr.f.id=id∧flK [] [] id (layKs ks)=some ((fr::u).map Fr.lay,layKs ks'):=by
 have h1:=fzK_lay (id:=id) ks [rootFr b] K []
 have h2:=flK_up (id:=id) (layKs ks) [] ([rootFr b].map Fr.lay) (layKs [])
 rw[List.nil_append] at h2
 rw[h2] at h1
 cases hz:fzK [rootFr b] K [] id ks with
 |none=>
  rw[hz] at h1
  left
  refine⟨rfl,?_⟩
  cases hf:flK [] (layKs []) id (layKs ks) with
  |none=>exact hf
  |some z=>rw[hf] at h1;cases h1
 |some z=>
  right
  obtain⟨fr,u,h3,h4⟩:=fzK_suf ks _ _ _ _ hz
  obtain⟨z1,K',ks'⟩:=z
  simp only at h3
  subst h3
  refine⟨fr,u,K',ks',rfl,h4,?_⟩
  rw[hz] at h1
  cases hf:flK [] (layKs []) id (layKs ks) with
  |none=>rw[hf] at h1;cases h1
  |some z=>
   rw[hf] at h1
   simp only[Option.map_some,Option.some.injEq,layZ,addUp,Prod.mk.injEq,List.map_append] at h1
   have h5:=List.append_cancel_right h1.1
   obtain⟨z1,z2⟩:=z
   simp only at h5 h1
   show flK [] (layKs []) id (layKs ks)=_
   rw[hf,←h5,←h1.2]
structure Ed where
 kind:Int
 id:Int
 to:Int
 at_:Int
 n:Int
 m:Int
 x:Int
 y:Int
 w:Int
 h:Int
 p:List Int
 shape:List (Int×Int)
 map:M6
 params:List Int
structure EdS where
 P:Sl3
 S:Sl3
 A:Sl3
def edL(e:Ed)(s:EdS):List Value:=
 [.int .i64 e.kind,.int .i64 e.id,.int .i64 e.to,.int .i64 e.at_,.int .i64 e.n,.int .i64 e.m,.int .i64 e.x,.int .i64 e.y,.int .i64 e.w,.int .i64 e.h,s.P.v,s.S.v,
  .int .i64 e.map.a,.int .i64 e.map.b,.int .i64 e.map.c,.int .i64 e.map.d,.int .i64 e.map.e,.int .i64 e.map.f,s.A.v]
def workL(r d:Nat)(e:Ed)(s:EdS):List Value:= .pointer (some ⟨r,0,none⟩):: .pointer (some ⟨d,0,none⟩)::edL e s
structure IS2(H:Heap)(p:Option Addr)(l:Nat)(pts:List (Int×Int)):Prop where
 len:pts.length=l
 get: ∀(i:Nat) x y,pts[i]?=some (x,y)→ ∃a,p=some a∧rowIn H (a.add (i*2)) #[.int .i64 x,.int .i64 y]
theorem IS2.ext{H H':Heap}{p:Option Addr}{l:Nat}{pts:List (Int×Int)}(h:IS2 H p l pts)(he:Ext H H'):IS2 H' p l pts:=⟨h.len,fun i x y hi=>let ⟨a,h1,h2⟩:=h.get i x y hi;⟨a,h1,rowAt_ext he h2⟩⟩
structure rdEd(H:Heap)(e:Ed)(s:EdS):Prop where
 p:IS H s.P.p s.P.l (ints e.p)
 shape:IS2 H s.S.p s.S.l e.shape
 params:IS H s.A.p s.A.l (ints e.params)
theorem rdEd.ext{H H':Heap}{e:Ed}{s:EdS}(h:rdEd H e s)(he:Ext H H'):rdEd H' e s:=⟨h.p.ext he,h.shape.ext he,h.params.ext he⟩
theorem find_root{b:Nat}{K:Sl3}{ks:List T}(hs:St H0 H (resRoot b K ks++σ)){id:Int}(hc:cntKs (layKs ks)≤1000000000000)
 (hR: ∀H',Ext H H'→(∀z,fzK [rootFr b] K [] id ks=some z→(resZ (some z)).1≠none)→
  R (.tuple #[.pointer (resZ (fzK [rootFr b] K [] id ks)).1,.pointer (resZ (fzK [rootFr b] K [] id ks)).2.1,.int .i64 (resZ (fzK [rootFr b] K [] id ks)).2.2]) H'):CallsH Tryz.prog 65 #[.pointer (some ⟨b,0,none⟩),.int .i64 id] H R:=by
 obtain⟨a,h1,h2,h3⟩:=hs.grp.get (i:=0) (t:=rootT K ks) rfl
 cases h1
 rw[Nat.zero_mul,add_none] at h2
 exact c65 (rootT K ks) (fr:=rootFr b) (up:=[]) (root_ad b) h2 h3 hc hR
theorem c73{b d:Nat}{e:Ed}{s:EdS}{K:Sl3}{ks:List T}(hs:St H0 H (resRoot b K ks++σ))(hc:cntKs (layKs ks)≤1000000000000)
 (h0:fzK [rootFr b] K [] e.id ks=none→ ∀H',Ext H H'→R (.tuple #[.pointer none,.int .i64 40]) H')
 (h1: ∀z a,fzK [rootFr b] K [] e.id ks=some z→(resZ (some z)).1=some a→ ∀H',Ext H H'→R (.tuple #[.pointer (some a),.int .i64 0]) H'):CallsH Tryz.prog 73 #[.agg (workL b d e s).toArray] H R:=by
 refine Tryz.s73 ?_
 unfold Tryz.S73
 refine hs.alcE fun b2 H3 he hs3=>⟨_,hs3.get 0 rfl rfl,_,hs3.get 0 rfl (j:=3) rfl,?_⟩
 refine find_root hs3.tail hc fun H7 he7 hne=>⟨_,_,_,rfl,?_⟩
 cases hz:fzK [rootFr b] K [] e.id ks with
 |none=>exact br_t rfl (h0 hz H7 (he.trans he7))
 |some z=>
  cases ha:(resZ (some z)).1 with
  |none=>exact absurd ha (hne z hz)
  |some a=>exact br_f rfl (h1 z a hz ha H7 (he.trans he7))
theorem cells_1(fr:Fr)(K:Sl3):(fr.cells K)[1]?=some (.int .i64 fr.f.kind):=rfl
theorem cells_18(fr:Fr)(K:Sl3):(fr.cells K)[18]?=some (.slice K.p K.l K.c):=rfl
theorem c69{b d:Nat}{e:Ed}{s:EdS}{K:Sl3}{ks:List T}(hs:St H0 H (resRoot b K ks++σ))(hc:cntKs (layKs ks)≤1000000000000)
 (h0:e.to=0→ ∀H',Ext H H'→R (.tuple #[.pointer (some ⟨b,0,none⟩),.int .i64 0]) H')
 (h1:e.to≠0→fzK [rootFr b] K [] e.to ks=none→ ∀H',Ext H H'→R (.tuple #[.pointer none,.int .i64 40]) H')
 (h2:e.to≠0→ ∀fr u K' ks',fzK [rootFr b] K [] e.to ks=some (fr::(u++[rootFr b]),K',ks')→fr.f.kind≠1→ ∀H',Ext H H'→R (.tuple #[.pointer none,.int .i64 41]) H')
 (h3:e.to≠0→ ∀fr u K' ks' a,fzK [rootFr b] K [] e.to ks=some (fr::(u++[rootFr b]),K',ks')→fr.f.kind=1→fr.ad=some a→ ∀H',Ext H H'→R (.tuple #[.pointer (some a),.int .i64 0]) H'):
 CallsH Tryz.prog 69 #[.agg (workL b d e s).toArray] H R:=by
 refine Tryz.s69 ?_
 unfold Tryz.S69
 refine hs.alcE fun b2 H3 he hs3=>⟨_,hs3.get 0 rfl (j:=4) rfl,br_eq (fun ht=>?_) fun ht=>?_⟩
 ·exact⟨_,hs3.get 0 rfl rfl,h0 ht H3 he⟩
 ·refine⟨_,hs3.get 0 rfl rfl,_,hs3.get 0 rfl (j:=4) rfl,?_⟩
  refine find_root hs3.tail hc fun H7 he7 hne=>⟨_,_,_,rfl,?_⟩
  rcases find_cases b K ks e.to with ⟨hz,_⟩|⟨fr,u,K',ks',hz,hid,_⟩
  ·rw[hz]
   exact br_t rfl (h1 ht hz H7 (he.trans he7))
  ·have hop:=found_open (hs3.tail.step he7) hz
   obtain⟨a,ha⟩:=hop.elAd (n:=fr.pre.length) 0 rfl (by rfl)
   have hfa:fr.ad=some a:=ha
   have e1:resZ (some (fr::(u++[rootFr b]),K',ks'))=(some a,(resZ (some (fr::(u++[rootFr b]),K',ks'))).2.1,(resZ (some (fr::(u++[rootFr b]),K',ks'))).2.2):=by
    cases u<;>simp[resZ,hfa]
   rw[hz,e1]
   refine br_f rfl ⟨a,rfl,fr.f.kind,hop.elCell 0 rfl (cellsKs_len fr.pre) (cells_1 fr K') ha,br_ne (fun hk=>?_) fun hk=>?_⟩
   ·exact h2 ht fr u K' ks' hz hk H7 (he.trans he7)
   ·exact h3 ht fr u K' ks' a hz hk hfa H7 (he.trans he7)
end Go.Proofs
namespace Go.Proofs
open Go.Sh
variable {H0 H:Heap} {σ:List Rs} {R:Value→Heap→Prop}
def atL(a:Int)(n:Nat):Option Nat:=if a= -1 then some n else if 0≤a∧a≤n then some a.toNat else none
theorem atL_le{a:Int}{n i:Nat}(h:atL a n=some i):i≤n:=by
 unfold atL at h
 split at h
 ·cases h;exact Nat.le_refl _
 ·split at h
  ·cases h;omega
  ·cases h
def homeL(D:List Lay)(to:Int):Int×ZL:=
 if to=0 then(0,[],D) else match flK [] [] to D with
  |some (fr::u,ks)=>if fr.f.kind=1 then(0,fr::u,ks) else(41,[],[])
  |_=>(40,[],[])
def putL(v:List FrL)(kh:List Lay)(a:Int)(l:Lay):Int×List Lay:=
 match atL a kh.length with
 |none=>(43,[])
 |some i=>(if 64<depKs (plugL v (kh.take i++l::kh.drop i)) then 31 else 0,plugL v (kh.take i++l::kh.drop i))
def moveL(D:List Lay)(e:Ed):Int×List Lay:=
 match flK [] [] e.id D with
 |some (fr::u,ks')=>
  if (homeL D e.to).1≠0 then((homeL D e.to).1,[]) else
  if e.to=e.id∨(flK [] [] e.to ks').isSome=true then(42,[]) else
  if (homeL (plugL u (fr.pre++fr.post)) e.to).1≠0 then((homeL (plugL u (fr.pre++fr.post)) e.to).1,[]) else
  putL (homeL (plugL u (fr.pre++fr.post)) e.to).2.1 (homeL (plugL u (fr.pre++fr.post)) e.to).2.2 e.at_ (.mk fr.f ks')
 |_=>(40,[])
def removeL(D:List Lay)(id:Int):Int×List Lay:=
 match flK [] [] id D with
 |some (fr::u,_)=>(0,plugL u (fr.pre++fr.post))
 |_=>(40,[])
def newL(next:Int)(e:Ed):LayF:=
 ⟨next,e.n,false,255,0,if e.n=0 then e.w else 0,if e.n=0 then e.h else 0,if e.n=0 then List.replicate (e.w*e.h).toNat 0 else[],[],⟨65536,0,0,65536,0,0⟩,false,2,[]⟩
def addL(next:Int)(D:List Lay)(e:Ed):Int×List Lay:=
 if e.n<0∨e.n>2 then(41,[]) else
 if e.n=0∧sizedB e.w e.h=false then(31,[]) else
 if (homeL D e.to).1≠0 then((homeL D e.to).1,[]) else
 if (putL (homeL D e.to).2.1 (homeL D e.to).2.2 e.at_ (.mk (newL next e) [])).1≠0 then((putL (homeL D e.to).2.1 (homeL D e.to).2.2 e.at_ (.mk (newL next e) [])).1,[]) else
 if 4096≤cntKs D then(31,[]) else(0,(putL (homeL D e.to).2.1 (homeL D e.to).2.2 e.at_ (.mk (newL next e) [])).2)
def cntUp:List FrL→Nat
 |[]=>0
 |fr::u=>1+cntKs fr.pre+cntKs fr.post+cntUp u
theorem cnt_plug: ∀(u:List FrL) (ks:List Lay),cntKs (plugL u ks)=cntUp u+cntKs ks
 |[],ks=>by rw[plugL,cntUp,Nat.zero_add]
 |fr::u,ks=>by rw[plugL,cnt_plug u,cntKs_app,cntKs,cntL,cntUp];omega
theorem cellsKs_take(ks:List T)(i:Nat):cellsKs (ks.take i)=(cellsKs ks).take (i*19)∧cellsKs (ks.drop i)=(cellsKs ks).drop (i*19):=by
 have h:=cellsKs_app (ks.take i) (ks.drop i)
 rw[List.take_append_drop] at h
 rcases Nat.lt_or_ge i ks.length with hi|hi
 ·have hl:(cellsKs (ks.take i)).length=i*19:=by rw[cellsKs_len,List.length_take];congr 1;omega
  exact⟨by rw[h,List.take_left' hl],by rw[h,List.drop_left' hl]⟩
 ·rw[List.take_of_length_le hi,List.drop_of_length_le hi,List.take_of_length_le (by rw[cellsKs_len];exact Nat.mul_le_mul_right _ hi),List.drop_of_length_le (by rw[cellsKs_len];exact Nat.mul_le_mul_right _ hi)]
  exact⟨rfl,rfl⟩
theorem closed_v{b:Nat}{fr:Fr}{up v:List Fr}{K:Sl3}{ks:List T}(hv:fr::up=v++[rootFr b])(hs:St H0 H (openR fr up K ks++σ)):St H0 H (resRoot b (plugZ v K ks).1 (plugZ v K ks).2++σ):=by
 have:=hs.closed
 rw[hv,plug_root] at this
 exact this
theorem c71{b d:Nat}{e:Ed}{s:EdS}{fr:Fr}{up v:List Fr}{K:Sl3}{ks:List T}{l:T}{a:Addr}(hv:fr::up=v++[rootFr b])(ha:fr.ad=some a)(hs:St H0 H (openR fr up K ks++(resT l++σ)))
 (hlen:ks.length≤1000000000)(hc:cntUp (v.map Fr.lay)+cntKs (layKs ks)+cntL (layT l)≤1000000000000)
 (h43:atL e.at_ ks.length=none→ ∀H',Ext H H'→R (.int .i64 43) H')
 (hR: ∀i K2 H',atL e.at_ ks.length=some i→St H0 H' (openR fr up K2 (ks.take i++l::ks.drop i)++σ)→R (.int .i64 (if 64<depKs (plugL (v.map Fr.lay) (layKs (ks.take i++l::ks.drop i))) then 31 else 0)) H'):
 CallsH Tryz.prog 71 #[.agg (workL b d e s).toArray,.pointer (some a),.agg (cellsT l).toArray] H R:=by
 have hKl:K.l=ks.length:=by have:=(hs.fs 4 rfl).len;rw[cellsKs_len] at this;omega
 refine Tryz.s71 ?_
 unfold Tryz.S71
 refine hs.alcE fun b4 H5 he5 hs5=>hs5.alcE fun b6 H7 he7 hs7=>⟨_,hs7.get 1 rfl (j:=5) rfl,?_⟩
 have he:=he5.trans he7
 have hK18:=hs7.elCell 2 rfl (cellsKs_len fr.pre) (cells_18 fr K) ha
 intro J hJ
 have main: ∀i,atL e.at_ ks.length=some i→J [.int .i64 (i:Int)] H7:=fun i hi=>by
  have hil:=atL_le hi
  refine hJ _ _ ?_
  intro J2 hJ2
  refine br_dec (fun h=>by omega) fun _=>⟨a,rfl,_,_,_,hK18,br_dec (fun h=>by omega) fun _=>hJ2 _ ?_⟩
  refine⟨a,rfl,_,_,_,hK18,(cellsT l).toArray,by simp[cellsT_len],rowIn_whole (hs7.block 0 rfl),by simp[cellsT_len],by decide,?_⟩
  rw[setL_all (by simp[cellsT_len])]
  refine hs7.alcE fun b17 H18 he18 hs18=>⟨.inl he18,?_⟩
  obtain⟨σ2,hs2,hback⟩:=hs18.two 7 0 rfl rfl (by decide)
  refine c99 (K:=K) hs2 (by simp[cellsT_len]) (by simpa using cellsT_one l) (by omega) (by omega) fun K2 H20 hl2 hs20=>⟨_,_,_,rfl,a,rfl,?_⟩
  have hs21:=hback hs20
  refine hs21.elPut 3 rfl (cellsKs_len fr.pre) (j:=18) (Nat.le_of_ble_eq_true rfl) rfl ha fun H23 hs23=>⟨_,hs23.get 2 rfl rfl,_,rfl,?_⟩
  have hcells:(cellsKs ks).take (i*19)++(cellsT l).toArray.toList++(cellsKs ks).drop (i*19)=cellsKs (ks.take i++l::ks.drop i):=by
   rw[cellsKs_app,cellsKs_cons,(cellsKs_take ks i).1,(cellsKs_take ks i).2,List.append_assoc]
  rw[show(List.toArray (Array.toList (cellsT l).toArray)).toList=(cellsT l).toArray.toList from rfl,hcells] at hs23
  have hs24:St H0 H23 (openR fr up K2 (ks.take i++l::ks.drop i)++σ):=by
   refine(hs23.drop 3).perm (permC fun _ x=>?_)
   show List.count x ((.sl fr.hdr.p fr.hdr.l fr.hdr.c 70 19 (cellsKs fr.pre++fr.cells K2++cellsKs fr.post):: .sl fr.P.p fr.P.l fr.P.c 3 1 (ints fr.f.p):: .sl fr.M.p fr.M.l fr.M.c 5 1 (kints .u8 fr.f.mask):: .sl fr.A.p fr.A.l fr.A.c 3 1 (ints fr.f.params)::
    .sl K2.p K2.l K2.c 70 19 (cellsKs (ks.take i++l::ks.drop i))::(resKs ks++(resKs fr.pre++(resKs fr.post++resUp up fr.hdr))))++(resT l++σ))=_
   have hr:resKs ks=resKs (ks.take i)++resKs (ks.drop i):=by rw[←resKs_app,List.take_append_drop]
   rw[hr]
   simp only[openR,resKs_app,resKs_cons,List.count_append,List.count_cons]
   ac_rfl
  have hcl:=closed_v hv hs24
  obtain⟨a0,h1,h2,h3⟩:=hcl.grp.get (i:=0) (t:=rootT _ _) rfl
  cases h1
  rw[Nat.zero_mul,add_none] at h2
  refine⟨_,_,_,h2 18 _ rfl,?_⟩
  have hlay:=plug_lay v K2 (ks.take i++l::ks.drop i)
  refine c100 (K:=(plugZ v K2 (ks.take i++l::ks.drop i)).1) (rdT.grp h3) ?_ fun H28 he28=>⟨_,rfl,?_⟩
  ·show cntKs (layKs (plugZ v K2 (ks.take i++l::ks.drop i)).2)≤_
   rw[hlay,cnt_plug,layKs_app,layKs,cntKs_app,cntKs]
   have:=cntKs_app (layKs (ks.take i)) (layKs (ks.drop i))
   rw[←layKs_app,List.take_append_drop] at this
   omega
  ·have:=hR i K2 H28 hi (hs24.step he28)
   rw[←hlay] at this
   refine br_dec (fun h=>?_) fun h=>?_
   ·rw[if_pos (by have:(64:Int)<(depKs (layKs (rootT (plugZ v K2 (ks.take i++l::ks.drop i)).1 (plugZ v K2 (ks.take i++l::ks.drop i)).2).kids):Int):=h;exact Int.ofNat_lt.1 this)] at this
    exact this
   ·rw[if_neg (by have h': ¬(64:Int)<(depKs (layKs (rootT (plugZ v K2 (ks.take i++l::ks.drop i)).1 (plugZ v K2 (ks.take i++l::ks.drop i)).2).kids):Int):=h;exact fun hh=>h' (Int.ofNat_lt.2 hh))] at this
    exact this
 refine br_eq (fun hm=>?_) fun hm=>?_
 ·refine⟨a,rfl,_,_,_,hK18,?_⟩
  rw[hKl]
  exact main _ (by unfold atL;rw[if_pos hm])
 ·by_cases h0:0≤e.at_∧e.at_≤ks.length
  ·have:=main e.at_.toNat (by unfold atL;rw[if_neg hm,if_pos h0])
   rw[Int.toNat_of_nonneg h0.1] at this
   exact this
  ·have hn:atL e.at_ ks.length=none:=by unfold atL;rw[if_neg hm,if_neg h0]
   refine hJ _ _ ?_
   intro J2 hJ2
   refine br_dec (fun h=>h43 hn H7 he) fun h1=>⟨a,rfl,_,_,_,hK18,br_dec (fun h=>h43 hn H7 he) fun h2=>absurd ⟨by omega,by omega⟩ h0⟩
end Go.Proofs
namespace Go.Proofs
open Go.Sh
variable {H0 H:Heap} {σ:List Rs} {R:Value→Heap→Prop}
theorem open_rdT{fr:Fr}{up:List Fr}{K:Sl3}{ks:List T}(hs:St H0 H (openR fr up K ks++σ)):rdT H (fr.node K ks):=by
 refine St.rdT (fr.node K ks) (σ:= .sl fr.hdr.p fr.hdr.l fr.hdr.c 70 19 (cellsKs fr.pre++fr.cells K++cellsKs fr.post)::(resKs fr.pre++(resKs fr.post++resUp up fr.hdr))++σ) (hs.perm (permC fun _ x=>?_))
 simp only[openR,Fr.node,resT_mk,resG,List.count_append,List.count_cons]
 ac_rfl
theorem up_cases(u:List Fr)(b:Nat): ∃fp up',u++[rootFr b]=fp::up':=by
 cases u with
 |nil=>exact⟨_,_,rfl⟩
 |cons x u=>exact⟨_,_,rfl⟩
theorem c39{b d:Nat}{e:Ed}{s:EdS}{K:Sl3}{ks:List T}(hs:St H0 H (resRoot b K ks++σ))(hc:cntKs (layKs ks)≤1000000000)
 (h0:fzK [rootFr b] K [] e.id ks=none→ ∀H',Ext H H'→R (.int .i64 40) H')
 (h1: ∀fr u K' ks' Kn ksn H',fzK [rootFr b] K [] e.id ks=some (fr::(u++[rootFr b]),K',ks')→layKs ksn=plugL (u.map Fr.lay) (layKs fr.pre++layKs fr.post)→St H0 H' (resRoot b Kn ksn++(resT (fr.node K' ks')++σ))→R (.int .i64 0) H'):
 CallsH Tryz.prog 39 #[.agg (workL b d e s).toArray] H R:=by
 refine Tryz.s39 ?_
 unfold Tryz.S39
 refine hs.alcE fun b2 H3 he hs3=>⟨_,hs3.get 0 rfl rfl,_,hs3.get 0 rfl (j:=3) rfl,?_⟩
 refine find_root hs3.tail (by omega) fun H7 he7 hne=>⟨_,_,_,rfl,?_⟩
 rcases find_cases b K ks e.id with ⟨hz,_⟩|⟨fr,u,K',ks',hz,hid,hfl⟩
 ·rw[hz]
  exact br_t rfl (h0 hz H7 (he.trans he7))
 ·have hop:=found_open (hs3.tail.step he7) hz
  obtain⟨a,ha⟩:=hop.elAd (n:=fr.pre.length) 0 rfl (by rfl)
  have hfa:fr.ad=some a:=ha
  obtain⟨fp,up',hup⟩:=up_cases u b
  have hpl:plugZ (fp::up') fr.hdr (fr.pre++fr.node K' ks'::fr.post)=(rootS b,[rootT K ks]):=by
   have:=fzK_plug ks _ _ _ _ hz
   rw[hup] at this
   exact this.trans rfl
  have hcn:cntKs (layKs ks)=cntUp (u.map Fr.lay)+cntKs (layKs (fr.pre++fr.node K' ks'::fr.post)):=by
   rw[←cnt_plug,←plug_lay u fr.hdr]
   have h2:=hpl
   rw[←hup,plug_root] at h2
   have h3:=congrArg (fun(q:Sl3×List T)=>q.2.map T.kids) h2
   simp only[List.map_cons,List.map_nil,rootT,T.kids,List.cons.injEq,and_true] at h3
   rw[h3]
  have hpre:fr.pre.length+1+fr.post.length≤cntKs (layKs ks):=by
   have h2:=len_cnt (layKs (fr.pre++fr.node K' ks'::fr.post))
   rw[layKs_len,List.length_append,List.length_cons] at h2
   omega
  have hs8:=(hs3.tail.step he7).opened hpl
  obtain⟨a2,ha2⟩:=hs8.elAd (n:=fp.pre.length) 0 rfl (by rfl)
  have hfa2:fp.ad=some a2:=ha2
  have e1:resZ (some (fr::(u++[rootFr b]),K',ks'))=(some a,some a2,(fr.pre.length:Int)):=by
   rw[hup];simp[resZ,hfa,hfa2]
  rw[hz,e1]
  have hhl:fr.hdr.l=fr.pre.length+1+fr.post.length:=by
   have:=(hs8.fs 4 rfl).len
   rw[cellsKs_len,List.length_append,List.length_cons] at this;omega
  refine br_f rfl ⟨a2,rfl,_,_,_,hs8.elCell 0 rfl (cellsKs_len fp.pre) (cells_18 fp fr.hdr) ha2,?_⟩
  rw[wrap_id (n:=((fr.pre.length:Nat):Int)+1) (by omega) (by omega)]
  obtain⟨σ2,hs9,hback⟩:=hs8.one 4 rfl
  refine c72 (K:=fr.hdr) (i:=fr.pre.length) hs9 (by omega) (by omega) fun K2 H14 hl2 hs14=>⟨_,_,_,rfl,a2,rfl,?_⟩
  have hs15:=hback hs14
  refine hs15.elPut 0 rfl (cellsKs_len fp.pre) (j:=18) (Nat.le_of_ble_eq_true rfl) rfl ha2 fun H17 hs17=>?_
  have hcells:(cellsKs (fr.pre++fr.node K' ks'::fr.post)).take (fr.pre.length*19)++(cellsKs (fr.pre++fr.node K' ks'::fr.post)).drop ((fr.pre.length+1)*19)=cellsKs (fr.pre++fr.post):=by
   rw[←(cellsKs_take _ _).1,←(cellsKs_take _ _).2,List.take_left' rfl,cellsKs_app]
   congr 2
   rw[show fr.pre++fr.node K' ks'::fr.post=(fr.pre++[fr.node K' ks'])++fr.post from by simp,List.drop_left' (by simp)]
  rw[hcells] at hs17
  have hs18:St H0 H17 (openR fp up' K2 (fr.pre++fr.post)++(resT (fr.node K' ks')++σ)):=by
   refine hs17.perm (permC fun _ x=>?_)
   show List.count x ((.sl fp.hdr.p fp.hdr.l fp.hdr.c 70 19 (cellsKs fp.pre++fp.cells K2++cellsKs fp.post):: .sl fp.P.p fp.P.l fp.P.c 3 1 (ints fp.f.p):: .sl fp.M.p fp.M.l fp.M.c 5 1 (kints .u8 fp.f.mask):: .sl fp.A.p fp.A.l fp.A.c 3 1 (ints fp.f.params)::
    .sl K2.p K2.l K2.c 70 19 (cellsKs (fr.pre++fr.post))::(resKs (fr.pre++fr.node K' ks'::fr.post)++(resKs fp.pre++(resKs fp.post++resUp up' fp.hdr))))++σ)=_
   simp only[openR,resKs_app,resKs_cons,List.count_append,List.count_cons]
   ac_rfl
  have hs19:=closed_v (v:=u) hup.symm hs18
  refine h1 fr u K' ks' _ _ H17 hz ?_ hs19
  rw[plug_lay,layKs_app]
theorem home_eq(b:Nat)(K:Sl3)(ks:List T)(to:Int):(to=0∧homeL (layKs ks) to=(0,[],layKs ks))∨(to≠0∧fzK [rootFr b] K [] to ks=none∧homeL (layKs ks) to=(40,[],[]))∨
 (to≠0∧ ∃fr u K' ks',fzK [rootFr b] K [] to ks=some (fr::(u++[rootFr b]),K',ks')∧((fr.f.kind≠1∧homeL (layKs ks) to=(41,[],[]))∨(fr.f.kind=1∧homeL (layKs ks) to=(0,(fr::u).map Fr.lay,layKs ks')))):=by
 by_cases h:to=0
 ·exact .inl ⟨h,by unfold homeL;rw[if_pos h]⟩
 ·rcases find_cases b K ks to with ⟨hz,hl⟩|⟨fr,u,K',ks',hz,hid,hl⟩
  ·exact .inr (.inl ⟨h,hz,by unfold homeL;rw[if_neg h,hl]⟩)
  ·refine .inr (.inr ⟨h,fr,u,K',ks',hz,?_⟩)
   by_cases hk:fr.f.kind=1
   ·exact .inr ⟨hk,by unfold homeL;rw[if_neg h,hl];show(if fr.f.kind=1 then _ else _)=_;rw[if_pos hk];rfl⟩
   ·exact .inl ⟨hk,by unfold homeL;rw[if_neg h,hl];show(if fr.f.kind=1 then _ else _)=_;rw[if_neg hk]⟩
theorem home_call{b d:Nat}{e:Ed}{s:EdS}{K:Sl3}{ks:List T}(hs:St H0 H (resRoot b K ks++σ))(hc:cntKs (layKs ks)≤1000000000000)
 (h0: ∀p H',Ext H H'→(homeL (layKs ks) e.to).1≠0→R (.tuple #[.pointer p,.int .i64 (homeL (layKs ks) e.to).1]) H')
 (h1: ∀fr up v K' ks' a H',Ext H H'→homeL (layKs ks) e.to=(0,v.map Fr.lay,layKs ks')→fr::up=v++[rootFr b]→plugZ (fr::up) K' ks'=(rootS b,[rootT K ks])→fr.ad=some a→R (.tuple #[.pointer (some a),.int .i64 0]) H'):
 CallsH Tryz.prog 69 #[.agg (workL b d e s).toArray] H R:=by
 rcases home_eq b K ks e.to with ⟨ht,hh⟩|⟨ht,hz,hh⟩|⟨ht,fr,u,K',ks',hz,⟨hk,hh⟩|⟨hk,hh⟩⟩
 ·exact c69 hs hc (fun _ H' he=>h1 (rootFr b) [] [] K ks _ H' he hh rfl rfl (root_ad b)) (fun h=>absurd ht h) (fun h=>absurd ht h) (fun h=>absurd ht h)
 ·exact c69 hs hc (fun h=>absurd h ht) (fun _ _ H' he=>by have:=h0 none H' he (by rw[hh];decide);rw[hh] at this;exact this) (fun _ fr u K' ks' h=>by rw[hz] at h;cases h) (fun _ fr u K' ks' a h=>by rw[hz] at h;cases h)
 ·exact c69 hs hc (fun h=>absurd h ht) (fun _ h=>by rw[hz] at h;cases h) (fun _ _ _ _ _ _ _ H' he=>by have:=h0 none H' he (by rw[hh];decide);rw[hh] at this;exact this)
   (fun _ fr' u' K'' ks'' a h hk'=>by rw[hz] at h;simp only[Option.some.injEq,Prod.mk.injEq,List.cons.injEq] at h;rw[h.1.1] at hk;exact absurd hk' hk)
 ·refine c69 hs hc (fun h=>absurd h ht) (fun _ h=>by rw[hz] at h;cases h) (fun _ fr' u' K'' ks'' h hk'=>by rw[hz] at h;simp only[Option.some.injEq,Prod.mk.injEq,List.cons.injEq] at h;rw[h.1.1] at hk;exact absurd hk hk')
   (fun _ fr' u' K'' ks'' a h hk' ha H' he=>?_)
  rw[hz] at h
  simp only[Option.some.injEq,Prod.mk.injEq,List.cons.injEq] at h
  obtain⟨⟨rfl,h2⟩,rfl,rfl⟩:=h
  exact h1 fr (u++[rootFr b]) (fr::u) K' ks' a H' he hh rfl ((fzK_plug ks _ _ _ _ hz).trans rfl) ha
end Go.Proofs
namespace Go.Proofs
open Go.Sh
variable {H0 H:Heap} {σ:List Rs} {R:Value→Heap→Prop}
theorem found_cnt{b:Nat}{K:Sl3}{ks:List T}{id:Int}{fr:Fr}{u:List Fr}{K':Sl3}{ks':List T}(h:fzK [rootFr b] K [] id ks=some (fr::(u++[rootFr b]),K',ks')):
 cntKs (layKs ks)=cntUp ((fr::u).map Fr.lay)+cntKs (layKs ks')∧layKs ks=plugL ((fr::u).map Fr.lay) (layKs ks'):=by
 have h1:=fzK_plug ks _ _ _ _ h
 simp only at h1
 rw[←List.cons_append,plug_root] at h1
 have h2:=h1.trans (show plugZ [rootFr b] K ([]++ks)=(rootS b,[rootT K ks]) from rfl)
 have h3:=congrArg (fun(q:Sl3×List T)=>q.2.map T.kids) h2
 simp only[List.map_cons,List.map_nil,rootT,T.kids,List.cons.injEq,and_true] at h3
 have h4:=plug_lay (fr::u) K' ks'
 rw[h3] at h4
 exact⟨by rw[←cnt_plug,←h4],h4⟩
theorem plugZ_cnt{b:Nat}{K:Sl3}{ks:List T}{v:List Fr}{K':Sl3}{ks':List T}(h:plugZ (v++[rootFr b]) K' ks'=(rootS b,[rootT K ks])):
 cntKs (layKs ks)=cntUp (v.map Fr.lay)+cntKs (layKs ks'):=by
 rw[plug_root] at h
 have h3:=congrArg (fun(q:Sl3×List T)=>q.2.map T.kids) h
 simp only[List.map_cons,List.map_nil,rootT,T.kids,List.cons.injEq,and_true] at h3
 rw[←cnt_plug,←plug_lay v K',h3]
theorem cnt_node(fr:Fr)(K:Sl3)(ks:List T):cntL (layT (fr.node K ks))=1+cntKs (layKs ks):=rfl
theorem below_eq(up:List Fr)(K:Sl3)(ks:List T)(id:Int):(fzK up K [] id ks=none∧(flK [] [] id (layKs ks)).isSome=false)∨(∃z,fzK up K [] id ks=some z∧(flK [] [] id (layKs ks)).isSome=true):=by
 have h1:=fzK_lay (id:=id) ks up K []
 have h2:=flK_up (id:=id) (layKs ks) [] (up.map Fr.lay) (layKs [])
 rw[List.nil_append] at h2
 rw[h2] at h1
 cases hz:fzK up K [] id ks with
 |none=>
  rw[hz] at h1
  left
  refine⟨rfl,?_⟩
  cases hf:flK [] [] id (layKs ks) with
  |none=>rfl
  |some z=>rw[show flK [] (layKs []) id (layKs ks)=flK [] [] id (layKs ks) from rfl,hf] at h1;cases h1
 |some z=>
  rw[hz] at h1
  right
  refine⟨z,rfl,?_⟩
  cases hf:flK [] [] id (layKs ks) with
  |none=>rw[show flK [] (layKs []) id (layKs ks)=flK [] [] id (layKs ks) from rfl,hf] at h1;cases h1
  |some z=>rfl
theorem c40{b d:Nat}{e:Ed}{s:EdS}{K:Sl3}{ks:List T}(hs:St H0 H (resRoot b K ks++σ))(hc:cntKs (layKs ks)≤1000000000)
 (hbad: ∀H',(moveL (layKs ks) e).1≠0→St H0 H' σ→R (.int .i64 (moveL (layKs ks) e).1) H')
 (hok: ∀Kn ksn H',(moveL (layKs ks) e).1=0→layKs ksn=(moveL (layKs ks) e).2→St H0 H' (resRoot b Kn ksn++σ)→R (.int .i64 0) H'):
 CallsH Tryz.prog 40 #[.agg (workL b d e s).toArray] H R:=by
 have bad: ∀{H':Heap} {v:Int} {x:List Lay},moveL (layKs ks) e=(v,x)→v≠0→St H0 H' σ→R (.int .i64 v) H':=fun{H' v x} hm hv hs=>by
  have:=hbad H' (by rw[hm];exact hv) hs
  rw[hm] at this;exact this
 refine Tryz.s40 ?_
 unfold Tryz.S40
 refine hs.alcE fun b2 H3 he hs3=>⟨_,hs3.get 0 rfl rfl,_,hs3.get 0 rfl (j:=3) rfl,?_⟩
 refine find_root hs3.tail (by omega) fun H7 he7 hne=>⟨_,_,_,rfl,?_⟩
 have hs7:=hs3.step he7
 rcases find_cases b K ks e.id with ⟨hz,hfl⟩|⟨fr,u,K',ks',hz,hid,hfl⟩
 ·rw[hz]
  exact br_t rfl (bad (by unfold moveL;rw[hfl]) (by decide) hs7.tail.app.2)
 ·have hop:=found_open hs7.tail hz
  obtain⟨a,ha⟩:=hop.elAd (n:=fr.pre.length) 0 rfl (by rfl)
  have hfa:fr.ad=some a:=ha
  have e1:resZ (some (fr::(u++[rootFr b]),K',ks'))=(some a,(resZ (some (fr::(u++[rootFr b]),K',ks'))).2.1,(resZ (some (fr::(u++[rootFr b]),K',ks'))).2.2):=by
   cases u<;>simp[resZ,hfa]
  rw[hz,e1]
  have hcnt:=(found_cnt hz).1
  have hfl':flK [] [] e.id (layKs ks)=some (Fr.lay fr::u.map Fr.lay,layKs ks'):=hfl
  have hM:moveL (layKs ks) e=(if (homeL (layKs ks) e.to).1≠0 then((homeL (layKs ks) e.to).1,[]) else
   if e.to=e.id∨(flK [] [] e.to (layKs ks')).isSome=true then(42,[]) else
   if (homeL (plugL (u.map Fr.lay) (layKs fr.pre++layKs fr.post)) e.to).1≠0 then((homeL (plugL (u.map Fr.lay) (layKs fr.pre++layKs fr.post)) e.to).1,[]) else
   putL (homeL (plugL (u.map Fr.lay) (layKs fr.pre++layKs fr.post)) e.to).2.1 (homeL (plugL (u.map Fr.lay) (layKs fr.pre++layKs fr.post)) e.to).2.2 e.at_ (.mk fr.f (layKs ks'))):=by
   unfold moveL;rw[hfl'];rfl
  refine br_f rfl ⟨_,rfl,rowIn_whole (hs7.block 0 rfl),?_⟩
  refine home_call hs7.tail (by omega) (fun p H13 he13 hne=>⟨_,_,rfl,br_ne (fun _=>?_) fun h=>absurd h hne⟩) fun fr2 up2 v2 K2 ks2 a2 H13 he13 hh _ _ _=>⟨_,_,rfl,br_ne (fun h=>absurd rfl h) fun _=>?_⟩
  ·exact bad (by rw[hM,if_pos hne]) hne (hs7.step he13).tail.app.2
  ·have hs13:=hs7.step he13
   rw[hh,if_neg (by simp)] at hM
   intro J hJ
   have hop13:=hop.step he13
   refine⟨_,hs13.get 0 rfl (j:=4) rfl,?_⟩
   refine c65 (fr.node K' ks') (fr:=fr) (up:=u++[rootFr b]) hfa (hop13.elRow 0 rfl (cellsKs_len fr.pre) ha) (open_rdT hop13) (by show cntKs (layKs ks')≤_;omega) fun H39 he39 hne39=>⟨_,_,_,rfl,?_⟩
   have hs39:=hs13.step he39
   refine⟨_,hs39.get 0 rfl (j:=4) rfl,_,hs39.get 0 rfl (j:=3) rfl,br_eq (fun h=>?_) fun h=>?_⟩
   ·exact bad (by rw[hM,if_pos (.inl h)]) (by decide) hs39.tail.app.2
   rcases below_eq (fr::(u++[rootFr b])) K' ks' e.to with ⟨hb,hb2⟩|⟨z,hb,hb2⟩
   rotate_left
   ·have h2:=hne39 z hb
    refine br_t ?_ (bad (by rw[hM,if_pos (.inr hb2)]) (by decide) hs39.tail.app.2)
    show(!(resZ (fzK (fr::(u++[rootFr b])) K' [] e.to ks')).1.isNone)=true
    rw[hb]
    cases h4:(resZ (some z)).1 with
    |none=>exact absurd h4 h2
    |some _=>rfl
   refine br_f (by show(!(resZ (fzK (fr::(u++[rootFr b])) K' [] e.to ks')).1.isNone)=false;rw[hb];rfl) (hJ _ ?_)
   rw[if_neg (by rintro(h1|h1);exact h h1;rw[hb2] at h1;cases h1)] at hM
   have hop39:=hop13.step he39
   refine⟨a,rfl,(cellsT (fr.node K' ks')).toArray,rfl,hop39.elRow 0 rfl (cellsKs_len fr.pre) ha,?_⟩
   refine hs39.alcE fun b20 H21 he21 hs21=>⟨rfl,hs21.putAll 0 rfl rfl (cellsT_one (fr.node K' ks')) fun H22 hs22=>?_⟩
   refine⟨_,rfl,rowIn_whole (hs22.block 1 rfl),?_⟩
   have hs22':St H0 H22 (resRoot b K ks++(.cell b20 (cellsT (fr.node K' ks')).toArray 70:: .cell b2 (workL b d e s).toArray 100::σ)):=by
    refine hs22.perm (permC fun _ x=>?_)
    show List.count x (.cell b20 (cellsT (fr.node K' ks')).toArray 70:: .cell b2 (workL b d e s).toArray 100::(resRoot b K ks++σ))=_
    simp only[List.count_append,List.count_cons]
    ac_rfl
   refine c39 hs22' hc (fun h=>by rw[hz] at h;cases h) fun fr0 u0 K0 ks0 Kn ksn H25 hz0 hlay hs25=>⟨_,rfl,?_⟩
   rw[hz] at hz0
   simp only[Option.some.injEq,Prod.mk.injEq,List.cons.injEq] at hz0
   obtain⟨⟨rfl,hu0⟩,rfl,rfl⟩:=hz0
   have hu0:=List.append_cancel_right hu0
   subst hu0
   have hs26:St H0 H25 (.cell b20 (cellsT (fr.node K' ks')).toArray 70:: .cell b2 (workL b d e s).toArray 100::(resRoot b Kn ksn++(resT (fr.node K' ks')++σ))):=by
    refine hs25.perm (permC fun _ x=>?_)
    simp only[List.count_append,List.count_cons]
    ac_rfl
   have hcn:cntKs (layKs ksn)+cntL (layT (fr.node K' ks'))=cntKs (layKs ks):=by
    rw[hlay,cnt_plug,cntKs_app,cnt_node,hcnt,List.map_cons,cntUp]
    show _=1+cntKs (layKs fr.pre)+cntKs (layKs fr.post)+cntUp (u.map Fr.lay)+_
    omega
   refine⟨_,rfl,rowIn_whole (hs26.block 1 rfl),?_⟩
   rw[←hlay] at hM
   refine home_call (hs26.drop 2) (by omega) (fun p H29 he29 hne=>⟨_,_,rfl,br_ne (fun _=>?_) fun h=>absurd h hne⟩) fun fr3 up3 v3 K3 ks3 a3 H29 he29 hh3 hv3 hp3 ha3=>⟨_,_,rfl,br_ne (fun h=>absurd rfl h) fun _=>?_⟩
   ·exact bad (by rw[hM,if_pos hne]) hne ((hs26.drop 2).step he29).app.2.app.2
   ·have hs29:=hs26.step he29
    rw[hh3,if_neg (by simp)] at hM
    have hop29:=(hs29.drop 2).opened hp3
    have hc3:=plugZ_cnt (hv3▸hp3)
    have hlen3:=len_cnt (layKs ks3)
    rw[layKs_len] at hlen3
    refine⟨_,rfl,rowIn_whole (hs29.block 1 rfl),_,rfl,rowIn_whole (hs29.block 0 rfl),?_⟩
    refine c71 (l:=fr.node K' ks') hv3 ha3 hop29 (by omega) (by omega) (fun hn H35 he35=>⟨_,rfl,?_⟩) fun i K4 H35 hi hs35=>⟨_,rfl,?_⟩
    ·refine bad (v:=43) (x:=[]) ?_ (by decide) (hop29.step he35).app.2.app.2
     rw[hM];unfold putL;rw[layKs_len,hn]
    ·have hput:moveL (layKs ks) e=((if 64<depKs (plugL (v3.map Fr.lay) (layKs (ks3.take i++fr.node K' ks'::ks3.drop i))) then 31 else 0),plugL (v3.map Fr.lay) (layKs (ks3.take i++fr.node K' ks'::ks3.drop i))):=by
      rw[hM];unfold putL;rw[layKs_len,hi]
      have:(layKs ks3).take i++Lay.mk fr.f (layKs ks')::(layKs ks3).drop i=layKs (ks3.take i++fr.node K' ks'::ks3.drop i):=by
       rw[layKs_app,layKs,layKs_map (ks3.take i),layKs_map (ks3.drop i),layKs_map ks3,List.map_take,List.map_drop];rfl
      simp only[this]
     by_cases h64:64<depKs (plugL (v3.map Fr.lay) (layKs (ks3.take i++fr.node K' ks'::ks3.drop i)))
     ·rw[if_pos h64] at hput ⊢
      exact bad hput (by decide) hs35.app.2
     ·rw[if_neg h64] at hput ⊢
      exact hok _ _ H35 (by rw[hput]) (by rw[hput,←plug_lay v3 K4]) (closed_v hv3 hs35)
end Go.Proofs
namespace Go.Proofs
open Go.Sh
variable {H0 H:Heap} {σ:List Rs} {R:Value→Heap→Prop}
theorem c34(hR: ∀H',Ext H H'→R (.agg #[.int .i64 65536,.int .i64 0,.int .i64 0,.int .i64 65536,.int .i64 0,.int .i64 0]) H'):CallsH Tryz.prog 34 #[] H R:=by
 refine Tryz.s34 (_u:=()) ?_
 unfold Tryz.S34
 refine(St.nil H).alc fun b1 H2 hs2=>⟨rfl,hs2.putAll 0 rfl rfl (by simp[Value.oneCell']) fun H3 hs3=>⟨_,rfl,rowIn_whole (hs3.block 0 rfl),hR H3 hs3.ext⟩⟩
def f0L(next n:Int):LayF:=⟨next,n,false,255,0,0,0,[],[],⟨65536,0,0,65536,0,0⟩,false,2,[]⟩
theorem reps_ints(n:Nat):(reps n (Array.toList #[Value.int .i64 0])).toArray.toList=ints (List.replicate n 0):=by
 show reps n [Value.int .i64 0]=_
 rw[reps_rep];simp[ints]
theorem c38{b d:Nat}{e:Ed}{s:EdS}{K K0:Sl3}{ks:List T}{w h next:Int}(hs:St H0 H (resRoot b K ks++(.cell d (docA w h next K0) 26::σ)))(hc:cntKs (layKs ks)≤1000000000)(hnx:0≤next∧next≤1000000000000000)
 (hbad: ∀H',(addL next (layKs ks) e).1≠0→St H0 H' σ→R (.int .i64 (addL next (layKs ks) e).1) H')
 (hok: ∀Kn ksn H',(addL next (layKs ks) e).1=0→layKs ksn=(addL next (layKs ks) e).2→St H0 H' (resRoot b Kn ksn++(.cell d (docA w h (next+1) K0) 26::σ))→R (.int .i64 0) H'):
 CallsH Tryz.prog 38 #[.agg (workL b d e s).toArray] H R:=by
 have bad: ∀{H':Heap} {v:Int} {x:List Lay},addL next (layKs ks) e=(v,x)→v≠0→St H0 H' σ→R (.int .i64 v) H':=fun{H' v x} hm hv hs=>by
  have:=hbad H' (by rw[hm];exact hv) hs
  rw[hm] at this;exact this
 have hs:St H0 H (.cell d (docA w h next K0) 26::(resRoot b K ks++σ)):=hs.perm (permC fun _ x=>by simp only[List.count_append,List.count_cons];ac_rfl)
 refine Tryz.s38 ?_
 unfold Tryz.S38
 refine hs.alcE fun b2 H3 he hs3=>?_
 intro J4 hJ4
 have main4: ∀lb H6,St H0 H6 (.cell lb (cellsL (f0L next e.n) Sl3.nil.v Sl3.nil.v Sl3.nil.v Sl3.nil.v).toArray 70:: .cell b2 (workL b d e s).toArray 100:: .cell d (docA w h next K0) 26::(resRoot b K ks++σ))→J4 [.pointer (some ⟨lb,0,none⟩)] H6:=by
  intro lb H6 hs6
  refine hJ4 _ _ ?_
  intro J7 hJ7
  refine⟨_,hs6.get 0 rfl (j:=1) rfl,br_dec (fun h=>bad (by unfold addL;rw[if_pos (.inl h)]) (by decide) (hs6.drop 3).app.2) fun hn1=>⟨_,hs6.get 0 rfl (j:=1) rfl,br_dec (fun h=>bad (by unfold addL;rw[if_pos (.inr h)]) (by decide) (hs6.drop 3).app.2) fun hn2=>hJ7 _ ?_⟩⟩
  have hn1: ¬e.n<0:=hn1
  have hn2: ¬e.n>2:=hn2
  intro J9 hJ9
  have main9: ∀(P:Sl3) H10,¬(e.n=0∧sizedB e.w e.h=false)→St H0 H10 (.cell lb (cellsL (newL next e) P.v Sl3.nil.v Sl3.nil.v Sl3.nil.v).toArray 70:: .cell b2 (workL b d e s).toArray 100:: .cell d (docA w h next K0) 26::
   .sl P.p P.l P.c 3 1 (ints (newL next e).p)::(resRoot b K ks++σ))→J9 [] H10:=by
   intro P H10 hsz hs10
   have hA:addL next (layKs ks) e=(if (homeL (layKs ks) e.to).1≠0 then((homeL (layKs ks) e.to).1,[]) else
    if (putL (homeL (layKs ks) e.to).2.1 (homeL (layKs ks) e.to).2.2 e.at_ (.mk (newL next e) [])).1≠0 then((putL (homeL (layKs ks) e.to).2.1 (homeL (layKs ks) e.to).2.2 e.at_ (.mk (newL next e) [])).1,[]) else
    if 4096≤cntKs (layKs ks) then(31,[]) else(0,(putL (homeL (layKs ks) e.to).2.1 (homeL (layKs ks) e.to).2.2 e.at_ (.mk (newL next e) [])).2)):=by
    unfold addL
    rw[if_neg (show ¬(e.n<0∨e.n>2) by omega),if_neg hsz]
   refine hJ9 _ ⟨_,rfl,rowIn_whole (hs10.block 1 rfl),?_⟩
   refine home_call (hs10.drop 4) (by omega) (fun p H13 he13 hne=>⟨_,_,rfl,br_ne (fun _=>?_) fun h=>absurd h hne⟩) fun fr up v K' ks' a H13 he13 hh hv hp ha=>⟨_,_,rfl,br_ne (fun h=>absurd rfl h) fun _=>?_⟩
   ·exact bad (by rw[hA,if_pos hne]) hne ((hs10.drop 4).step he13).app.2
   ·have hs13:=hs10.step he13
    rw[hh,if_neg (by simp)] at hA
    obtain⟨a0,g1,g2,g3⟩:=(hs13.drop 4).grp.get (i:=0) (t:=rootT _ _) rfl
    cases g1
    rw[Nat.zero_mul,add_none] at g2
    refine⟨_,hs13.get 1 rfl rfl,_,rfl,_,_,_,g2 18 _ rfl,?_⟩
    refine c70 (K:=K) (ks:=ks) (rdT.grp g3) (by omega) fun H20 he20=>⟨_,rfl,?_⟩
    have hs20:=hs13.step he20
    refine⟨_,rfl,rowIn_whole (hs20.block 1 rfl),_,rfl,rowIn_whole (hs20.block 0 rfl),?_⟩
    have hs21:St H0 H20 (resG (rootS b) [rootT K ks]++(resT (.mk (newL next e) P .nil .nil .nil [])++(.cell lb (cellsL (newL next e) P.v Sl3.nil.v Sl3.nil.v Sl3.nil.v).toArray 70:: .cell b2 (workL b d e s).toArray 100:: .cell d (docA w h next K0) 26::σ))):=by
     have h1:=((hs20.nilSl 5 1).nilSl 3 1).nilSl 70 19
     refine h1.perm (permC fun _ x=>?_)
     have e1:resT (.mk (newL next e) P .nil .nil .nil [])=[.sl P.p P.l P.c 3 1 (ints (newL next e).p),.sl none 0 0 5 1 [],.sl none 0 0 3 1 [],.sl none 0 0 70 19 []]:=rfl
     rw[e1,show resRoot b K ks=resG (rootS b) [rootT K ks] from rfl]
     simp only[List.count_append,List.count_cons,List.count_nil]
     ac_rfl
    have hop:=hs21.opened hp
    have hc3:=plugZ_cnt (hv▸hp)
    have hlen3:=len_cnt (layKs ks')
    rw[layKs_len] at hlen3
    refine c71 (l:= .mk (newL next e) P .nil .nil .nil []) hv ha hop (by omega) (by show _+_+(1+0)≤_;omega) (fun hn H25 he25=>⟨_,rfl,?_⟩) fun i K4 H25 hi hs25=>⟨_,rfl,?_⟩
    ·refine br_ne (fun _=>bad (v:=43) (x:=[]) ?_ (by decide) ((hop.step he25).app.2.app.2.drop 3)) fun h=>absurd h (by decide)
     rw[hA];unfold putL;rw[layKs_len,hn];rfl
    ·have hput:putL (v.map Fr.lay) (layKs ks') e.at_ (.mk (newL next e) [])=((if 64<depKs (plugL (v.map Fr.lay) (layKs (ks'.take i++ .mk (newL next e) P .nil .nil .nil []::ks'.drop i))) then 31 else 0),plugL (v.map Fr.lay) (layKs (ks'.take i++ .mk (newL next e) P .nil .nil .nil []::ks'.drop i))):=by
      unfold putL;rw[layKs_len,hi]
      have:(layKs ks').take i++Lay.mk (newL next e) []::(layKs ks').drop i=layKs (ks'.take i++ .mk (newL next e) P .nil .nil .nil []::ks'.drop i):=by
       rw[layKs_app,layKs,layKs_map (ks'.take i),layKs_map (ks'.drop i),layKs_map ks',List.map_take,List.map_drop];rfl
      simp only[this]
     simp only[hput] at hA
     by_cases h64:64<depKs (plugL (v.map Fr.lay) (layKs (ks'.take i++ .mk (newL next e) P .nil .nil .nil []::ks'.drop i)))
     ·rw[if_pos h64] at hA ⊢
      exact br_ne (fun _=>bad (v:=31) (x:=[]) (by rw[hA];rfl) (by decide) (hs25.app.2.drop 3)) fun h=>absurd h (by decide)
     ·rw[if_neg h64] at hA ⊢
      rw[if_neg (by simp)] at hA
      refine br_ne (fun h=>absurd rfl h) fun _=>br_dec (fun h4=>?_) fun h4=>?_
      ·exact bad (v:=31) (x:=[]) (by rw[hA,if_pos (by omega)]) (by decide) (hs25.app.2.drop 3)
      ·rw[if_neg (by omega)] at hA
       have hs26:St H0 H25 (.cell lb (cellsL (newL next e) P.v Sl3.nil.v Sl3.nil.v Sl3.nil.v).toArray 70:: .cell b2 (workL b d e s).toArray 100:: .cell d (docA w h next K0) 26::(openR fr up K4 (ks'.take i++ .mk (newL next e) P .nil .nil .nil []::ks'.drop i)++σ)):=
        hs25.perm (permC fun _ x=>by simp only[List.count_append,List.count_cons];ac_rfl)
       refine⟨_,hs26.get 1 rfl (j:=1) rfl,_,rfl,_,hs26.get 2 rfl (j:=2) rfl,_,rfl,?_⟩
       rw[wrap_id (by omega) (by omega)]
       refine hs26.put 2 rfl (j:=2) (Nat.le_of_ble_eq_true rfl) rfl fun H31 hs31=>?_
       refine hok (plugZ v K4 (ks'.take i++ .mk (newL next e) P .nil .nil .nil []::ks'.drop i)).1 (plugZ v K4 (ks'.take i++ .mk (newL next e) P .nil .nil .nil []::ks'.drop i)).2 H31 (by rw[hA]) (by rw[hA,←plug_lay v K4]) ?_
       have hs32:=closed_v hv (σ:= .cell d (docA w h (next+1) K0) 26::σ) ((hs31.drop 2).perm (permC fun _ x=>by
        show List.count x (.cell d (docA w h (next+1) K0) 26::(openR fr up K4 (ks'.take i++ .mk (newL next e) P .nil .nil .nil []::ks'.drop i)++σ))=_
        simp only[List.count_append,List.count_cons];ac_rfl))
       exact hs32
  refine⟨_,hs6.get 0 rfl (j:=1) rfl,br_eq (fun hn0=>?_) fun hn0=>?_⟩
  ·have hn0:e.n=0:=hn0
   have hnew:newL next e=⟨next,e.n,false,255,0,e.w,e.h,List.replicate (e.w*e.h).toNat 0,[],⟨65536,0,0,65536,0,0⟩,false,2,[]⟩:=by unfold newL;rw[if_pos hn0,if_pos hn0,if_pos hn0]
   refine⟨_,hs6.get 1 rfl (j:=10) rfl,_,hs6.get 1 rfl (j:=11) rfl,?_⟩
   refine c6 (fun hsz H36 he36=>⟨_,_,rfl,?_⟩) fun hsz H36 he36=>⟨_,_,rfl,?_⟩
   rotate_left
   ·refine(hs6.step he36).alc fun b39 H40 hs40=>⟨rfl,hs40.putAll 0 rfl rfl (by simp[docA,Value.oneCell',Sl3.v,Sl3.nil]) fun H41 hs41=>br_ne (fun _=>?_) fun h=>absurd h (by decide)⟩
    refine bad (v:=31) (x:=[]) ?_ (by decide) (hs41.drop 4).app.2
    unfold addL
    rw[if_neg (show ¬(e.n<0∨e.n>2) by omega),if_pos ⟨hn0,hsz⟩]
   refine(hs6.step he36).alc fun b39 H40 hs40=>⟨rfl,hs40.putAll 0 rfl rfl (by simp[docA,Value.oneCell',Sl3.v,Sl3.nil]) fun H41 hs41=>br_ne (fun h=>absurd rfl h) fun _=>?_⟩
   have hsz':=of_decide_eq_true hsz
   obtain⟨q1,q2,q3,q4,q5⟩:=hsz'
   have hw:IntKind.wrap .i64 (e.w*e.h)=e.w*e.h:=wrap_area q1 q2 q3 q4
   have hpos:0≤e.w*e.h:=Int.mul_nonneg (by omega) (by omega)
   have hnsz: ¬(e.n=0∧sizedB e.w e.h=false):=fun hh=>by rw[hsz] at hh;exact absurd hh.2 (by simp)
   refine⟨_,hs41.get 0 rfl (j:=0) rfl,_,hs41.get 0 rfl (j:=1) rfl,_,hs41.get 0 rfl (j:=0) rfl,_,hs41.get 0 rfl (j:=1) rfl,?_⟩
   rw[hw]
   have hbnd:0≤e.w*e.h∧e.w*e.h≤e.w*e.h∧((8:Nat):Int)*(e.w*e.h)≤281474976710656∧e.w*e.h≤281474976710656:=⟨hpos,Int.le_refl _,by omega,by omega⟩
   have fin: ∀(pb:Nat) (H':Heap) (τ:List Rs),St H0 H' (.cell lb (cellsL (newL next e) (Value.slice (some ⟨pb,0,none⟩) (e.w*e.h).toNat (e.w*e.h).toNat) Sl3.nil.v Sl3.nil.v Sl3.nil.v).toArray 70:: .cell b2 (workL b d e s).toArray 100:: .cell d (docA w h next K0) 26::
    .cell pb (reps (e.w*e.h).toNat (Array.toList #[Value.int .i64 0])).toArray 3::(resRoot b K ks++σ))→J9 [] H':=fun pb H' τ hs=>by
    refine main9 ⟨some ⟨pb,0,none⟩,(e.w*e.h).toNat,(e.w*e.h).toNat⟩ H' hnsz ?_
    have:=hs.toSl 3 (l:=(e.w*e.h).toNat) (k:=1) (fs:=ints (newL next e).p) rfl (by simp[reps_length]) (by rw[reps_ints,hnew]) (ints_one _)
    exact this
   refine⟨⟨hbnd.1,hbnd.2.1,hbnd.2.2.1,hbnd.2.2.2,?_⟩,?_⟩
   ·refine hs41.alcE fun b46 H47 he47 hs47=>⟨.inl he47,hs47.put 2 rfl (j:=5) (Nat.le_of_ble_eq_true rfl) rfl fun H48 hs48=>⟨.inr ⟨_,hs48.get 1 rfl (j:=1) rfl,rfl⟩,hs48.put 2 rfl (j:=6) (Nat.le_of_ble_eq_true rfl) rfl fun H49 hs49=>hs49.put 2 rfl (j:=7) (Nat.le_of_ble_eq_true rfl) rfl fun H50 hs50=>?_⟩⟩
    refine fin b46 H50 [] ?_
    rw[hnew]
    have h1:=St.del hs50 1
    have h2:=h1.front 1 rfl
    have h3:=h2.front 2 rfl
    exact(h1.perm (permC fun _ x=>by
     show List.count x (.cell b46 (reps (e.w*e.h).toNat (Array.toList #[Value.int .i64 0])).toArray 3:: .cell lb _ 70:: .cell b2 (workL b d e s).toArray 100:: .cell d (docA w h next K0) 26::(resRoot b K ks++σ))=_
     simp only[List.count_append,List.count_cons];ac_rfl))
   ·refine hs41.put 1 rfl (j:=5) (Nat.le_of_ble_eq_true rfl) rfl fun H54 hs54=>⟨.inr ⟨⟨_,hs54.get 0 rfl (j:=1) rfl,rfl⟩,⟨_,hs54.get 0 rfl (j:=0) rfl,rfl⟩,⟨_,hs54.get 0 rfl (j:=1) rfl,rfl⟩⟩,⟨⟨hbnd.1,hbnd.2.1,hbnd.2.2.1,hbnd.2.2.2,?_⟩,?_⟩⟩
    ·refine hs54.alcE fun b55 H56 he56 hs56=>⟨.inl he56,hs56.put 2 rfl (j:=6) (Nat.le_of_ble_eq_true rfl) rfl fun H57 hs57=>hs57.put 2 rfl (j:=7) (Nat.le_of_ble_eq_true rfl) rfl fun H58 hs58=>?_⟩
     refine fin b55 H58 [] ?_
     rw[hnew]
     exact((St.del hs58 1).perm (permC fun _ x=>by
      show List.count x (.cell b55 (reps (e.w*e.h).toNat (Array.toList #[Value.int .i64 0])).toArray 3:: .cell lb _ 70:: .cell b2 (workL b d e s).toArray 100:: .cell d (docA w h next K0) 26::(resRoot b K ks++σ))=_
      simp only[List.count_append,List.count_cons];ac_rfl))
    ·refine hs54.put 1 rfl (j:=6) (Nat.le_of_ble_eq_true rfl) rfl fun H60 hs60=>⟨.inr ⟨⟨_,hs60.get 0 rfl (j:=1) rfl,rfl⟩,⟨_,hs60.get 0 rfl (j:=0) rfl,rfl⟩⟩,hbnd.1,hbnd.2.1,hbnd.2.2.1,hbnd.2.2.2,?_⟩
     refine hs60.alcE fun b61 H62 he62 hs62=>hs62.put 2 rfl (j:=7) (Nat.le_of_ble_eq_true rfl) rfl fun H63 hs63=>?_
     refine fin b61 H63 [] ?_
     rw[hnew]
     exact((St.del hs63 1).perm (permC fun _ x=>by
      show List.count x (.cell b61 (reps (e.w*e.h).toNat (Array.toList #[Value.int .i64 0])).toArray 3:: .cell lb _ 70:: .cell b2 (workL b d e s).toArray 100:: .cell d (docA w h next K0) 26::(resRoot b K ks++σ))=_
      simp only[List.count_append,List.count_cons];ac_rfl))
  ·have hn0:e.n≠0:=hn0
   have hnew:newL next e=f0L next e.n:=by unfold newL f0L;rw[if_neg hn0,if_neg hn0,if_neg hn0]
   refine main9 .nil H6 (fun hh=>hn0 hh.1) ?_
   rw[hnew]
   exact(hs6.nilSl 3 1).perm (permC fun _ x=>by
    show _=List.count x (.cell lb _ 70:: .cell b2 (workL b d e s).toArray 100:: .cell d (docA w h next K0) 26:: .sl none 0 0 3 1 []::(resRoot b K ks++σ))
    simp only[List.count_append,List.count_cons];ac_rfl)
 refine⟨_,hs3.get 0 rfl (j:=1) rfl,_,rfl,_,hs3.get 1 rfl (j:=2) rfl,_,hs3.get 0 rfl (j:=6) rfl,?_,?_⟩
 ·refine c34 fun H76 he76=>⟨_,rfl,.inl he76,rfl,by decide,?_⟩
  refine(hs3.step he76).alcE fun b78 H79 he79 hs79=>⟨.inl he79,rfl,hs79.putAll 0 rfl rfl (cellsL_one (f0L next e.n) .nil .nil .nil .nil) fun H80 hs80=>main4 b78 H80 hs80⟩
 ·refine hs3.alcE fun b87 H88 he88 hs88=>⟨.inl he88,?_⟩
  refine c34 fun H90 he90=>⟨_,rfl,.inl he90,rfl,by decide,rfl,?_⟩
  exact(hs88.step he90).putAll 0 rfl rfl (cellsL_one (f0L next e.n) .nil .nil .nil .nil) fun H92 hs92=>main4 b87 H92 hs92
end Go.Proofs
namespace Go.Proofs
open Go.Sh
variable {H0 H:Heap} {σ:List Rs} {R:Value→Heap→Prop}
def chgL(g:LayF→Int×LayF)(D:List Lay)(id:Int):Int×List Lay:=
 match flK [] [] id D with
 |some (fr::u,ks)=>if (g fr.f).1≠0 then((g fr.f).1,[]) else(0,plugL (⟨fr.pre,(g fr.f).2,fr.post⟩::u) ks)
 |_=>(40,[])
theorem tgt{b d:Nat}{e:Ed}{s:EdS}{K:Sl3}{ks:List T}{r:Rs}(hs:St H0 H (r::(resRoot b K ks++σ)))(hc:cntKs (layKs ks)≤1000000000000)
 (h0:flK [] [] e.id (layKs ks)=none→ ∀H',St H0 H' (r::(resRoot b K ks++σ))→R (.tuple #[.pointer none,.int .i64 40]) H')
 (h1: ∀fr u K' ks' a H',flK [] [] e.id (layKs ks)=some (Fr.lay fr::u.map Fr.lay,layKs ks')→fr.ad=some a→St H0 H' (r::(openR fr (u++[rootFr b]) K' ks'++σ))→R (.tuple #[.pointer (some a),.int .i64 0]) H'):
 CallsH Tryz.prog 73 #[.agg (workL b d e s).toArray] H R:=by
 refine c73 (hs.tail) hc (fun hz H' he=>?_) fun z a hz ha H' he=>?_
 ·rcases find_cases b K ks e.id with ⟨_,hl⟩|⟨fr,u,K',ks',hz',hid,hl⟩
  ·exact h0 hl H' (hs.step he)
  ·rw[hz] at hz';cases hz'
 ·rcases find_cases b K ks e.id with ⟨hz',hl⟩|⟨fr,u,K',ks',hz',hid,hl⟩
  ·rw[hz] at hz';cases hz'
  ·rw[hz] at hz'
   cases hz'
   have hfa:fr.ad=some a:=by rw[←ha];cases u<;>rfl
   refine h1 fr u K' ks' a H' hl hfa ?_
   have hp:=fzK_plug ks _ _ _ _ hz
   have:=(hs.step he).perm (τ:=(resRoot b K ks++(r::σ))) (permC fun _ x=>by simp only[List.count_append,List.count_cons];ac_rfl)
   exact(this.opened (hp.trans rfl)).perm (permC fun _ x=>by simp only[List.count_append,List.count_cons];ac_rfl)
theorem chg_none{g:LayF→Int×LayF}{D:List Lay}{id:Int}(h:flK [] [] id D=none):chgL g D id=(40,[]):=by unfold chgL;rw[h]
theorem chg_bad{g:LayF→Int×LayF}{D:List Lay}{id:Int}{fr:FrL}{u:List FrL}{ks:List Lay}{v:Int}{x:LayF}(h:flK [] [] id D=some (fr::u,ks))(hg:g fr.f=(v,x))(hv:v≠0):chgL g D id=(v,[]):=by
 unfold chgL;rw[h];simp only[hg,ne_eq,hv,not_false_eq_true,if_true]
theorem chg_ok{g:LayF→Int×LayF}{D:List Lay}{id:Int}{fr:FrL}{u:List FrL}{ks:List Lay}{x:LayF}(h:flK [] [] id D=some (fr::u,ks))(hg:g fr.f=(0,x)):chgL g D id=(0,plugL (⟨fr.pre,x,fr.post⟩::u) ks):=by
 unfold chgL;rw[h];simp only[hg,ne_eq,not_true_eq_false,if_false]
structure Chg(g:LayF→Int×LayF)(H0:Heap)(σ:List Rs)(R:Value→Heap→Prop)(b:Nat)(ks:List T)(id:Int):Prop where
 bad: ∀H',(chgL g (layKs ks) id).1≠0→St H0 H' σ→R (.int .i64 (chgL g (layKs ks) id).1) H'
 ok: ∀Kn ksn H',(chgL g (layKs ks) id).1=0→layKs ksn=(chgL g (layKs ks) id).2→St H0 H' (resRoot b Kn ksn++σ)→R (.int .i64 0) H'
theorem Chg.none{g:LayF→Int×LayF}{b:Nat}{ks:List T}{id:Int}(hc:Chg g H0 σ R b ks id)(h:flK [] [] id (layKs ks)=none){H':Heap}(hs:St H0 H' σ):R (.int .i64 40) H':=by
 have:=hc.bad H' (by rw[chg_none h];decide) hs
 rw[chg_none h] at this;exact this
theorem Chg.err{g:LayF→Int×LayF}{b:Nat}{ks:List T}{id:Int}(hc:Chg g H0 σ R b ks id){fr:Fr}{u:List Fr}{ks':List T}(h:flK [] [] id (layKs ks)=some (Fr.lay fr::u.map Fr.lay,layKs ks')){v:Int}{x:LayF}(hg:g fr.f=(v,x))(hv:v≠0){H':Heap}(hs:St H0 H' σ):R (.int .i64 v) H':=by
 have e:=chg_bad (g:=g) h hg hv
 have:=hc.bad H' (by rw[e];exact hv) hs
 rw[e] at this;exact this
theorem Chg.done{g:LayF→Int×LayF}{b:Nat}{ks:List T}{id:Int}(hc:Chg g H0 σ R b ks id){fr:Fr}{u:List Fr}{K':Sl3}{ks':List T}(h:flK [] [] id (layKs ks)=some (Fr.lay fr::u.map Fr.lay,layKs ks')){f:LayF}{P M A:Sl3}(hg:g fr.f=(0,f)){H':Heap}
 (hs:St H0 H' (openR ⟨fr.hdr,fr.pre,f,P,M,A,fr.post⟩ (u++[rootFr b]) K' ks'++σ)):R (.int .i64 0) H':=by
 have e:=chg_ok (g:=g) h hg
 refine hc.ok (plugZ (⟨fr.hdr,fr.pre,f,P,M,A,fr.post⟩::u) K' ks').1 (plugZ (⟨fr.hdr,fr.pre,f,P,M,A,fr.post⟩::u) K' ks').2 H' (by rw[e]) ?_ (close_at hs)
 rw[e,plug_lay];rfl
def lookF(e:Ed)(f:LayF):Int×LayF:=if e.n<0∨e.n>255∨e.m<0∨e.m>11 then(32,f) else if f.kind=2∧e.m≠0 then(41,f) else(0,{f with opacity:=e.n,mode:=e.m})
theorem c42{b d:Nat}{e:Ed}{s:EdS}{K:Sl3}{ks:List T}(hs:St H0 H (resRoot b K ks++σ))(hc:cntKs (layKs ks)≤1000000000)(hR:Chg (lookF e) H0 σ R b ks e.id):
 CallsH Tryz.prog 42 #[.agg (workL b d e s).toArray] H R:=by
 refine Tryz.s42 ?_
 unfold Tryz.S42
 refine hs.alc fun b2 H3 hs3=>⟨_,rfl,rowIn_whole (hs3.block 0 rfl),?_⟩
 refine tgt hs3 (by omega) (fun hl H6 hs6=>⟨_,_,rfl,?_⟩) fun fr u K' ks' a H6 hl ha hs6=>⟨_,_,rfl,?_⟩
 ·intro J hJ
  exact br_ne (fun _=>hR.none hl hs6.tail.app.2) fun h=>absurd h (by decide)
 intro J hJ
 have bad: ∀{v:Int} {x:LayF},lookF e fr.f=(v,x)→v≠0→R (.int .i64 v) H6:=fun hg hv=>hR.err hl hg hv hs6.tail.app.2
 refine br_ne (fun h=>absurd rfl h) fun _=>?_
 refine⟨_,hs6.get 0 rfl (j:=6) rfl,br_dec (fun c=>bad (x:=fr.f) (by unfold lookF;rw[if_pos (.inl c)]) (by decide)) fun c1=>?_⟩
 refine⟨_,hs6.get 0 rfl (j:=6) rfl,br_dec (fun c=>bad (x:=fr.f) (by unfold lookF;rw[if_pos (.inr (.inl c))]) (by decide)) fun c2=>?_⟩
 refine⟨_,hs6.get 0 rfl (j:=7) rfl,br_dec (fun c=>bad (x:=fr.f) (by unfold lookF;rw[if_pos (.inr (.inr (.inl c)))]) (by decide)) fun c3=>?_⟩
 refine⟨_,hs6.get 0 rfl (j:=7) rfl,br_dec (fun c=>bad (x:=fr.f) (by unfold lookF;rw[if_pos (.inr (.inr (.inr c)))]) (by decide)) fun c4=>?_⟩
 have hF:lookF e fr.f=if fr.f.kind=2∧e.m≠0 then(41,fr.f) else(0,{fr.f with opacity:=e.n,mode:=e.m}):=by
  unfold lookF;rw[if_neg (by rintro(h|h|h|h)<;>contradiction)]
 refine⟨a,rfl,_,hs6.elCell 1 rfl (cellsKs_len fr.pre) (cells_1 fr K') ha,?_⟩
 have go: ¬(fr.f.kind=2∧e.m≠0)→J [] H6:=fun hk=>by
  rw[if_neg hk] at hF
  refine hJ _ ⟨_,hs6.get 0 rfl (j:=6) rfl,_,hs6.get 0 rfl (j:=7) rfl,a,rfl,?_⟩
  refine hs6.elPut 1 rfl (cellsKs_len fr.pre) (j:=3) (Nat.le_of_ble_eq_true rfl) rfl ha fun H14 hs14=>⟨.inr ⟨_,hs14.get 0 rfl (j:=7) rfl,rfl⟩,a,rfl,?_⟩
  refine hs14.elPut 1 rfl (cellsKs_len fr.pre) (j:=4) (Nat.le_of_ble_eq_true rfl) rfl ha fun H16 hs16=>?_
  exact hR.done hl (P:=fr.P) (M:=fr.M) (A:=fr.A) hF hs16.tail
 refine br_eq (fun hk=>?_) fun hk=>go fun h=>hk h.1
 refine⟨_,hs6.get 0 rfl (j:=7) rfl,br_ne (fun hm=>?_) fun hm=>go fun h=>h.2 hm⟩
 exact bad (x:=fr.f) (by rw[hF,if_pos ⟨hk,hm⟩]) (by decide)
def hideF(e:Ed)(f:LayF):Int×LayF:=if e.n≠0∧e.n≠1 then(32,f) else(0,{f with hidden:=e.n==1})
theorem c43{b d:Nat}{e:Ed}{s:EdS}{K:Sl3}{ks:List T}(hs:St H0 H (resRoot b K ks++σ))(hc:cntKs (layKs ks)≤1000000000)(hR:Chg (hideF e) H0 σ R b ks e.id):
 CallsH Tryz.prog 43 #[.agg (workL b d e s).toArray] H R:=by
 refine Tryz.s43 ?_
 unfold Tryz.S43
 refine hs.alc fun b2 H3 hs3=>⟨_,rfl,rowIn_whole (hs3.block 0 rfl),?_⟩
 refine tgt hs3 (by omega) (fun hl H6 hs6=>⟨_,_,rfl,?_⟩) fun fr u K' ks' a H6 hl ha hs6=>⟨_,_,rfl,?_⟩
 ·intro J hJ
  exact br_ne (fun _=>hR.none hl hs6.tail.app.2) fun h=>absurd h (by decide)
 intro J hJ
 refine br_ne (fun h=>absurd rfl h) fun _=>?_
 have go: ¬(e.n≠0∧e.n≠1)→J [] H6:=fun hn=>by
  have hF:hideF e fr.f=(0,{fr.f with hidden:=e.n==1}):=by unfold hideF;rw[if_neg hn]
  refine hJ _ ⟨_,hs6.get 0 rfl (j:=6) rfl,a,rfl,?_⟩
  refine hs6.elPut 1 rfl (cellsKs_len fr.pre) (j:=2) (Nat.le_of_ble_eq_true rfl) rfl ha fun H14 hs14=>?_
  exact hR.done hl (P:=fr.P) (M:=fr.M) (A:=fr.A) hF hs14.tail
 refine⟨_,hs6.get 0 rfl (j:=6) rfl,br_ne (fun h0=>⟨_,hs6.get 0 rfl (j:=6) rfl,br_ne (fun h1=>?_) fun h1=>go fun h=>h.2 h1⟩) fun h0=>go fun h=>h.1 h0⟩
 exact hR.err hl (v:=32) (x:=fr.f) (by unfold hideF;rw[if_pos ⟨h0,h1⟩]) (by decide) hs6.tail.app.2
end Go.Proofs
