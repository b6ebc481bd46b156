/-
  OWN WORK. Several texts in one: GFunD, GFunE, GFunF, GFunG, GFun, ShS, ShT, ShU.
-/
import Derived.Test.YtcggbdggpdcnjaaGreatMgJpegSegmentsB

set_option linter.unusedVariables false
set_option maxRecDepth 100000
set_option linter.unusedSimpArgs false
namespace Go.Proofs
open Go.Sh Go.Sh.Plan
open Go.IntKind (wrap)
open Int (toNat)
def Tryz.S40(b1p:OA)(b1l b1c:Nat)(H:Heap)(R:Kv):Prop:=
 ∀X2:Kl,(∀(n3 i4:Int) H5,(br (decide (i4<(b1l:Int))) (∃a6,b1p=some a6∧0≤i4∧i4<(b1l:Int)∧ ∃v7,cell H5 (.add a6 (toNat i4*1))=some (.int .u8 v7)∧X2 [.int .i64 (wrap .i64 ((wrap .i64 ((256:Int)*n3))+(wrap .i64 v7))),.int .i64 (wrap .i64 (i4+1))] H5) (R (.int .i64 n3) H5))→X2 [.int .i64 n3,.int .i64 i4] H5)→X2 [.int .i64 0,.int .i64 0] H
def Tryz.p40:Plan:=(tl (tl (two (tl (one (loop [(3,3),(4,3)] [0] (two (tl (tl leaf)) (two (one leaf) leaf))))) (tl leaf))))
theorem Tryz.s40{b1p:OA}{b1l b1c:Nat}{H R}(h:Tryz.S40 b1p b1l b1c H R):Tryz.C 40 #[.slice b1p b1l b1c] H R:=vcs Tryz.tab_ok Tryz.mixed Tryz.func40 Tryz.cal40 Tryz.p40 h (by kernel_rfl)
def Tryz.S41(w1 h2:Int)(H:Heap)(R:Kv):Prop:=
 br (decide (w1≥1)) (br (decide (h2≥1)) (br (decide (w1≤32768)) (br (decide (h2≤32768)) (R (.bool (decide (((wrap .i64 (w1*h2)):Int)≤4194304))) H) (R (.bool false) H)) (R (.bool false) H)) (R (.bool false) H)) (R (.bool false) H)
def Tryz.p41:Plan:=(tl (tl leaf))
theorem Tryz.s41{w1 h2:Int}{H R}(h:Tryz.S41 w1 h2 H R):Tryz.C 41 #[.int .i64 w1,.int .i64 h2] H R:=vcs Tryz.tab_ok Tryz.mixed Tryz.func41 Tryz.cal41 Tryz.p41 h (by kernel_rfl)
def Tryz.S42(w1 h2:Int)(rg3p:OA)(rg3l rg3c:Nat)(ha4:Bool)(H:Heap)(R:Kv):Prop:=
 alc H (.cells #[.int .i64 0,.int .i64 0,.slice none 0 0,.int .i64 0,.int .i64 0,.slice none 0 0,.int .i64 0,.int .i64 0,.slice none 0 0] 119) fun b5 H6=>alc H6 (.cells #[.int .i64 0,.int .i64 0,.slice none 0 0,.int .i64 0,.int .i64 0,.slice none 0 0,.int .i64 0,.int .i64 0,.slice none 0 0] 119) fun b7 H8=> ∀X9:Kl,(∀(k10:Int) H11,(br (decide (k10<3)) (0≤(wrap .i64 (w1*h2))∧(wrap .i64 (w1*h2))≤(wrap .i64 (w1*h2))∧((8:Nat):Int)*(wrap .i64 (w1*h2))≤281474976710656∧(wrap .i64 (w1*h2))≤281474976710656∧alc H11 (.cells (List.toArray (reps (toNat (wrap .i64 (w1*h2))) (Array.toList #[.int .i64 0]))) 3) fun b12 H13=>0≤k10∧k10<((3:Nat):Int)∧#[Value.int .i64 w1,Value.int .i64 h2,Value.slice (some ⟨b12,0,none⟩) (toNat (wrap .i64 (w1*h2))) (toNat (wrap .i64 (w1*h2)))].size=3∧stAt H13 (.add ⟨b7,0,none⟩ (toNat k10*3)) (Array.toList #[.int .i64 w1,.int .i64 h2,.slice (some ⟨b12,0,none⟩) (toNat (wrap .i64 (w1*h2))) (toNat (wrap .i64 (w1*h2)))]) fun H14=>X9 [.int .i64 (wrap .i64 (k10+1))] H14) (∀X15:Kl,(∀(i16:Int) H17,(br (decide (i16<(wrap .i64 (w1*h2)))) (∀J18:Kl,(∀(c19:Addr) H20,(∀X21:Kl,(∀(k22:Int) H23,(br (decide (k22<3)) (0≤k22∧k22<((3:Nat):Int)∧ ∃s24p s24l s24c,cell H23 (.add (.add ⟨b7,0,none⟩ (toNat k22*3)) 2)=some (.slice s24p s24l s24c)∧0≤k22∧k22<((3:Nat):Int)∧ ∃v25,cell H23 (.add c19 (toNat k22*1))=some (.int .i64 v25)∧ ∃a26,s24p=some a26∧0≤i16∧i16<(s24l:Int)∧stAt H23 (.add a26 (toNat i16*1)) [.int .i64 v25] fun H27=>X21 [.int .i64 (wrap .i64 (k22+1))] H27) (X15 [.int .i64 (wrap .i64 (i16+1))] H23))→X21 [.int .i64 k22] H23)→X21 [.int .i64 0] H20)→J18 [.pointer (some c19)] H20)→ ∃a28,rg3p=some a28∧0≤(wrap .i64 ((3:Int)*i16))∧(wrap .i64 ((3:Int)*i16))<(rg3l:Int)∧ ∃v29,cell H17 (.add a28 (toNat (wrap .i64 ((3:Int)*i16))*1))=some (.int .u8 v29)∧ ∃a30,rg3p=some a30∧0≤(wrap .i64 ((wrap .i64 ((3:Int)*i16))+1))∧(wrap .i64 ((wrap .i64 ((3:Int)*i16))+1))<(rg3l:Int)∧ ∃v31,cell H17 (.add a30 (toNat (wrap .i64 ((wrap .i64 ((3:Int)*i16))+1))*1))=some (.int .u8 v31)∧ ∃a32,rg3p=some a32∧0≤(wrap .i64 ((wrap .i64 ((3:Int)*i16))+2))∧(wrap .i64 ((wrap .i64 ((3:Int)*i16))+2))<(rg3l:Int)∧ ∃v33,cell H17 (.add a32 (toNat (wrap .i64 ((wrap .i64 ((3:Int)*i16))+2))*1))=some (.int .u8 v33)∧(Tryz.C 78 #[.agg #[.int .i64 (wrap .i64 v29),.int .i64 (wrap .i64 v31),.int .i64 (wrap .i64 v33)]] H17 fun r34 H35=> ∃r36,r34= .agg r36∧alc H35 (.cells #[.int .i64 0,.int .i64 0,.int .i64 0] 73) fun b37 H38=>r36.size=3∧stAt H38 ⟨b37,0,none⟩ r36.toList fun H39=>J18 [.pointer (some ⟨b37,0,none⟩)] H39)∧(alc H17 (.cells #[.int .i64 0,.int .i64 0,.int .i64 0] 73) fun b40 H41=>(Ext H17 H41∨(∃v46,cell H41 (.add a32 (toNat (wrap .i64 ((wrap .i64 ((3:Int)*i16))+2))*1))=some (.int .u8 v46)∧Value.int .u8 v46= .int .u8 v33)∧(∃v47,cell H41 (.add a30 (toNat (wrap .i64 ((wrap .i64 ((3:Int)*i16))+1))*1))=some (.int .u8 v47)∧Value.int .u8 v47= .int .u8 v31)∧(∃v48,cell H41 (.add a28 (toNat (wrap .i64 ((3:Int)*i16))*1))=some (.int .u8 v48)∧Value.int .u8 v48= .int .u8 v29))∧Tryz.C 78 #[.agg #[.int .i64 (wrap .i64 v29),.int .i64 (wrap .i64 v31),.int .i64 (wrap .i64 v33)]] H41 fun r42 H43=> ∃r44,r42= .agg r44∧r44.size=3∧stAt H43 ⟨b40,0,none⟩ r44.toList fun H45=>J18 [.pointer (some ⟨b40,0,none⟩)] H45)) (br ha4 (0≤(1:Int)∧(1:Int)<((3:Nat):Int)∧ ∃v49,v49.size=3∧rowIn H17 (.add ⟨b7,0,none⟩ (toNat (1:Int)*3)) v49∧0≤(2:Int)∧(2:Int)<((3:Nat):Int)∧ ∃v50,v50.size=3∧rowIn H17 (.add ⟨b7,0,none⟩ (toNat (2:Int)*3)) v50∧Tryz.C 79 #[.agg v49] H17 fun r51 H52=> ∃r53,r51= .agg r53∧(Ext H17 H52∨(∃v62,v62.size=3∧rowIn H52 (.add ⟨b7,0,none⟩ (toNat (2:Int)*3)) v62∧Value.agg v62= .agg v50))∧0≤(1:Int)∧(1:Int)<((3:Nat):Int)∧Tryz.C 79 #[.agg v50] H52 fun r54 H55=> ∃r56,r54= .agg r56∧r53.size=3∧stAt H55 (.add ⟨b7,0,none⟩ (toNat (1:Int)*3)) r53.toList fun H57=>0≤(2:Int)∧(2:Int)<((3:Nat):Int)∧r56.size=3∧stAt H57 (.add ⟨b7,0,none⟩ (toNat (2:Int)*3)) r56.toList fun H58=> ∃v59,v59.size=9∧rowIn H58 ⟨b7,0,none⟩ v59∧v59.size=9∧stAt H58 ⟨b5,0,none⟩ v59.toList fun H60=> ∃re61,re61.size=9∧rowIn H60 ⟨b5,0,none⟩ re61∧R (.agg re61) H60) (∃v63,v63.size=9∧rowIn H17 ⟨b7,0,none⟩ v63∧v63.size=9∧stAt H17 ⟨b5,0,none⟩ v63.toList fun H64=> ∃re65,re65.size=9∧rowIn H64 ⟨b5,0,none⟩ re65∧R (.agg re65) H64)))→X15 [.int .i64 i16] H17)→X15 [.int .i64 0] H11))→X9 [.int .i64 k10] H11)→X9 [.int .i64 0] H8
def Tryz.p42:Plan:=(tl (tl (two (tl (one (loop [(14,3)] [0,1,2,3,8,9] (tl (two (tl leaf) (two (one (tl leaf)) leaf)))))) (two (tl (one (loop [(30,3)] [2,3,8,9,29] (tl (two (tl leaf) (two (one (tl (two (join [(12,999999)] [2,3,8,9,11,29,30] leaf) (tl (one (loop [(55,3)] [2,3,8,9,11,12,29,30] (tl (two (tl leaf) (two (one (tl leaf)) leaf))))))))) leaf)))))) (two (tl (tl leaf)) (tl leaf))))))
theorem Tryz.s42{w1 h2:Int}{rg3p:OA}{rg3l rg3c:Nat}{ha4:Bool}{H R}(h:Tryz.S42 w1 h2 rg3p rg3l rg3c ha4 H R):Tryz.C 42 #[.int .i64 w1,.int .i64 h2,.slice rg3p rg3l rg3c,.bool ha4] H R:=vcs Tryz.tab_ok Tryz.mixed Tryz.func42 Tryz.cal42 Tryz.p42 h (by kernel_rfl)
def Tryz.S43(p1:AV)(x2 y3:Int)(H:Heap)(R:Kv):Prop:=
 alc H (.cells p1 118) fun b4 H5=> ∃s6p s6l s6c,cell H5 (.add ⟨b4,0,none⟩ 2)=some (.slice s6p s6l s6c)∧ ∃h7,cell H5 (.add ⟨b4,0,none⟩ 1)=some (.int .i64 h7)∧ ∃w8,cell H5 (.add ⟨b4,0,none⟩ 0)=some (.int .i64 w8)∧ ∃w9,cell H5 (.add ⟨b4,0,none⟩ 0)=some (.int .i64 w9)∧ ∃a10,s6p=some a10∧0≤(wrap .i64 ((wrap .i64 ((min y3 (wrap .i64 (h7-1)))*w8))+(min x2 (wrap .i64 (w9-1)))))∧(wrap .i64 ((wrap .i64 ((min y3 (wrap .i64 (h7-1)))*w8))+(min x2 (wrap .i64 (w9-1)))))<(s6l:Int)∧ ∃v11,cell H5 (.add a10 (toNat (wrap .i64 ((wrap .i64 ((min y3 (wrap .i64 (h7-1)))*w8))+(min x2 (wrap .i64 (w9-1)))))*1))=some (.int .i64 v11)∧R (.int .i64 v11) H5
def Tryz.p43:Plan:=(tl (tl leaf))
theorem Tryz.s43{p1:AV}{x2 y3:Int}{H R}(h:Tryz.S43 p1 x2 y3 H R):Tryz.C 43 #[.agg p1,.int .i64 x2,.int .i64 y3] H R:=vcs Tryz.tab_ok Tryz.mixed Tryz.func43 Tryz.cal43 Tryz.p43 h (by kernel_rfl)
def Tryz.S44(s1:AV)(H:Heap)(R:Kv):Prop:=
 alc H (.cells s1 48) fun b2 H3=>alc H3 (.cells (Array.replicate 64 (Value.int .i64 0)) 48) fun b4 H5=>Tryz.C 80 #[] H5 fun r6 H7=> ∃r8,r6= .agg r8∧alc H7 (.cells (Array.replicate 64 (Value.int .i64 0)) 149) fun b9 H10=>r8.size=64∧stAt H10 ⟨b9,0,none⟩ r8.toList fun H11=>alc H11 (.cells (Array.replicate 64 (Value.int .i64 0)) 48) fun b12 H13=>alc H13 (.cells (Array.replicate 64 (Value.int .i64 0)) 48) fun b14 H15=> ∀X16:Kl,(∀(i17:Int) H18,(br (decide (i17<64)) (∀X19:Kl,(∀(x20:Int) H21,(br (decide (x20<8)) (0≤i17∧i17<((64:Nat):Int)∧ ∃v22,cell H21 (.add ⟨b12,0,none⟩ (toNat i17*1))=some (.int .i64 v22)∧(8:Int)≠0∧0≤(wrap .i64 ((wrap .i64 ((wrap .i64 (Int.tdiv i17 8))*8))+x20))∧(wrap .i64 ((wrap .i64 ((wrap .i64 (Int.tdiv i17 8))*8))+x20))<((64:Nat):Int)∧ ∃v23,cell H21 (.add ⟨b2,0,none⟩ (toNat (wrap .i64 ((wrap .i64 ((wrap .i64 (Int.tdiv i17 8))*8))+x20))*1))=some (.int .i64 v23)∧(8:Int)≠0∧0≤(Int.tmod i17 8)∧(Int.tmod i17 8)<((8:Nat):Int)∧0≤x20∧x20<((8:Nat):Int)∧ ∃v24,cell H21 (.add (.add ⟨b9,0,none⟩ (toNat (Int.tmod i17 8)*8)) (toNat x20*1))=some (.int .i64 v24)∧0≤i17∧i17<((64:Nat):Int)∧stAt H21 (.add ⟨b12,0,none⟩ (toNat i17*1)) [.int .i64 (wrap .i64 (v22+(wrap .i64 (v23*v24))))] fun H25=>X19 [.int .i64 (wrap .i64 (x20+1))] H25) (X16 [.int .i64 (wrap .i64 (i17+1))] H21))→X19 [.int .i64 x20] H21)→X19 [.int .i64 0] H18) (∀X26:Kl,(∀(i27:Int) H28,(br (decide (i27<64)) (∀X29:Kl,(∀(su30 y31:Int) H32,(br (decide (y31<8)) ((8:Int)≠0∧0≤(wrap .i64 ((wrap .i64 (y31*8))+(Int.tmod i27 8)))∧(wrap .i64 ((wrap .i64 (y31*8))+(Int.tmod i27 8)))<((64:Nat):Int)∧ ∃v33,cell H32 (.add ⟨b12,0,none⟩ (toNat (wrap .i64 ((wrap .i64 (y31*8))+(Int.tmod i27 8)))*1))=some (.int .i64 v33)∧(8:Int)≠0∧0≤(wrap .i64 (Int.tdiv i27 8))∧(wrap .i64 (Int.tdiv i27 8))<((8:Nat):Int)∧0≤y31∧y31<((8:Nat):Int)∧ ∃v34,cell H32 (.add (.add ⟨b9,0,none⟩ (toNat (wrap .i64 (Int.tdiv i27 8))*8)) (toNat y31*1))=some (.int .i64 v34)∧X29 [.int .i64 (wrap .i64 (su30+(wrap .i64 (v33*v34)))),.int .i64 (wrap .i64 (y31+1))] H32) (Tryz.C 81 #[.int .i64 su30] H32 fun r35 H36=> ∃r37,r35= .int .i64 r37∧0≤i27∧i27<((64:Nat):Int)∧stAt H36 (.add ⟨b14,0,none⟩ (toNat i27*1)) [.int .i64 r37] fun H38=>X26 [.int .i64 (wrap .i64 (i27+1))] H38))→X29 [.int .i64 su30,.int .i64 y31] H32)→X29 [.int .i64 0,.int .i64 0] H28) (∃v39,v39.size=64∧rowIn H28 ⟨b14,0,none⟩ v39∧v39.size=64∧stAt H28 ⟨b4,0,none⟩ v39.toList fun H40=> ∃re41,re41.size=64∧rowIn H40 ⟨b4,0,none⟩ re41∧R (.agg re41) H40))→X26 [.int .i64 i27] H28)→X26 [.int .i64 0] H18))→X16 [.int .i64 i17] H18)→X16 [.int .i64 0] H15
def Tryz.p44:Plan:=(tl (tl (tl (two (tl (one (loop [(12,3)] [1,2,3,4,5] (tl (two (tl leaf) (two (one (tl (tl (one (loop [(15,3)] [1,2,3,4,5,6,12] (tl (two (tl leaf) (two (one (tl leaf)) leaf)))))))) leaf)))))) (two (tl (one (loop [(39,3)] [2,3,4,5] (tl (two (tl leaf) (two (one (tl (tl (two (tl (one (loop [(9,3),(42,3)] [2,3,4,5,8,39] (tl (two (tl leaf) (two (one (tl leaf)) leaf)))))) leaf)))) leaf)))))) (tl leaf))))))
theorem Tryz.s44{s1:AV}{H R}(h:Tryz.S44 s1 H R):Tryz.C 44 #[.agg s1] H R:=vcs Tryz.tab_ok Tryz.mixed Tryz.func44 Tryz.cal44 Tryz.p44 h (by kernel_rfl)
def Tryz.S45(f1 t2:Int)(H:Heap)(R:Kv):Prop:=
 br (decide (f1<0))
 (Tryz.C 45 #[.int .i64 (wrap .i64 (0-f1)),.int .i64 t2] H fun r3 H4=> ∃r5,r3= .int .i64 r5∧R (.int .i64 (wrap .i64 (0-r5))) H4)
 ((2:Int)≠0∧t2≠0∧R (.int .i64 (wrap .i64 (Int.tdiv (wrap .i64 (f1+(wrap .i64 (Int.tdiv t2 2)))) t2))) H)
def Tryz.p45:Plan:=(tl (tg (tl leaf)))
theorem Tryz.s45{f1 t2:Int}{H R}(h:Tryz.S45 f1 t2 H R):Tryz.C 45 #[.int .i64 f1,.int .i64 t2] H R:=vcs Tryz.tab_ok Tryz.mixed Tryz.func45 Tryz.cal45 Tryz.p45 h (by kernel_rfl)
def Tryz.S46(s1p:OA)(s1l s1c:Nat)(H:Heap)(R:Kv):Prop:=
 ∀X2:Kl,(∀(i3 j4:Int) H5,(br (decide (i3<j4)) (∃a6,s1p=some a6∧0≤j4∧j4<(s1l:Int)∧ ∃v7,cell H5 (.add a6 (toNat j4*1))=some (.int .i64 v7)∧ ∃a8,s1p=some a8∧0≤i3∧i3<(s1l:Int)∧ ∃v9,cell H5 (.add a8 (toNat i3*1))=some (.int .i64 v9)∧ ∃a10,s1p=some a10∧0≤i3∧i3<(s1l:Int)∧stAt H5 (.add a10 (toNat i3*1)) [.int .i64 v7] fun H11=> ∃a12,s1p=some a12∧0≤j4∧j4<(s1l:Int)∧stAt H11 (.add a12 (toNat j4*1)) [.int .i64 v9] fun H13=>X2 [.int .i64 (wrap .i64 (i3+1)),.int .i64 (wrap .i64 (j4-1))] H13) (R (.tuple #[]) H5))→X2 [.int .i64 i3,.int .i64 j4] H5)→X2 [.int .i64 0,.int .i64 (wrap .i64 ((s1l:Int)-1))] H
def Tryz.p46:Plan:=(tl (one (loop [(2,3),(3,3)] [0] (two (tl (tl leaf)) (two (one leaf) leaf)))))
theorem Tryz.s46{s1p:OA}{s1l s1c:Nat}{H R}(h:Tryz.S46 s1p s1l s1c H R):Tryz.C 46 #[.slice s1p s1l s1c] H R:=vcs Tryz.tab_ok Tryz.mixed Tryz.func46 Tryz.cal46 Tryz.p46 h (by kernel_rfl)
def Tryz.S47(di1:Bool)(H:Heap)(R:Kv):Prop:=
 br di1
 (alc H (.cells #[.int .i64 99] 3) fun b2 H3=>Tryz.C 82 #[.slice (some ⟨b2,0,none⟩) 1 1,.int .i64 64] H3 fun r4 H5=> ∃ou6p ou6l ou6c,r4= .slice ou6p ou6l ou6c∧alc H5 (.cells #[.int .i64 17,.int .i64 18,.int .i64 24,.int .i64 47] 3) fun b7 H8=>alc H8 (.cells #[.int .i64 18,.int .i64 21,.int .i64 26,.int .i64 66] 3) fun b9 H10=>alc H10 (.cells #[.int .i64 24,.int .i64 26,.int .i64 56,.int .i64 99] 3) fun b11 H12=>alc H12 (.cells #[.int .i64 47,.int .i64 66,.int .i64 99,.int .i64 99] 3) fun b13 H14=>alc H14 (.cells #[.slice (some ⟨b7,0,none⟩) 4 4,.slice (some ⟨b9,0,none⟩) 4 4,.slice (some ⟨b11,0,none⟩) 4 4,.slice (some ⟨b13,0,none⟩) 4 4] 55) fun b15 H16=> ∀X17:Kl,(∀(v18:Int) H19,(br (decide (v18<((4:Nat):Int))) (∃a20,(some ⟨b15,0,none⟩)=some a20∧0≤v18∧v18<((4:Nat):Int)∧ ∃l21p l21l l21c,cell H19 (.add a20 (toNat v18*1))=some (.slice l21p l21l l21c)∧0≤(wrap .i64 ((8:Int)*v18))∧(wrap .i64 ((8:Int)*v18))≤(ou6l:Int)∧ ∃xs22,rowOf H19 l21p (min l21l (ou6l-(toNat (wrap .i64 ((8:Int)*v18))))*1) xs22∧copQ H19 (if ou6c=(toNat (wrap .i64 ((8:Int)*v18))) then ou6p else Option.map (fun x=>Addr.add x ((toNat (wrap .i64 ((8:Int)*v18)))*1)) ou6p) xs22 fun H23=>X17 [.int .i64 (wrap .i64 (v18+1))] H23) (R (.slice ou6p ou6l ou6c) H19))→X17 [.int .i64 v18] H19)→X17 [.int .i64 0] H16)
 (alc H (.cells #[.int .i64 16,.int .i64 11,.int .i64 10,.int .i64 16,.int .i64 24,.int .i64 40,.int .i64 51,.int .i64 61,.int .i64 12,.int .i64 12,.int .i64 14,.int .i64 19,.int .i64 26,.int .i64 58,.int .i64 60,.int .i64 55,.int .i64 14,.int .i64 13,.int .i64 16,.int .i64 24,.int .i64 40,.int .i64 57,.int .i64 69,.int .i64 56,.int .i64 14,.int .i64 17,.int .i64 22,.int .i64 29,.int .i64 51,.int .i64 87,.int .i64 80,.int .i64 62,.int .i64 18,.int .i64 22,.int .i64 37,.int .i64 56,.int .i64 68,.int .i64 109,.int .i64 103,.int .i64 77,.int .i64 24,.int .i64 35,.int .i64 55,.int .i64 64,.int .i64 81,.int .i64 104,.int .i64 113,.int .i64 92,.int .i64 49,.int .i64 64,.int .i64 78,.int .i64 87,.int .i64 103,.int .i64 121,.int .i64 120,.int .i64 101,.int .i64 72,.int .i64 92,.int .i64 95,.int .i64 98,.int .i64 112,.int .i64 100,.int .i64 103,.int .i64 99] 3) fun b24 H25=>R (.slice (some ⟨b24,0,none⟩) 64 64) H25)
def Tryz.p47:Plan:=(tl (two (tl (two (tl (two (tl (one (loop [(15,3)] [3,13,14] (tl (two (tl leaf) (two (one (tl leaf)) leaf)))))) (tl leaf))) leaf)) (tl leaf)))
theorem Tryz.s47{di1:Bool}{H R}(h:Tryz.S47 di1 H R):Tryz.C 47 #[.bool di1] H R:=vcs Tryz.tab_ok Tryz.mixed Tryz.func47 Tryz.cal47 Tryz.p47 h (by kernel_rfl)
def Tryz.S48(sl1p:OA)(sl1l sl1c:Nat)(H:Heap)(R:Kv):Prop:=
 ∀X2:Kl,(∀(si3 t4:Int) H5,(br (decide (t4<(sl1l:Int))) (∃a6,sl1p=some a6∧0≤t4∧t4<(sl1l:Int)∧ ∃s7p s7l s7c,cell H5 (.add a6 (toNat t4*1))=some (.slice s7p s7l s7c)∧br (decide (((wrap .i64 (si3+(s7l:Int))):Int)<0)) (False) (X2 [.int .i64 (wrap .i64 (si3+(s7l:Int))),.int .i64 (wrap .i64 (t4+1))] H5)) (Tryz.C 83 #[.slice none 0 0,.int .i64 si3] H5 fun r8 H9=> ∃ne10p ne10l ne10c,r8= .slice ne10p ne10l ne10c∧ ∀X11:Kl,(∀(ne12p:OA) (ne12l ne12c:Nat) (t13:Int) H14,(br (decide (t13<(sl1l:Int))) (∃a15,sl1p=some a15∧0≤t13∧t13<(sl1l:Int)∧ ∃s16p s16l s16c,cell H14 (.add a15 (toNat t13*1))=some (.slice s16p s16l s16c)∧appQ 1 1 #[.int .u8 0] H14 ne12p ne12l ne12c s16p s16l 5 fun ne17p ne17l ne17c H18=>X11 [.slice ne17p ne17l ne17c,.int .i64 (wrap .i64 (t13+1))] H18) (R (.slice ne12p ne12l ne12c) H14))→X11 [.slice ne12p ne12l ne12c,.int .i64 t13] H14)→X11 [.slice ne10p ne10l ne10c,.int .i64 0] H9))→X2 [.int .i64 si3,.int .i64 t4] H5)→X2 [.int .i64 0,.int .i64 0] H
def Tryz.p48:Plan:=(tl (tl (two (tl (one (loop [(3,3),(11,3)] [0,9,10] (tl (two (tl leaf) (two (one (tl (tl (tl (tl leaf))))) leaf)))))) (tl (two (tl (one (loop [(6,22),(27,3)] [25,26] (tl (two (tl leaf) (two (one (tl leaf)) leaf)))))) (tl leaf))))))
theorem Tryz.s48{sl1p:OA}{sl1l sl1c:Nat}{H R}(h:Tryz.S48 sl1p sl1l sl1c H R):Tryz.C 48 #[.slice sl1p sl1l sl1c] H R:=vcs Tryz.tab_ok Tryz.mixed Tryz.func48 Tryz.cal48 Tryz.p48 h (by kernel_rfl)
def Tryz.S49(v1:Int)(H:Heap)(R:Kv):Prop:=
 Tryz.C 84 #[.int .u64 (wrap .u64 (max v1 (wrap .i64 (0-v1))))] H fun r2 H3=> ∃si4,r2= .int .i64 si4∧br (decide (v1<0))
 (0≤si4∧R (.tuple #[.int .i64 si4,.int .i64 (wrap .i64 ((wrap .i64 (v1+(shlI .i64 1 si4)))-1))]) H3)
 (R (.tuple #[.int .i64 si4,.int .i64 v1]) H3)
def Tryz.p49:Plan:=(tl (tl (tg (tl leaf))))
theorem Tryz.s49{v1:Int}{H R}(h:Tryz.S49 v1 H R):Tryz.C 49 #[.int .i64 v1] H R:=vcs Tryz.tab_ok Tryz.mixed Tryz.func49 Tryz.cal49 Tryz.p49 h (by kernel_rfl)
def Tryz.S50(co1p:OA)(co1l co1c:Nat)(mo2:Int)(H:Heap)(R:Kv):Prop:=
 ∀J3:Kl,(∀H4,(∀X5:Kl,(∀(le6p:OA) (le6l le6c:Nat) (s7:Int) H8,(br (decide (s7<(co1l:Int))) (∃a9,co1p=some a9∧0≤s7∧s7<(co1l:Int)∧ ∃n10,cell H8 (.add a9 (toNat s7*1))=some (.int .i64 n10)∧ ∀J11:Kl,(∀H12,(br (decide (n10>0)) (alc H12 (.cells #[.int .i64 s7] 3) fun b13 H14=>#[Value.int .i64 n10,Value.slice (some ⟨b13,0,none⟩) 1 1].size=2∧0+2≤2∧alc H14 (.cells (List.toArray (setL [.int .i64 0,.slice none 0 0] 0 (Array.toList #[.int .i64 n10,.slice (some ⟨b13,0,none⟩) 1 1]))) 158) fun b15 H16=>appQ 2 32 #[.int .i64 0,.slice none 0 0] H16 le6p le6l le6c (some ⟨b15,0,none⟩) 1 158 fun le17p le17l le17c H18=>X5 [.slice le17p le17l le17c,.int .i64 (wrap .i64 (s7+1))] H18) (X5 [.slice le6p le6l le6c,.int .i64 (wrap .i64 (s7+1))] H12))→J11 [] H12)→br (decide (n10<0)) (R (.tuple #[.slice none 0 0,.bool false]) H8) (br (decide (n10>1099511627776)) (R (.tuple #[.slice none 0 0,.bool false]) H8) (J11 [] H8))) (0≤(co1l:Int)∧(co1l:Int)≤(co1l:Int)∧((8:Nat):Int)*(co1l:Int)≤281474976710656∧(co1l:Int)≤281474976710656∧alc H8 (.cells (List.toArray (reps (toNat (co1l:Int)) (Array.toList #[.int .i64 0]))) 3) fun b19 H20=>0≤mo2∧br (decide (((le6l:Int):Int)>(shlI .i64 1 mo2))) (R (.tuple #[.slice none 0 0,.bool false]) H20) (br (((le6l:Int):Int)==1) (∃a21,le6p=some a21∧0≤(0:Int)∧(0:Int)<(le6l:Int)∧ ∃sy22p sy22l sy22c,cell H20 (.add (.add a21 (toNat (0:Int)*2)) 1)=some (.slice sy22p sy22l sy22c)∧ ∃a23,sy22p=some a23∧0≤(0:Int)∧(0:Int)<(sy22l:Int)∧ ∃v24,cell H20 (.add a23 (toNat (0:Int)*1))=some (.int .i64 v24)∧ ∃a25,(some ⟨b19,0,none⟩)=some a25∧0≤v24∧v24<(((toNat (co1l:Int)):Nat):Int)∧stAt H20 (.add a25 (toNat v24*1)) [.int .i64 1] fun H26=>R (.tuple #[.slice (some ⟨b19,0,none⟩) (toNat (co1l:Int)) (toNat (co1l:Int)),.bool true]) H26) (Tryz.C 85 #[.slice le6p le6l le6c,.func (.func 86) #[] #[]] H20 fun r27 H28=>r27= .tuple #[]∧ ∀X29:Kl,(∀(ro30p:OA) (ro30l ro30c:Nat) (t31:Int) H32,(br (decide (t31<mo2)) (Tryz.C 88 #[.slice ro30p ro30l ro30c] H32 fun r33 H34=> ∃r35p r35l r35c,r33= .slice r35p r35l r35c∧Tryz.C 87 #[.slice le6p le6l le6c,.slice r35p r35l r35c] H34 fun r36 H37=> ∃ro38p ro38l ro38c,r36= .slice ro38p ro38l ro38c∧X29 [.slice ro38p ro38l ro38c,.int .i64 (wrap .i64 (t31+1))] H37) (0≤(max 0 (wrap .i64 ((wrap .i64 ((2:Int)*(le6l:Int)))-2)))∧(max 0 (wrap .i64 ((wrap .i64 ((2:Int)*(le6l:Int)))-2)))≤(ro30c:Int)∧ ∀X39:Kl,(∀(t40:Int) H41,(br (decide (t40<((((toNat (max 0 (wrap .i64 ((wrap .i64 ((2:Int)*(le6l:Int)))-2))))-0):Nat):Int))) (∃a42,(if ro30c=0 then ro30p else Option.map (fun x=>Addr.add x (0*2)) ro30p)=some a42∧0≤t40∧t40<((((toNat (max 0 (wrap .i64 ((wrap .i64 ((2:Int)*(le6l:Int)))-2))))-0):Nat):Int)∧ ∃v43,v43.size=2∧rowIn H41 (.add a42 (toNat t40*2)) v43∧alc H41 (.cells #[.int .i64 0,.slice none 0 0] 158) fun b44 H45=>v43.size=2∧stAt H45 ⟨b44,0,none⟩ v43.toList fun H46=> ∃sy47p sy47l sy47c,cell H46 (.add ⟨b44,0,none⟩ 1)=some (.slice sy47p sy47l sy47c)∧ ∀X48:Kl,(∀(t49:Int) H50,(br (decide (t49<(sy47l:Int))) (∃a51,sy47p=some a51∧0≤t49∧t49<(sy47l:Int)∧ ∃s52,cell H50 (.add a51 (toNat t49*1))=some (.int .i64 s52)∧ ∃a53,(some ⟨b19,0,none⟩)=some a53∧0≤s52∧s52<(((toNat (co1l:Int)):Nat):Int)∧ ∃v54,cell H50 (.add a53 (toNat s52*1))=some (.int .i64 v54)∧ ∃a55,(some ⟨b19,0,none⟩)=some a55∧0≤s52∧s52<(((toNat (co1l:Int)):Nat):Int)∧stAt H50 (.add a55 (toNat s52*1)) [.int .i64 (wrap .i64 (v54+1))] fun H56=>X48 [.int .i64 (wrap .i64 (t49+1))] H56) (X39 [.int .i64 (wrap .i64 (t40+1))] H50))→X48 [.int .i64 t49] H50)→X48 [.int .i64 0] H46) (R (.tuple #[.slice (some ⟨b19,0,none⟩) (toNat (co1l:Int)) (toNat (co1l:Int)),.bool true]) H41))→X39 [.int .i64 t40] H41)→X39 [.int .i64 0] H32))→X29 [.slice ro30p ro30l ro30c,.int .i64 t31] H32)→X29 [.slice none 0 0,.int .i64 0] H28))))→X5 [.slice le6p le6l le6c,.int .i64 s7] H8)→X5 [.slice none 0 0,.int .i64 0] H4)→J3 [] H4)→
 br (decide (mo2<1)) (R (.tuple #[.slice none 0 0,.bool false]) H) (br (decide (mo2>16)) (R (.tuple #[.slice none 0 0,.bool false]) H) (br (decide (((co1l:Int):Int)>300)) (R (.tuple #[.slice none 0 0,.bool false]) H) (J3 [] H)))
def Tryz.p50:Plan:=(tl (two (join [] [0,1] g0) (tl (two (tl (one (loop [(6,156),(29,3)] [0,1,27,28] (tl (two (tl leaf) (two (one (tl (two (join [] [0,1,6,7,8,27,28,29] g0) (tl (tl leaf))))) leaf)))))) (tl (two (tl (one (tl (two (tl leaf) (tl (two (tl (tl leaf)) leaf)))))) (tl (tl (two (tl (one (loop [(11,156),(75,3)] [6,9,74] (tl (two (tl leaf) (two (one leaf) leaf)))))) (two (tl (one (loop [(90,3)] [9,88,89] (tl (two (tl leaf) (two (one (tl (tl (one (loop [(97,3)] [9,88,89,90,95,96] (tl (two (tl leaf) (two (one (tl leaf)) leaf)))))))) leaf)))))) (tl leaf)))))))))))
theorem Tryz.s50{co1p:OA}{co1l co1c:Nat}{mo2:Int}{H R}(h:Tryz.S50 co1p co1l co1c mo2 H R):Tryz.C 50 #[.slice co1p co1l co1c,.int .i64 mo2] H R:=vcs Tryz.tab_ok Tryz.mixed Tryz.func50 Tryz.cal50 Tryz.p50 h (by kernel_rfl)
def Tryz.S51(s1p:OA)(s1l s1c:Nat)(H:Heap)(R:Kv):Prop:=
 br (Option.isNone s1p)
 (R (.slice none 0 0) H)
 (alc H (.cells #[] 3) fun b2 H3=>appQ 1 8 #[.int .i64 0] H3 (some ⟨b2,0,none⟩) 0 0 s1p s1l 3 fun ap4p ap4l ap4c H5=>R (.slice ap4p ap4l ap4c) H5)
def Tryz.p51:Plan:=(tl (tg (tl leaf)))
theorem Tryz.s51{s1p:OA}{s1l s1c:Nat}{H R}(h:Tryz.S51 s1p s1l s1c H R):Tryz.C 51 #[.slice s1p s1l s1c] H R:=vcs Tryz.tab_ok Tryz.mixed Tryz.func51 Tryz.cal51 Tryz.p51 h (by kernel_rfl)
def Tryz.S52(le1p:OA)(le1l le1c:Nat)(H:Heap)(R:Kv):Prop:=
 Tryz.C 89 #[.slice le1p le1l le1c] H fun r2 H3=> ∃r4 r5,r2= .tuple #[.int .i64 r4,.bool r5]∧ ∀J6:Kl,(∀H7,(0≤(le1l:Int)∧(le1l:Int)≤(le1l:Int)∧((8:Nat):Int)*(le1l:Int)≤281474976710656∧(le1l:Int)≤281474976710656∧alc H7 (.cells (List.toArray (reps (toNat (le1l:Int)) (Array.toList #[.int .i64 0]))) 3) fun b8 H9=> ∀X10:Kl,(∀(ne11 n12:Int) H13,(br (decide (n12≤16)) (0≤(1:Int)∧ ∀X14:Kl,(∀(ne15 s16:Int) H17,(br (decide (s16<(le1l:Int))) (∃a18,le1p=some a18∧0≤s16∧s16<(le1l:Int)∧ ∃l19,cell H17 (.add a18 (toNat s16*1))=some (.int .i64 l19)∧br (l19==n12) (∃a20,(some ⟨b8,0,none⟩)=some a20∧0≤s16∧s16<(((toNat (le1l:Int)):Nat):Int)∧stAt H17 (.add a20 (toNat s16*1)) [.int .i64 ne15] fun H21=>X14 [.int .i64 (wrap .i64 (ne15+1)),.int .i64 (wrap .i64 (s16+1))] H21) (X14 [.int .i64 ne15,.int .i64 (wrap .i64 (s16+1))] H17)) (X10 [.int .i64 ne15,.int .i64 (wrap .i64 (n12+1))] H17))→X14 [.int .i64 ne15,.int .i64 s16] H17)→X14 [.int .i64 (shlI .i64 ne11 1),.int .i64 0] H13) (R (.tuple #[.slice (some ⟨b8,0,none⟩) (toNat (le1l:Int)) (toNat (le1l:Int)),.bool true]) H13))→X10 [.int .i64 ne11,.int .i64 n12] H13)→X10 [.int .i64 0,.int .i64 1] H9)→J6 [] H7)→
 br (!r5) (R (.tuple #[.slice none 0 0,.bool false]) H3) (br (decide (r4>65536)) (R (.tuple #[.slice none 0 0,.bool false]) H3) (J6 [] H3))
def Tryz.p52:Plan:=(tl (tl (two (join [] [0] g0) (tl (tl (two (tl (one (loop [(7,3),(8,3)] [0,6] (two (tl (tl leaf)) (two (one (tl (tl (one (loop [(7,3),(33,3)] [0,6,8,31,32] (tl (two (tl leaf) (two (one (tl g0)) leaf)))))))) leaf))))) (tl leaf)))))))
theorem Tryz.s52{le1p:OA}{le1l le1c:Nat}{H R}(h:Tryz.S52 le1p le1l le1c H R):Tryz.C 52 #[.slice le1p le1l le1c] H R:=vcs Tryz.tab_ok Tryz.mixed Tryz.func52 Tryz.cal52 Tryz.p52 h (by kernel_rfl)
def Tryz.S53(w1:OA)(v2:Int)(H:Heap)(R:Kv):Prop:=
 ∀J3:Kl,(∀H4,(∃a5,w1=some a5∧ ∃b6p b6l b6c,cell H4 (.add a5 0)=some (.slice b6p b6l b6c)∧ ∃a7,w1=some a7∧ ∃n8,cell H4 (.add a7 1)=some (.int .i64 n8)∧(8:Int)≠0∧ ∃a9,b6p=some a9∧0≤(wrap .i64 (Int.tdiv n8 8))∧(wrap .i64 (Int.tdiv n8 8))<(b6l:Int)∧ ∃v10,cell H4 (.add a9 (toNat (wrap .i64 (Int.tdiv n8 8))*1))=some (.int .u8 v10)∧ ∃a11,w1=some a11∧ ∃n12,cell H4 (.add a11 1)=some (.int .i64 n12)∧ ∃a13,w1=some a13∧ ∃hi14,cell H4 (.add a13 2)=some (.bool hi14)∧Tryz.C 90 #[.int .i64 n12,.bool hi14] H4 fun r15 H16=> ∃r17,r15= .int .i64 r17∧(Ext H4 H16∨(∃v24,cell H16 (.add a9 (toNat (wrap .i64 (Int.tdiv n8 8))*1))=some (.int .u8 v24)∧Value.int .u8 v24= .int .u8 v10)∧(∃n25,cell H16 (.add a7 1)=some (.int .i64 n25)∧Value.int .i64 n25= .int .i64 n8)∧(∃b26p b26l b26c,cell H16 (.add a5 0)=some (.slice b26p b26l b26c)∧Value.slice b26p b26l b26c= .slice b6p b6l b6c))∧0≤r17∧ ∃a18,b6p=some a18∧0≤(wrap .i64 (Int.tdiv n8 8))∧(wrap .i64 (Int.tdiv n8 8))<(b6l:Int)∧stAt H16 (.add a18 (toNat (wrap .i64 (Int.tdiv n8 8))*1)) [.int .u8 (orI .u8 v10 (shlI .u8 (wrap .u8 (andI .i64 v2 1)) r17))] fun H19=> ∃a20,w1=some a20∧ ∃n21,cell H19 (.add a20 1)=some (.int .i64 n21)∧ ∃a22,w1=some a22∧stAt H19 (.add a22 1) [.int .i64 (wrap .i64 (n21+1))] fun H23=>R (.tuple #[]) H23)→J3 [] H4)→
 ∃a27,w1=some a27∧ ∃n28,cell H (.add a27 1)=some (.int .i64 n28)∧(8:Int)≠0∧br (((Int.tmod n28 8):Int)==0)
 (∃a29,w1=some a29∧ ∃b30p b30l b30c,cell H (.add a29 0)=some (.slice b30p b30l b30c)∧alc H (.cells #[.int .u8 0] 5) fun b31 H32=>appQ 1 1 #[.int .u8 0] H32 b30p b30l b30c (some ⟨b31,0,none⟩) 1 5 fun ap33p ap33l ap33c H34=> ∃a35,w1=some a35∧stAt H34 (.add a35 0) [.slice ap33p ap33l ap33c] fun H36=>J3 [] H36)
 (J3 [] H)
def Tryz.p53:Plan:=(two (join [] [0,1] (tl (tl leaf))) (tl leaf))
theorem Tryz.s53{w1:OA}{v2:Int}{H R}(h:Tryz.S53 w1 v2 H R):Tryz.C 53 #[.pointer w1,.int .i64 v2] H R:=vcs Tryz.tab_ok Tryz.mixed Tryz.func53 Tryz.cal53 Tryz.p53 h (by kernel_rfl)
def Tryz.S54(s1p:OA)(s1l s1c:Nat)(H:Heap)(R:Kv):Prop:=
 br (Option.isNone s1p)
 (R (.slice none 0 0) H)
 (alc H (.cells #[] 5) fun b2 H3=>appQ 1 1 #[.int .u8 0] H3 (some ⟨b2,0,none⟩) 0 0 s1p s1l 5 fun ap4p ap4l ap4c H5=>R (.slice ap4p ap4l ap4c) H5)
def Tryz.p54:Plan:=(tl (tg (tl leaf)))
theorem Tryz.s54{s1p:OA}{s1l s1c:Nat}{H R}(h:Tryz.S54 s1p s1l s1c H R):Tryz.C 54 #[.slice s1p s1l s1c] H R:=vcs Tryz.tab_ok Tryz.mixed Tryz.func54 Tryz.cal54 Tryz.p54 h (by kernel_rfl)
def Tryz.S55(p1:AV)(pa2 x3 y4:Int)(H:Heap)(R:Kv):Prop:=
 alc H (.cells p1 32) fun b5 H6=> ∀J7:Kl,(∀(x8:Int) H9,(∀J10:Kl,(∀(y11:Int) H12,(∃W13,cell H12 (.add ⟨b5,0,none⟩ 0)=some (.int .i64 W13)∧ ∃RG14p RG14l RG14c,cell H12 (.add ⟨b5,0,none⟩ 2)=some (.slice RG14p RG14l RG14c)∧ ∃a15,RG14p=some a15∧0≤(wrap .i64 ((3:Int)*(wrap .i64 ((wrap .i64 (y11*W13))+x8))))∧(wrap .i64 ((3:Int)*(wrap .i64 ((wrap .i64 (y11*W13))+x8))))<(RG14l:Int)∧ ∃v16,cell H12 (.add a15 (toNat (wrap .i64 ((3:Int)*(wrap .i64 ((wrap .i64 (y11*W13))+x8))))*1))=some (.int .u8 v16)∧ ∃RG17p RG17l RG17c,cell H12 (.add ⟨b5,0,none⟩ 2)=some (.slice RG17p RG17l RG17c)∧ ∃a18,RG17p=some a18∧0≤(wrap .i64 ((wrap .i64 ((3:Int)*(wrap .i64 ((wrap .i64 (y11*W13))+x8))))+1))∧(wrap .i64 ((wrap .i64 ((3:Int)*(wrap .i64 ((wrap .i64 (y11*W13))+x8))))+1))<(RG17l:Int)∧ ∃v19,cell H12 (.add a18 (toNat (wrap .i64 ((wrap .i64 ((3:Int)*(wrap .i64 ((wrap .i64 (y11*W13))+x8))))+1))*1))=some (.int .u8 v19)∧ ∃RG20p RG20l RG20c,cell H12 (.add ⟨b5,0,none⟩ 2)=some (.slice RG20p RG20l RG20c)∧ ∃a21,RG20p=some a21∧0≤(wrap .i64 ((wrap .i64 ((3:Int)*(wrap .i64 ((wrap .i64 (y11*W13))+x8))))+2))∧(wrap .i64 ((wrap .i64 ((3:Int)*(wrap .i64 ((wrap .i64 (y11*W13))+x8))))+2))<(RG20l:Int)∧ ∃v22,cell H12 (.add a21 (toNat (wrap .i64 ((wrap .i64 ((3:Int)*(wrap .i64 ((wrap .i64 (y11*W13))+x8))))+2))*1))=some (.int .u8 v22)∧Tryz.C 91 #[.int .i64 (wrap .i64 v16),.int .i64 (wrap .i64 v19),.int .i64 (wrap .i64 v22)] H12 fun r23 H24=> ∃r25,r23= .agg r25∧0≤pa2∧pa2<((3:Nat):Int)∧ ∃v26,r25[(toNat pa2*1)]?=some (.int .i64 v26)∧R (.int .i64 v26) H24)→J10 [.int .i64 y11] H12)→ ∃H27,cell H9 (.add ⟨b5,0,none⟩ 1)=some (.int .i64 H27)∧br (decide (y4≥H27)) (∃H28,cell H9 (.add ⟨b5,0,none⟩ 1)=some (.int .i64 H28)∧J10 [.int .i64 (wrap .i64 (H28-1))] H9) (J10 [.int .i64 y4] H9))→J7 [.int .i64 x8] H9)→
 ∃W29,cell H6 (.add ⟨b5,0,none⟩ 0)=some (.int .i64 W29)∧br (decide (x3≥W29))
 (∃W30,cell H6 (.add ⟨b5,0,none⟩ 0)=some (.int .i64 W30)∧J7 [.int .i64 (wrap .i64 (W30-1))] H6)
 (J7 [.int .i64 x3] H6)
def Tryz.p55:Plan:=(tl (two (join [(2,3)] [1,3,4] (tl (tl leaf))) (two (join [(3,3)] [1,2,4] (tl (tl leaf))) (tl (tl leaf)))))
theorem Tryz.s55{p1:AV}{pa2 x3 y4:Int}{H R}(h:Tryz.S55 p1 pa2 x3 y4 H R):Tryz.C 55 #[.agg p1,.int .i64 pa2,.int .i64 x3,.int .i64 y4] H R:=vcs Tryz.tab_ok Tryz.mixed Tryz.func55 Tryz.cal55 Tryz.p55 h (by kernel_rfl)
def Tryz.S56(H:Heap)(R:Kv):Prop:=
 alc H (.cells (Array.replicate 64 (Value.int .i64 0)) 48) fun b1 H2=>alc H2 (.cells (Array.replicate 64 (Value.int .i64 0)) 48) fun b3 H4=> ∀X5:Kl,(∀(u6:Int) H7,(br (decide (u6<8)) (∀X8:Kl,(∀(x9:Int) H10,(br (decide (x9<8)) (Tryz.C 92 #[.int .i64 u6,.int .i64 x9] H10 fun r11 H12=> ∃r13,r11= .int .i64 r13∧0≤(wrap .i64 ((wrap .i64 ((8:Int)*u6))+x9))∧(wrap .i64 ((wrap .i64 ((8:Int)*u6))+x9))<((64:Nat):Int)∧stAt H12 (.add ⟨b3,0,none⟩ (toNat (wrap .i64 ((wrap .i64 ((8:Int)*u6))+x9))*1)) [.int .i64 r13] fun H14=>X8 [.int .i64 (wrap .i64 (x9+1))] H14) (X5 [.int .i64 (wrap .i64 (u6+1))] H10))→X8 [.int .i64 x9] H10)→X8 [.int .i64 0] H7) (∃v15,v15.size=64∧rowIn H7 ⟨b3,0,none⟩ v15∧v15.size=64∧stAt H7 ⟨b1,0,none⟩ v15.toList fun H16=> ∃re17,re17.size=64∧rowIn H16 ⟨b1,0,none⟩ re17∧R (.agg re17) H16))→X5 [.int .i64 u6] H7)→X5 [.int .i64 0] H4
def Tryz.p56:Plan:=(tl (tl (two (tl (one (loop [(2,3)] [0,1] (two (tl (tl leaf)) (two (one (tl (one (loop [(3,3)] [0,1,2] (two (tl (tl leaf)) (two (one leaf) leaf)))))) leaf))))) (tl leaf))))
theorem Tryz.s56{_u:Unit}{H R}(h:Tryz.S56 H R):Tryz.C 56 #[] H R:=vcs Tryz.tab_ok Tryz.mixed Tryz.func56 Tryz.cal56 Tryz.p56 h (by kernel_rfl)
def Tryz.S57(n1 m2:Int)(H:Heap)(R:Kv):Prop:=
 m2≠0∧ ∀J3:Kl,(∀(r4:Int) H5,(m2≠0∧R (.int .i64 (wrap .i64 (Int.tdiv (wrap .i64 (n1-r4)) m2))) H5)→J3 [.int .i64 r4] H5)→
 br (decide (((Int.tmod n1 m2):Int)<0))
 (J3 [.int .i64 (wrap .i64 ((Int.tmod n1 m2)+m2))] H)
 (J3 [.int .i64 (Int.tmod n1 m2)] H)
def Tryz.p57:Plan:=(tl (tl (two (join [(5,3)] [0,1] (tl (tl leaf))) (tl leaf))))
theorem Tryz.s57{n1 m2:Int}{H R}(h:Tryz.S57 n1 m2 H R):Tryz.C 57 #[.int .i64 n1,.int .i64 m2] H R:=vcs Tryz.tab_ok Tryz.mixed Tryz.func57 Tryz.cal57 Tryz.p57 h (by kernel_rfl)
def Tryz.S58(r1 d2p:OA)(d2l d2c:Nat)(H:Heap)(R:Kv):Prop:=
 Tryz.C 62 #[] H fun r3 H4=> ∃r5,r3= .agg r5∧alc H4 (.cells (Array.replicate 64 (Value.int .i64 0)) 48) fun b6 H7=>r5.size=64∧stAt H7 ⟨b6,0,none⟩ r5.toList fun H8=> ∀X9:Kl,(∀(d10p:OA) (d10l d10c:Nat) H11,(br (decide (((d10l:Int):Int)>0)) (∀J12:Kl,(∀H13,(∃a14,d10p=some a14∧0≤(0:Int)∧(0:Int)<(d10l:Int)∧ ∃v15,cell H13 (.add a14 (toNat (0:Int)*1))=some (.int .u8 v15)∧ ∀X16:Kl,(∀(i17:Int) H18,(br (decide (i17<64)) (0≤i17∧i17<((64:Nat):Int)∧ ∃v19,cell H18 (.add ⟨b6,0,none⟩ (toNat i17*1))=some (.int .i64 v19)∧ ∃a20,d10p=some a20∧0≤(wrap .i64 ((1:Int)+i17))∧(wrap .i64 ((1:Int)+i17))<(d10l:Int)∧ ∃v21,cell H18 (.add a20 (toNat (wrap .i64 ((1:Int)+i17))*1))=some (.int .u8 v21)∧ ∃a22,r1=some a22∧0≤(wrap .i64 v15)∧(wrap .i64 v15)<((4:Nat):Int)∧0≤v19∧v19<((64:Nat):Int)∧stAt H18 (.add (.add (.add a22 8) (toNat (wrap .i64 v15)*64)) (toNat v19*1)) [.int .i64 (wrap .i64 v21)] fun H23=> ∃a24,d10p=some a24∧0≤(wrap .i64 ((1:Int)+i17))∧(wrap .i64 ((1:Int)+i17))<(d10l:Int)∧ ∃v25,cell H23 (.add a24 (toNat (wrap .i64 ((1:Int)+i17))*1))=some (.int .u8 v25)∧br (v25==0) (R (.bool false) H23) (X16 [.int .i64 (wrap .i64 (i17+1))] H23)) (∃a26,r1=some a26∧0≤(wrap .i64 v15)∧(wrap .i64 v15)<((4:Nat):Int)∧stAt H18 (.add (.add a26 264) (toNat (wrap .i64 v15)*1)) [.bool true] fun H27=>0≤(65:Int)∧(65:Int)≤(d10l:Int)∧X9 [.slice (if d10c=(toNat 65) then d10p else Option.map (fun x=>Addr.add x ((toNat 65)*1)) d10p) (d10l-(toNat 65)) (d10c-(toNat 65))] H27))→X16 [.int .i64 i17] H18)→X16 [.int .i64 0] H13)→J12 [] H13)→br (decide (((d10l:Int):Int)<65)) (R (.bool false) H11) (∃a28,d10p=some a28∧0≤(0:Int)∧(0:Int)<(d10l:Int)∧ ∃v29,cell H11 (.add a28 (toNat (0:Int)*1))=some (.int .u8 v29)∧br (decide (v29>3)) (R (.bool false) H11) (J12 [] H11))) (R (.bool true) H11))→X9 [.slice d10p d10l d10c] H11)→X9 [.slice d2p d2l d2c] H8
def Tryz.p58:Plan:=(tl (tl (two (one (loop [(1,22)] [0,5] (two (tl (tl leaf)) (one (two (join [] [0,1,5] g0) (tl (two (tl (one (loop [(7,3)] [0,1,5,6] (two (tl (tl leaf)) (two (one (tl g0)) leaf))))) (tl leaf)))))))) (tl leaf))))
theorem Tryz.s58{r1 d2p:OA}{d2l d2c:Nat}{H R}(h:Tryz.S58 r1 d2p d2l d2c H R):Tryz.C 58 #[.pointer r1,.slice d2p d2l d2c] H R:=vcs Tryz.tab_ok Tryz.mixed Tryz.func58 Tryz.cal58 Tryz.p58 h (by kernel_rfl)
def Tryz.S59(r1 d2p:OA)(d2l d2c:Nat)(H:Heap)(R:Kv):Prop:=
 ∀J3:Kl,(∀H4,(∃a5,r1=some a5∧stAt H4 (.add a5 3) [.bool true] fun H6=>0≤(3:Int)∧(3:Int)≤(d2c:Int)∧0≤(1:Int)∧(1:Int)≤(3:Int)∧Tryz.C 40 #[.slice (if d2c=(toNat 1) then d2p else Option.map (fun x=>Addr.add x ((toNat 1)*1)) d2p) ((toNat 3)-(toNat 1)) (d2c-(toNat 1))] H6 fun r7 H8=> ∃r9,r7= .int .i64 r9∧ ∃a10,r1=some a10∧stAt H8 (.add a10 2) [.int .i64 r9] fun H11=>0≤(5:Int)∧(5:Int)≤(d2c:Int)∧0≤(3:Int)∧(3:Int)≤(5:Int)∧Tryz.C 40 #[.slice (if d2c=(toNat 3) then d2p else Option.map (fun x=>Addr.add x ((toNat 3)*1)) d2p) ((toNat 5)-(toNat 3)) (d2c-(toNat 3))] H11 fun r12 H13=> ∃r14,r12= .int .i64 r14∧ ∃a15,r1=some a15∧stAt H13 (.add a15 1) [.int .i64 r14] fun H16=> ∀X17:Kl,(∀(k18:Int) H19,(br (decide (k18<3)) (∀J20:Kl,(∀H21,(∀J22:Kl,(∀H23,(∃a24,d2p=some a24∧0≤(wrap .i64 ((8:Int)+(wrap .i64 ((3:Int)*k18))))∧(wrap .i64 ((8:Int)+(wrap .i64 ((3:Int)*k18))))<(d2l:Int)∧ ∃v25,cell H23 (.add a24 (toNat (wrap .i64 ((8:Int)+(wrap .i64 ((3:Int)*k18))))*1))=some (.int .u8 v25)∧ ∃a26,r1=some a26∧0≤k18∧k18<((3:Nat):Int)∧stAt H23 (.add (.add a26 5) (toNat k18*1)) [.int .i64 (wrap .i64 v25)] fun H27=>X17 [.int .i64 (wrap .i64 (k18+1))] H27)→J22 [] H23)→ ∃a28,d2p=some a28∧0≤(wrap .i64 ((7:Int)+(wrap .i64 ((3:Int)*k18))))∧(wrap .i64 ((7:Int)+(wrap .i64 ((3:Int)*k18))))<(d2l:Int)∧ ∃v29,cell H21 (.add a28 (toNat (wrap .i64 ((7:Int)+(wrap .i64 ((3:Int)*k18))))*1))=some (.int .u8 v29)∧br (v29==34) (br (k18==0) (∃a30,r1=some a30∧stAt H21 (.add a30 4) [.bool true] fun H31=>J22 [] H31) (∃a32,d2p=some a32∧0≤(wrap .i64 ((7:Int)+(wrap .i64 ((3:Int)*k18))))∧(wrap .i64 ((7:Int)+(wrap .i64 ((3:Int)*k18))))<(d2l:Int)∧ ∃v33,cell H21 (.add a32 (toNat (wrap .i64 ((7:Int)+(wrap .i64 ((3:Int)*k18))))*1))=some (.int .u8 v33)∧br (v33 != 17) (R (.bool false) H21) (J22 [] H21))) (∃a34,d2p=some a34∧0≤(wrap .i64 ((7:Int)+(wrap .i64 ((3:Int)*k18))))∧(wrap .i64 ((7:Int)+(wrap .i64 ((3:Int)*k18))))<(d2l:Int)∧ ∃v35,cell H21 (.add a34 (toNat (wrap .i64 ((7:Int)+(wrap .i64 ((3:Int)*k18))))*1))=some (.int .u8 v35)∧br (v35 != 17) (R (.bool false) H21) (J22 [] H21)))→J20 [] H21)→ ∃a36,d2p=some a36∧0≤(wrap .i64 ((6:Int)+(wrap .i64 ((3:Int)*k18))))∧(wrap .i64 ((6:Int)+(wrap .i64 ((3:Int)*k18))))<(d2l:Int)∧ ∃v37,cell H19 (.add a36 (toNat (wrap .i64 ((6:Int)+(wrap .i64 ((3:Int)*k18))))*1))=some (.int .u8 v37)∧br (((wrap .i64 v37):Int) != (wrap .i64 (k18+1))) (R (.bool false) H19) (∃a38,d2p=some a38∧0≤(wrap .i64 ((8:Int)+(wrap .i64 ((3:Int)*k18))))∧(wrap .i64 ((8:Int)+(wrap .i64 ((3:Int)*k18))))<(d2l:Int)∧ ∃v39,cell H19 (.add a38 (toNat (wrap .i64 ((8:Int)+(wrap .i64 ((3:Int)*k18))))*1))=some (.int .u8 v39)∧br (decide (v39>3)) (R (.bool false) H19) (J20 [] H19))) (∃a40,r1=some a40∧ ∃W41,cell H19 (.add a40 1)=some (.int .i64 W41)∧ ∃a42,r1=some a42∧ ∃H43,cell H19 (.add a42 2)=some (.int .i64 H43)∧Tryz.C 6 #[.int .i64 W41,.int .i64 H43] H19 fun r44 H45=> ∃r46,r44= .bool r46∧R (.bool r46) H45))→X17 [.int .i64 k18] H19)→X17 [.int .i64 0] H16)→J3 [] H4)→
 ∃a47,r1=some a47∧ ∃Se48,cell H (.add a47 3)=some (.bool Se48)∧br Se48 (R (.bool false) H) (br (((d2l:Int):Int) != 15) (R (.bool false) H) (∃a49,d2p=some a49∧0≤(0:Int)∧(0:Int)<(d2l:Int)∧ ∃v50,cell H (.add a49 (toNat (0:Int)*1))=some (.int .u8 v50)∧br (v50 != 8) (R (.bool false) H) (∃a51,d2p=some a51∧0≤(5:Int)∧(5:Int)<(d2l:Int)∧ ∃v52,cell H (.add a51 (toNat (5:Int)*1))=some (.int .u8 v52)∧br (v52 != 3) (R (.bool false) H) (J3 [] H))))
def Tryz.p59:Plan:=(tl (two (join [] [0,1] g0) (tl (tl (tl (two (tl (one (loop [(5,3)] [0,1] (two (tl (tl leaf)) (two (one (two (join [] [0,1,5] g0) (two (join [] [0,1,5] (tl (tl g0))) leaf))) leaf))))) (tl leaf)))))))
theorem Tryz.s59{r1 d2p:OA}{d2l d2c:Nat}{H R}(h:Tryz.S59 r1 d2p d2l d2c H R):Tryz.C 59 #[.pointer r1,.slice d2p d2l d2c] H R:=vcs Tryz.tab_ok Tryz.mixed Tryz.func59 Tryz.cal59 Tryz.p59 h (by kernel_rfl)
def Tryz.S60(r1 d2p:OA)(d2l d2c:Nat)(H:Heap)(R:Kv):Prop:=
 ∀X3:Kl,(∀(d4p:OA) (d4l d4c:Nat) H5,(br (decide (((d4l:Int):Int)>0)) (br (decide (((d4l:Int):Int)<17)) (R (.bool false) H5) (∃a6,d4p=some a6∧0≤(0:Int)∧(0:Int)<(d4l:Int)∧ ∃v7,cell H5 (.add a6 (toNat (0:Int)*1))=some (.int .u8 v7)∧ ∀J8:Kl,(∀H9,(alc H9 (.cells #[.bool false,.slice none 0 0,.slice none 0 0,.slice none 0 0] 77) fun b10 H11=> ∀X12:Kl,(∀(n13:Int) H14,(br (decide (n13≤16)) (∀X15:Kl,(∀(i16:Int) H17,(∃a18,d4p=some a18∧0≤n13∧n13<(d4l:Int)∧ ∃v19,cell H17 (.add a18 (toNat n13*1))=some (.int .u8 v19)∧br (decide (i16<(wrap .i64 v19))) (∃L20p L20l L20c,cell H17 (.add ⟨b10,0,none⟩ 1)=some (.slice L20p L20l L20c)∧alc H17 (.cells #[.int .i64 n13] 3) fun b21 H22=>appQ 1 8 #[.int .i64 0] H22 L20p L20l L20c (some ⟨b21,0,none⟩) 1 3 fun ap23p ap23l ap23c H24=>stAt H24 (.add ⟨b10,0,none⟩ 1) [.slice ap23p ap23l ap23c] fun H25=>X15 [.int .i64 (wrap .i64 (i16+1))] H25) (X12 [.int .i64 (wrap .i64 (n13+1))] H17))→X15 [.int .i64 i16] H17)→X15 [.int .i64 0] H14) (∀J26:Kl,(∀H27,(∃L28p L28l L28c,cell H27 (.add ⟨b10,0,none⟩ 1)=some (.slice L28p L28l L28c)∧Tryz.C 93 #[.slice L28p L28l L28c] H27 fun r29 H30=> ∃r31p r31l r31c r32,r29= .tuple #[.slice r31p r31l r31c,.bool r32]∧br (!r32) (R (.bool false) H30) (stAt H30 (.add ⟨b10,0,none⟩ 2) [.slice r31p r31l r31c] fun H33=> ∃L34p L34l L34c,cell H33 (.add ⟨b10,0,none⟩ 1)=some (.slice L34p L34l L34c)∧0≤(wrap .i64 ((17:Int)+(L34l:Int)))∧(wrap .i64 ((17:Int)+(L34l:Int)))≤(d4c:Int)∧0≤(17:Int)∧(17:Int)≤(wrap .i64 ((17:Int)+(L34l:Int)))∧stAt H33 (.add ⟨b10,0,none⟩ 3) [.slice (if d4c=(toNat 17) then d4p else Option.map (fun x=>Addr.add x ((toNat 17)*1)) d4p) ((toNat (wrap .i64 ((17:Int)+(L34l:Int))))-(toNat 17)) (d4c-(toNat 17))] fun H35=>stAt H35 (.add ⟨b10,0,none⟩ 0) [.bool true] fun H36=>(16:Int)≠0∧(16:Int)≠0∧ ∃v37,v37.size=4∧rowIn H36 ⟨b10,0,none⟩ v37∧ ∃a38,r1=some a38∧0≤(wrap .i64 ((Int.tmod (wrap .i64 v7) 16)+(wrap .i64 ((4:Int)*(wrap .i64 (Int.tdiv (wrap .i64 v7) 16))))))∧(wrap .i64 ((Int.tmod (wrap .i64 v7) 16)+(wrap .i64 ((4:Int)*(wrap .i64 (Int.tdiv (wrap .i64 v7) 16))))))<((8:Nat):Int)∧v37.size=4∧stAt H36 (.add (.add a38 268) (toNat (wrap .i64 ((Int.tmod (wrap .i64 v7) 16)+(wrap .i64 ((4:Int)*(wrap .i64 (Int.tdiv (wrap .i64 v7) 16))))))*4)) v37.toList fun H39=> ∃L40p L40l L40c,cell H39 (.add ⟨b10,0,none⟩ 1)=some (.slice L40p L40l L40c)∧0≤(wrap .i64 ((17:Int)+(L40l:Int)))∧(wrap .i64 ((17:Int)+(L40l:Int)))≤(d4l:Int)∧X3 [.slice (if d4c=(toNat (wrap .i64 ((17:Int)+(L40l:Int)))) then d4p else Option.map (fun x=>Addr.add x ((toNat (wrap .i64 ((17:Int)+(L40l:Int))))*1)) d4p) (d4l-(toNat (wrap .i64 ((17:Int)+(L40l:Int))))) (d4c-(toNat (wrap .i64 ((17:Int)+(L40l:Int)))))] H39))→J26 [] H27)→ ∃L41p L41l L41c,cell H14 (.add ⟨b10,0,none⟩ 1)=some (.slice L41p L41l L41c)∧br (decide (((L41l:Int):Int)>256)) (R (.bool false) H14) (∃L42p L42l L42c,cell H14 (.add ⟨b10,0,none⟩ 1)=some (.slice L42p L42l L42c)∧br (decide (((d4l:Int):Int)<(wrap .i64 ((17:Int)+(L42l:Int))))) (R (.bool false) H14) (J26 [] H14))))→X12 [.int .i64 n13] H14)→X12 [.int .i64 1] H11)→J8 [] H9)→(16:Int)≠0∧br (decide (((Int.tmod (wrap .i64 v7) 16):Int)>3)) (R (.bool false) H5) ((16:Int)≠0∧br (decide (((wrap .i64 (Int.tdiv (wrap .i64 v7) 16)):Int)>1)) (R (.bool false) H5) (J8 [] H5)))) (R (.bool true) H5))→X3 [.slice d4p d4l d4c] H5)→X3 [.slice d2p d2l d2c] H
def Tryz.p60:Plan:=(tl (two (one (loop [(1,22)] [0] (two (tl (tl leaf)) (one (tg (tl (two (join [] [0,1,5] g0) (tl (two (tl (one (loop [(7,3)] [0,1,5,6] (two (tl (tl leaf)) (two (one (tl (one (loop [(8,3)] [0,1,5,6,7] (two (tl (tl leaf)) (two (one leaf) leaf)))))) leaf))))) (two (join [] [0,1,5,6] g0) (tl (tg (tl (tl (tl (tl leaf)))))))))))))))) (tl leaf)))
theorem Tryz.s60{r1 d2p:OA}{d2l d2c:Nat}{H R}(h:Tryz.S60 r1 d2p d2l d2c H R):Tryz.C 60 #[.pointer r1,.slice d2p d2l d2c] H R:=vcs Tryz.tab_ok Tryz.mixed Tryz.func60 Tryz.cal60 Tryz.p60 h (by kernel_rfl)
end Go.Proofs
namespace Go.Proofs
open Go.Sh Go.Sh.Plan
open Go.IntKind (wrap)
open Int (toNat)
def Tryz.S61(r1 d2p:OA)(d2l d2c:Nat)(H:Heap)(R:Kv):Prop:=
 alc H (.cells #[.int .i64 0,.int .i64 0,.int .i64 0,.int .i64 0,.int .i64 0,.int .i64 0] 81) fun b3 H4=>alc H4 (.cells #[.int .i64 0,.int .i64 0,.int .i64 0,.int .i64 0,.int .i64 0,.int .i64 0] 81) fun b5 H6=> ∀J7:Kl,(∀H8,(∀X9:Kl,(∀(k10:Int) H11,(br (decide (k10<3)) (∃a12,d2p=some a12∧0≤(wrap .i64 ((2:Int)+(wrap .i64 ((2:Int)*k10))))∧(wrap .i64 ((2:Int)+(wrap .i64 ((2:Int)*k10))))<(d2l:Int)∧ ∃v13,cell H11 (.add a12 (toNat (wrap .i64 ((2:Int)+(wrap .i64 ((2:Int)*k10))))*1))=some (.int .u8 v13)∧(16:Int)≠0∧ ∃a14,d2p=some a14∧0≤(wrap .i64 ((2:Int)+(wrap .i64 ((2:Int)*k10))))∧(wrap .i64 ((2:Int)+(wrap .i64 ((2:Int)*k10))))<(d2l:Int)∧ ∃v15,cell H11 (.add a14 (toNat (wrap .i64 ((2:Int)+(wrap .i64 ((2:Int)*k10))))*1))=some (.int .u8 v15)∧(16:Int)≠0∧ ∀J16:Kl,(∀H17,(0≤(wrap .i64 ((2:Int)*k10))∧(wrap .i64 ((2:Int)*k10))<((6:Nat):Int)∧stAt H17 (.add ⟨b5,0,none⟩ (toNat (wrap .i64 ((2:Int)*k10))*1)) [.int .i64 (wrap .i64 (Int.tdiv (wrap .i64 v13) 16))] fun H18=>0≤(wrap .i64 ((wrap .i64 ((2:Int)*k10))+1))∧(wrap .i64 ((wrap .i64 ((2:Int)*k10))+1))<((6:Nat):Int)∧stAt H18 (.add ⟨b5,0,none⟩ (toNat (wrap .i64 ((wrap .i64 ((2:Int)*k10))+1))*1)) [.int .i64 (wrap .i64 ((4:Int)+(Int.tmod (wrap .i64 v15) 16)))] fun H19=>X9 [.int .i64 (wrap .i64 (k10+1))] H19)→J16 [] H17)→ ∃a20,d2p=some a20∧0≤(wrap .i64 ((1:Int)+(wrap .i64 ((2:Int)*k10))))∧(wrap .i64 ((1:Int)+(wrap .i64 ((2:Int)*k10))))<(d2l:Int)∧ ∃v21,cell H11 (.add a20 (toNat (wrap .i64 ((1:Int)+(wrap .i64 ((2:Int)*k10))))*1))=some (.int .u8 v21)∧br (((wrap .i64 v21):Int) != (wrap .i64 (k10+1))) (∃v22,v22.size=6∧rowIn H11 ⟨b5,0,none⟩ v22∧v22.size=6∧stAt H11 ⟨b3,0,none⟩ v22.toList fun H23=> ∃re24,re24.size=6∧rowIn H23 ⟨b3,0,none⟩ re24∧R (.tuple #[.agg re24,.bool false]) H23) (br (decide (((wrap .i64 (Int.tdiv (wrap .i64 v13) 16)):Int)>3)) (∃v25,v25.size=6∧rowIn H11 ⟨b5,0,none⟩ v25∧v25.size=6∧stAt H11 ⟨b3,0,none⟩ v25.toList fun H26=> ∃re27,re27.size=6∧rowIn H26 ⟨b3,0,none⟩ re27∧R (.tuple #[.agg re27,.bool false]) H26) (br (decide (((Int.tmod (wrap .i64 v15) 16):Int)>3)) (∃v28,v28.size=6∧rowIn H11 ⟨b5,0,none⟩ v28∧v28.size=6∧stAt H11 ⟨b3,0,none⟩ v28.toList fun H29=> ∃re30,re30.size=6∧rowIn H29 ⟨b3,0,none⟩ re30∧R (.tuple #[.agg re30,.bool false]) H29) (∃a31,r1=some a31∧0≤k10∧k10<((3:Nat):Int)∧ ∃v32,cell H11 (.add (.add a31 5) (toNat k10*1))=some (.int .i64 v32)∧ ∃a33,r1=some a33∧0≤v32∧v32<((4:Nat):Int)∧ ∃v34,cell H11 (.add (.add a33 264) (toNat v32*1))=some (.bool v34)∧br (!v34) (∃v35,v35.size=6∧rowIn H11 ⟨b5,0,none⟩ v35∧v35.size=6∧stAt H11 ⟨b3,0,none⟩ v35.toList fun H36=> ∃re37,re37.size=6∧rowIn H36 ⟨b3,0,none⟩ re37∧R (.tuple #[.agg re37,.bool false]) H36) (∃a38,r1=some a38∧0≤(wrap .i64 (Int.tdiv (wrap .i64 v13) 16))∧(wrap .i64 (Int.tdiv (wrap .i64 v13) 16))<((8:Nat):Int)∧ ∃Th39,cell H11 (.add (.add (.add a38 268) (toNat (wrap .i64 (Int.tdiv (wrap .i64 v13) 16))*4)) 0)=some (.bool Th39)∧br (!Th39) (∃v40,v40.size=6∧rowIn H11 ⟨b5,0,none⟩ v40∧v40.size=6∧stAt H11 ⟨b3,0,none⟩ v40.toList fun H41=> ∃re42,re42.size=6∧rowIn H41 ⟨b3,0,none⟩ re42∧R (.tuple #[.agg re42,.bool false]) H41) (∃a43,r1=some a43∧0≤(wrap .i64 ((4:Int)+(Int.tmod (wrap .i64 v15) 16)))∧(wrap .i64 ((4:Int)+(Int.tmod (wrap .i64 v15) 16)))<((8:Nat):Int)∧ ∃Th44,cell H11 (.add (.add (.add a43 268) (toNat (wrap .i64 ((4:Int)+(Int.tmod (wrap .i64 v15) 16)))*4)) 0)=some (.bool Th44)∧br (!Th44) (∃v45,v45.size=6∧rowIn H11 ⟨b5,0,none⟩ v45∧v45.size=6∧stAt H11 ⟨b3,0,none⟩ v45.toList fun H46=> ∃re47,re47.size=6∧rowIn H46 ⟨b3,0,none⟩ re47∧R (.tuple #[.agg re47,.bool false]) H46) (J16 [] H11))))))) (∃v48,v48.size=6∧rowIn H11 ⟨b5,0,none⟩ v48∧v48.size=6∧stAt H11 ⟨b3,0,none⟩ v48.toList fun H49=> ∃re50,re50.size=6∧rowIn H49 ⟨b3,0,none⟩ re50∧R (.tuple #[.agg re50,.bool true]) H49))→X9 [.int .i64 k10] H11)→X9 [.int .i64 0] H8)→J7 [] H8)→
 ∃a51,r1=some a51∧ ∃Se52,cell H6 (.add a51 3)=some (.bool Se52)∧br (!Se52) (∃v53,v53.size=6∧rowIn H6 ⟨b5,0,none⟩ v53∧v53.size=6∧stAt H6 ⟨b3,0,none⟩ v53.toList fun H54=> ∃re55,re55.size=6∧rowIn H54 ⟨b3,0,none⟩ re55∧R (.tuple #[.agg re55,.bool false]) H54) (br (((d2l:Int):Int) != 10) (∃v56,v56.size=6∧rowIn H6 ⟨b5,0,none⟩ v56∧v56.size=6∧stAt H6 ⟨b3,0,none⟩ v56.toList fun H57=> ∃re58,re58.size=6∧rowIn H57 ⟨b3,0,none⟩ re58∧R (.tuple #[.agg re58,.bool false]) H57) (∃a59,d2p=some a59∧0≤(0:Int)∧(0:Int)<(d2l:Int)∧ ∃v60,cell H6 (.add a59 (toNat (0:Int)*1))=some (.int .u8 v60)∧br (v60 != 3) (∃v61,v61.size=6∧rowIn H6 ⟨b5,0,none⟩ v61∧v61.size=6∧stAt H6 ⟨b3,0,none⟩ v61.toList fun H62=> ∃re63,re63.size=6∧rowIn H62 ⟨b3,0,none⟩ re63∧R (.tuple #[.agg re63,.bool false]) H62) (∃a64,d2p=some a64∧0≤(7:Int)∧(7:Int)<(d2l:Int)∧ ∃v65,cell H6 (.add a64 (toNat (7:Int)*1))=some (.int .u8 v65)∧br (v65 != 0) (∃v66,v66.size=6∧rowIn H6 ⟨b5,0,none⟩ v66∧v66.size=6∧stAt H6 ⟨b3,0,none⟩ v66.toList fun H67=> ∃re68,re68.size=6∧rowIn H67 ⟨b3,0,none⟩ re68∧R (.tuple #[.agg re68,.bool false]) H67) (∃a69,d2p=some a69∧0≤(8:Int)∧(8:Int)<(d2l:Int)∧ ∃v70,cell H6 (.add a69 (toNat (8:Int)*1))=some (.int .u8 v70)∧br (v70 != 63) (∃v71,v71.size=6∧rowIn H6 ⟨b5,0,none⟩ v71∧v71.size=6∧stAt H6 ⟨b3,0,none⟩ v71.toList fun H72=> ∃re73,re73.size=6∧rowIn H72 ⟨b3,0,none⟩ re73∧R (.tuple #[.agg re73,.bool false]) H72) (∃a74,d2p=some a74∧0≤(9:Int)∧(9:Int)<(d2l:Int)∧ ∃v75,cell H6 (.add a74 (toNat (9:Int)*1))=some (.int .u8 v75)∧br (v75 != 0) (∃v76,v76.size=6∧rowIn H6 ⟨b5,0,none⟩ v76∧v76.size=6∧stAt H6 ⟨b3,0,none⟩ v76.toList fun H77=> ∃re78,re78.size=6∧rowIn H77 ⟨b3,0,none⟩ re78∧R (.tuple #[.agg re78,.bool false]) H77) (J7 [] H6))))))
def Tryz.p61:Plan:=(tl (tl (two (join [] [0,1,4,6] g0) (two (tl (one (loop [(7,3)] [0,1,4,6] (two (tl (tl leaf)) (two (one (tl (tl (two (join [] [0,1,4,6,7,8,9] g0) (tl leaf))))) leaf))))) (tl leaf)))))
theorem Tryz.s61{r1 d2p:OA}{d2l d2c:Nat}{H R}(h:Tryz.S61 r1 d2p d2l d2c H R):Tryz.C 61 #[.pointer r1,.slice d2p d2l d2c] H R:=vcs Tryz.tab_ok Tryz.mixed Tryz.func61 Tryz.cal61 Tryz.p61 h (by kernel_rfl)
def Tryz.S62(H:Heap)(R:Kv):Prop:=
 alc H (.cells (Array.replicate 64 (Value.int .i64 0)) 48) fun b1 H2=>alc H2 (.cells (Array.replicate 64 (Value.int .i64 0)) 48) fun b3 H4=> ∀X5:Kl,(∀(u6 v7 i8:Int) H9,(br (decide (i8<64)) (∀J10:Kl,(∀(u11 v12:Int) H13,(X5 [.int .i64 u11,.int .i64 v12,.int .i64 (wrap .i64 (i8+1))] H13)→J10 [.int .i64 u11,.int .i64 v12] H13)→0≤i8∧i8<((64:Nat):Int)∧stAt H9 (.add ⟨b3,0,none⟩ (toNat i8*1)) [.int .i64 (wrap .i64 ((wrap .i64 ((8:Int)*v7))+u6))] fun H14=>(2:Int)≠0∧br (((Int.tmod (wrap .i64 (u6+v7)) 2):Int)==0) (br (u6==7) (J10 [.int .i64 u6,.int .i64 (wrap .i64 (v7+1))] H14) (br (v7==0) (J10 [.int .i64 (wrap .i64 (u6+1)),.int .i64 v7] H14) (J10 [.int .i64 (wrap .i64 (u6+1)),.int .i64 (wrap .i64 (v7-1))] H14))) (br (v7==7) (J10 [.int .i64 (wrap .i64 (u6+1)),.int .i64 v7] H14) (br (u6==0) (J10 [.int .i64 u6,.int .i64 (wrap .i64 (v7+1))] H14) (J10 [.int .i64 (wrap .i64 (u6-1)),.int .i64 (wrap .i64 (v7+1))] H14)))) (∃v15,v15.size=64∧rowIn H9 ⟨b3,0,none⟩ v15∧v15.size=64∧stAt H9 ⟨b1,0,none⟩ v15.toList fun H16=> ∃re17,re17.size=64∧rowIn H16 ⟨b1,0,none⟩ re17∧R (.agg re17) H16))→X5 [.int .i64 u6,.int .i64 v7,.int .i64 i8] H9)→X5 [.int .i64 0,.int .i64 0,.int .i64 0] H4
def Tryz.p62:Plan:=(tl (tl (tl (tl (two (tl (one (loop [(2,3),(3,3),(4,3)] [0,1] (two (tl (tl leaf)) (two (join [(2,3),(3,3)] [0,1,4] (one (tl (tl (two (tl (tl (tl (tl (tl leaf))))) (tl (tl (tl (tl (tl leaf)))))))))) leaf))))) (tl leaf))))))
theorem Tryz.s62{_u:Unit}{H R}(h:Tryz.S62 H R):Tryz.C 62 #[] H R:=vcs Tryz.tab_ok Tryz.mixed Tryz.func62 Tryz.cal62 Tryz.p62 h (by kernel_rfl)
def Tryz.S63(s1:OA)(t2:AV)(H:Heap)(R:Kv):Prop:=
 alc H (.cells t2 77) fun b3 H4=> ∀J5:Kl,(∀H6,(∃a7,s1=some a7∧stAt H6 (.add a7 2) [.bool false] fun H8=>R (.int .i64 0) H8)→J5 [] H6)→
 ∀X9:Kl,(∀(v10 n11:Int) H12,(∀J13:Kl,(∀H14,(Tryz.C 94 #[.pointer s1] H14 fun r15 H16=> ∃r17,r15= .int .i64 r17∧ ∃L18p L18l L18c,cell H16 (.add ⟨b3,0,none⟩ 1)=some (.slice L18p L18l L18c)∧ ∃C19p C19l C19c,cell H16 (.add ⟨b3,0,none⟩ 2)=some (.slice C19p C19l C19c)∧Tryz.C 95 #[.slice L18p L18l L18c,.slice C19p C19l C19c,.int .i64 n11,.int .i64 (wrap .i64 ((wrap .i64 ((2:Int)*v10))+r17))] H16 fun r20 H21=> ∃k22,r20= .int .i64 k22∧ ∀J23:Kl,(∀H24,(∃L25p L25l L25c,cell H24 (.add ⟨b3,0,none⟩ 1)=some (.slice L25p L25l L25c)∧ ∃C26p C26l C26c,cell H24 (.add ⟨b3,0,none⟩ 2)=some (.slice C26p C26l C26c)∧Tryz.C 96 #[.slice L25p L25l L25c,.slice C26p C26l C26c,.int .i64 n11,.int .i64 (wrap .i64 ((wrap .i64 ((2:Int)*v10))+r17))] H24 fun r27 H28=> ∃r29,r27= .bool r29∧br (!r29) (J5 [] H28) (X9 [.int .i64 (wrap .i64 ((wrap .i64 ((2:Int)*v10))+r17)),.int .i64 (wrap .i64 (n11+1))] H28))→J23 [] H24)→br (decide (k22≥0)) (∃a30,s1=some a30∧ ∃OK31,cell H21 (.add a30 2)=some (.bool OK31)∧br OK31 (∃S32p S32l S32c,cell H21 (.add ⟨b3,0,none⟩ 3)=some (.slice S32p S32l S32c)∧ ∃a33,S32p=some a33∧0≤k22∧k22<(S32l:Int)∧ ∃v34,cell H21 (.add a33 (toNat k22*1))=some (.int .u8 v34)∧R (.int .i64 (wrap .i64 v34)) H21) (J23 [] H21)) (J23 [] H21))→J13 [] H14)→br (decide (n11≤16)) (∃a35,s1=some a35∧ ∃OK36,cell H12 (.add a35 2)=some (.bool OK36)∧br OK36 (J13 [] H12) (J5 [] H12)) (J5 [] H12))→X9 [.int .i64 v10,.int .i64 n11] H12)→X9 [.int .i64 0,.int .i64 1] H4
def Tryz.p63:Plan:=(tl (tl (two (join [] [0] (tl (one (loop [(5,3),(6,3)] [0,3] (two (join [] [0,3,5,6] (tl (tl leaf))) (two (one (tl (tl (two (join [] [0,3,5,6] g0) (tl (tl leaf)))))) leaf)))))) (tl (tl leaf)))))
theorem Tryz.s63{s1:OA}{t2:AV}{H R}(h:Tryz.S63 s1 t2 H R):Tryz.C 63 #[.pointer s1,.agg t2] H R:=vcs Tryz.tab_ok Tryz.mixed Tryz.func63 Tryz.cal63 Tryz.p63 h (by kernel_rfl)
def Tryz.S64(v1 lo2 hi3:Int)(H:Heap)(R:Kv):Prop:=
 br (decide (v1<lo2))
 (R (.int .i64 lo2) H)
 (br (decide (v1>hi3)) (R (.int .i64 hi3) H) (R (.int .i64 v1) H))
def Tryz.p64:Plan:=(tl (tg (tg (tl leaf))))
theorem Tryz.s64{v1 lo2 hi3:Int}{H R}(h:Tryz.S64 v1 lo2 hi3 H R):Tryz.C 64 #[.int .i64 v1,.int .i64 lo2,.int .i64 hi3] H R:=vcs Tryz.tab_ok Tryz.mixed Tryz.func64 Tryz.cal64 Tryz.p64 h (by kernel_rfl)
def Tryz.S65(s1:OA)(si2:Int)(H:Heap)(R:Kv):Prop:=
 ∀X3:Kl,(∀(v4 i5:Int) H6,(br (decide (i5<si2)) (Tryz.C 94 #[.pointer s1] H6 fun r7 H8=> ∃r9,r7= .int .i64 r9∧X3 [.int .i64 (wrap .i64 ((wrap .i64 ((2:Int)*v4))+r9)),.int .i64 (wrap .i64 (i5+1))] H8) (∀J10:Kl,(∀(v11:Int) H12,(R (.int .i64 v11) H12)→J10 [.int .i64 v11] H12)→br (decide (si2>0)) (0≤(wrap .i64 (si2-1))∧br (decide (v4<(shlI .i64 1 (wrap .i64 (si2-1))))) (0≤si2∧J10 [.int .i64 (wrap .i64 ((wrap .i64 (v4-(shlI .i64 1 si2)))+1))] H6) (J10 [.int .i64 v4] H6)) (J10 [.int .i64 v4] H6)))→X3 [.int .i64 v4,.int .i64 i5] H6)→X3 [.int .i64 0,.int .i64 0] H
def Tryz.p65:Plan:=(tl (tl (two (tl (one (loop [(5,3),(6,3)] [0,1] (two (tl (tl leaf)) (two (one leaf) leaf))))) (two (join [(5,3)] [] (tl (tl leaf))) (tl leaf)))))
theorem Tryz.s65{s1:OA}{si2:Int}{H R}(h:Tryz.S65 s1 si2 H R):Tryz.C 65 #[.pointer s1,.int .i64 si2] H R:=vcs Tryz.tab_ok Tryz.mixed Tryz.func65 Tryz.cal65 Tryz.p65 h (by kernel_rfl)
def Tryz.S66(f1:AV)(H:Heap)(R:Kv):Prop:=
 alc H (.cells f1 48) fun b2 H3=>alc H3 (.cells (Array.replicate 64 (Value.int .i64 0)) 48) fun b4 H5=>Tryz.C 56 #[] H5 fun r6 H7=> ∃r8,r6= .agg r8∧alc H7 (.cells (Array.replicate 64 (Value.int .i64 0)) 48) fun b9 H10=>r8.size=64∧stAt H10 ⟨b9,0,none⟩ r8.toList fun H11=>alc H11 (.cells (Array.replicate 64 (Value.int .i64 0)) 48) fun b12 H13=> ∀X14:Kl,(∀(y15:Int) H16,(br (decide (y15<8)) (∀X17:Kl,(∀(x18:Int) H19,(br (decide (x18<8)) (∀X20:Kl,(∀(su21 i22:Int) H23,(br (decide (i22<64)) (0≤i22∧i22<((64:Nat):Int)∧ ∃v24,cell H23 (.add ⟨b2,0,none⟩ (toNat i22*1))=some (.int .i64 v24)∧(8:Int)≠0∧0≤(wrap .i64 ((wrap .i64 ((8:Int)*(Int.tmod i22 8)))+x18))∧(wrap .i64 ((wrap .i64 ((8:Int)*(Int.tmod i22 8)))+x18))<((64:Nat):Int)∧ ∃v25,cell H23 (.add ⟨b9,0,none⟩ (toNat (wrap .i64 ((wrap .i64 ((8:Int)*(Int.tmod i22 8)))+x18))*1))=some (.int .i64 v25)∧(8:Int)≠0∧0≤(wrap .i64 ((wrap .i64 ((8:Int)*(wrap .i64 (Int.tdiv i22 8))))+y15))∧(wrap .i64 ((wrap .i64 ((8:Int)*(wrap .i64 (Int.tdiv i22 8))))+y15))<((64:Nat):Int)∧ ∃v26,cell H23 (.add ⟨b9,0,none⟩ (toNat (wrap .i64 ((wrap .i64 ((8:Int)*(wrap .i64 (Int.tdiv i22 8))))+y15))*1))=some (.int .i64 v26)∧X20 [.int .i64 (wrap .i64 (su21+(wrap .i64 ((wrap .i64 (v24*v25))*v26)))),.int .i64 (wrap .i64 (i22+1))] H23) (Tryz.C 57 #[.int .i64 su21,.int .i64 67108864] H23 fun r27 H28=> ∃r29,r27= .int .i64 r29∧0≤(wrap .i64 ((wrap .i64 ((8:Int)*y15))+x18))∧(wrap .i64 ((wrap .i64 ((8:Int)*y15))+x18))<((64:Nat):Int)∧stAt H28 (.add ⟨b12,0,none⟩ (toNat (wrap .i64 ((wrap .i64 ((8:Int)*y15))+x18))*1)) [.int .i64 r29] fun H30=>X17 [.int .i64 (wrap .i64 (x18+1))] H30))→X20 [.int .i64 su21,.int .i64 i22] H23)→X20 [.int .i64 33554432,.int .i64 0] H19) (X14 [.int .i64 (wrap .i64 (y15+1))] H19))→X17 [.int .i64 x18] H19)→X17 [.int .i64 0] H16) (∃v31,v31.size=64∧rowIn H16 ⟨b12,0,none⟩ v31∧v31.size=64∧stAt H16 ⟨b4,0,none⟩ v31.toList fun H32=> ∃re33,re33.size=64∧rowIn H32 ⟨b4,0,none⟩ re33∧R (.agg re33) H32))→X14 [.int .i64 y15] H16)→X14 [.int .i64 0] H13
def Tryz.p66:Plan:=(tl (tl (tl (two (tl (one (loop [(5,3)] [1,2,3,4] (two (tl (tl leaf)) (two (one (tl (one (loop [(6,3)] [1,2,3,4,5] (two (tl (tl leaf)) (two (one (tl (two (tl (one (loop [(7,3),(8,3)] [1,2,3,4,5,6] (two (tl (tl leaf)) (two (one leaf) leaf))))) leaf))) leaf)))))) leaf))))) (tl leaf)))))
theorem Tryz.s66{f1:AV}{H R}(h:Tryz.S66 f1 H R):Tryz.C 66 #[.agg f1] H R:=vcs Tryz.tab_ok Tryz.mixed Tryz.func66 Tryz.cal66 Tryz.p66 h (by kernel_rfl)
def Tryz.S67(y1 b2 r3:Int)(H:Heap)(R:Kv):Prop:=
 alc H (.cells #[.int .i64 0,.int .i64 0,.int .i64 0] 73) fun b4 H5=>Tryz.C 98 #[.int .i64 (wrap .i64 ((91881:Int)*(wrap .i64 (r3-128))))] H5 fun r6 H7=> ∃r8,r6= .int .i64 r8∧Tryz.C 97 #[.int .i64 (wrap .i64 (y1+r8))] H7 fun r9 H10=> ∃r11,r9= .int .i64 r11∧Tryz.C 98 #[.int .i64 (wrap .i64 ((wrap .i64 ((22554:Int)*(wrap .i64 (b2-128))))+(wrap .i64 ((46802:Int)*(wrap .i64 (r3-128))))))] H10 fun r12 H13=> ∃r14,r12= .int .i64 r14∧Tryz.C 97 #[.int .i64 (wrap .i64 (y1-r14))] H13 fun r15 H16=> ∃r17,r15= .int .i64 r17∧Tryz.C 98 #[.int .i64 (wrap .i64 ((116130:Int)*(wrap .i64 (b2-128))))] H16 fun r18 H19=> ∃r20,r18= .int .i64 r20∧Tryz.C 97 #[.int .i64 (wrap .i64 (y1+r20))] H19 fun r21 H22=> ∃r23,r21= .int .i64 r23∧#[Value.int .i64 r11,Value.int .i64 r17,Value.int .i64 r23].size=3∧stAt H22 ⟨b4,0,none⟩ (Array.toList #[.int .i64 r11,.int .i64 r17,.int .i64 r23]) fun H24=> ∃re25,re25.size=3∧rowIn H24 ⟨b4,0,none⟩ re25∧R (.agg re25) H24
def Tryz.p67:Plan:=(tl (tl (tl (tl leaf))))
theorem Tryz.s67{y1 b2 r3:Int}{H R}(h:Tryz.S67 y1 b2 r3 H R):Tryz.C 67 #[.int .i64 y1,.int .i64 b2,.int .i64 r3] H R:=vcs Tryz.tab_ok Tryz.mixed Tryz.func67 Tryz.cal67 Tryz.p67 h (by kernel_rfl)
def Tryz.S68(r1:OA)(H:Heap)(R:Kv):Prop:=
 ∃a2,r1=some a2∧ ∃b3p b3l b3c,cell H (.add a2 0)=some (.slice b3p b3l b3c)∧br (decide (((b3l:Int):Int)<2))
 (R (.tuple #[.slice none 0 0,.bool false]) H)
 (∃a4,r1=some a4∧ ∃b5p b5l b5c,cell H (.add a4 0)=some (.slice b5p b5l b5c)∧ ∃a6,b5p=some a6∧0≤(0:Int)∧(0:Int)<(b5l:Int)∧ ∃v7,cell H (.add a6 (toNat (0:Int)*1))=some (.int .u8 v7)∧0≤(8:Int)∧ ∃a8,r1=some a8∧ ∃b9p b9l b9c,cell H (.add a8 0)=some (.slice b9p b9l b9c)∧ ∃a10,b9p=some a10∧0≤(1:Int)∧(1:Int)<(b9l:Int)∧ ∃v11,cell H (.add a10 (toNat (1:Int)*1))=some (.int .u8 v11)∧ ∀J12:Kl,(∀H13,(∃a14,r1=some a14∧ ∃b15p b15l b15c,cell H13 (.add a14 0)=some (.slice b15p b15l b15c)∧0≤(orI .i64 (shlI .i64 (wrap .i64 v7) 8) (wrap .i64 v11))∧(orI .i64 (shlI .i64 (wrap .i64 v7) 8) (wrap .i64 v11))≤(b15c:Int)∧0≤(2:Int)∧(2:Int)≤(orI .i64 (shlI .i64 (wrap .i64 v7) 8) (wrap .i64 v11))∧ ∃a16,r1=some a16∧ ∃b17p b17l b17c,cell H13 (.add a16 0)=some (.slice b17p b17l b17c)∧0≤(orI .i64 (shlI .i64 (wrap .i64 v7) 8) (wrap .i64 v11))∧(orI .i64 (shlI .i64 (wrap .i64 v7) 8) (wrap .i64 v11))≤(b17l:Int)∧ ∃a18,r1=some a18∧stAt H13 (.add a18 0) [.slice (if b17c=(toNat (orI .i64 (shlI .i64 (wrap .i64 v7) 8) (wrap .i64 v11))) then b17p else Option.map (fun x=>Addr.add x ((toNat (orI .i64 (shlI .i64 (wrap .i64 v7) 8) (wrap .i64 v11)))*1)) b17p) (b17l-(toNat (orI .i64 (shlI .i64 (wrap .i64 v7) 8) (wrap .i64 v11)))) (b17c-(toNat (orI .i64 (shlI .i64 (wrap .i64 v7) 8) (wrap .i64 v11))))] fun H19=>R (.tuple #[.slice (if b15c=(toNat 2) then b15p else Option.map (fun x=>Addr.add x ((toNat 2)*1)) b15p) ((toNat (orI .i64 (shlI .i64 (wrap .i64 v7) 8) (wrap .i64 v11)))-(toNat 2)) (b15c-(toNat 2)),.bool true]) H19)→J12 [] H13)→br (decide (((orI .i64 (shlI .i64 (wrap .i64 v7) 8) (wrap .i64 v11)):Int)<2)) (R (.tuple #[.slice none 0 0,.bool false]) H) (∃a20,r1=some a20∧ ∃b21p b21l b21c,cell H (.add a20 0)=some (.slice b21p b21l b21c)∧br (decide (((orI .i64 (shlI .i64 (wrap .i64 v7) 8) (wrap .i64 v11)):Int)>(b21l:Int))) (R (.tuple #[.slice none 0 0,.bool false]) H) (J12 [] H)))
def Tryz.p68:Plan:=(tl (tg (tl (two (join [] [0,4] g0) (tl (tl (tl leaf)))))))
theorem Tryz.s68{r1:OA}{H R}(h:Tryz.S68 r1 H R):Tryz.C 68 #[.pointer r1] H R:=vcs Tryz.tab_ok Tryz.mixed Tryz.func68 Tryz.cal68 Tryz.p68 h (by kernel_rfl)
def Tryz.S69(r1 da2p:OA)(da2l da2c:Nat)(H:Heap)(R:Kv):Prop:=
 Tryz.C 15 #[] H fun r3 H4=> ∃r5,r3= .agg r5∧alc H4 (.cells (Array.replicate 64 (Value.int .i64 0)) 48) fun b6 H7=>r5.size=64∧stAt H7 ⟨b6,0,none⟩ r5.toList fun H8=> ∀X9:Kl,(∀(da10p:OA) (da10l da10c:Nat) H11,(br (decide (((da10l:Int):Int)>0)) (∀J12:Kl,(∀H13,(alc H13 (.cells (Array.replicate 64 (Value.int .i64 0)) 48) fun b14 H15=> ∃v16,v16.size=64∧rowIn H15 ⟨b6,0,none⟩ v16∧ ∀X17:Kl,(∀(i18:Int) H19,(br (decide (i18<64)) (0≤i18∧i18<((64:Nat):Int)∧ ∃at_20,v16[(toNat i18*1)]?=some (.int .i64 at_20)∧ ∃a21,da10p=some a21∧0≤(wrap .i64 ((1:Int)+i18))∧(wrap .i64 ((1:Int)+i18))<(da10l:Int)∧ ∃v22,cell H19 (.add a21 (toNat (wrap .i64 ((1:Int)+i18))*1))=some (.int .u8 v22)∧0≤at_20∧at_20<((64:Nat):Int)∧stAt H19 (.add ⟨b14,0,none⟩ (toNat at_20*1)) [.int .i64 (wrap .i64 v22)] fun H23=>0≤at_20∧at_20<((64:Nat):Int)∧ ∃v24,cell H23 (.add ⟨b14,0,none⟩ (toNat at_20*1))=some (.int .i64 v24)∧br (v24==0) (R (.bool false) H23) (X17 [.int .i64 (wrap .i64 (i18+1))] H23)) (∃a25,da10p=some a25∧0≤(0:Int)∧(0:Int)<(da10l:Int)∧ ∃v26,cell H19 (.add a25 (toNat (0:Int)*1))=some (.int .u8 v26)∧ ∃a27,r1=some a27∧0≤v26∧v26<((4:Nat):Int)∧stAt H19 (.add (.add a27 10) (toNat v26*1)) [.pointer (some ⟨b14,0,none⟩)] fun H28=>0≤(65:Int)∧(65:Int)≤(da10l:Int)∧X9 [.slice (if da10c=(toNat 65) then da10p else Option.map (fun x=>Addr.add x ((toNat 65)*1)) da10p) (da10l-(toNat 65)) (da10c-(toNat 65))] H28))→X17 [.int .i64 i18] H19)→X17 [.int .i64 0] H15)→J12 [] H13)→br (decide (((da10l:Int):Int)<65)) (R (.bool false) H11) (∃a29,da10p=some a29∧0≤(0:Int)∧(0:Int)<(da10l:Int)∧ ∃v30,cell H11 (.add a29 (toNat (0:Int)*1))=some (.int .u8 v30)∧br (decide (v30>3)) (R (.bool false) H11) (J12 [] H11))) (R (.bool true) H11))→X9 [.slice da10p da10l da10c] H11)→X9 [.slice da2p da2l da2c] H8
def Tryz.p69:Plan:=(tl (tl (two (one (loop [(1,22)] [0,5] (two (tl (tl leaf)) (one (two (join [] [0,1,5] g0) (tl (two (tl (one (loop [(23,3)] [0,1,5,6,22] (tl (two (tl leaf) (two (one (tl (tl g0))) leaf)))))) (tl leaf)))))))) (tl leaf))))
theorem Tryz.s69{r1 da2p:OA}{da2l da2c:Nat}{H R}(h:Tryz.S69 r1 da2p da2l da2c H R):Tryz.C 69 #[.pointer r1,.slice da2p da2l da2c] H R:=vcs Tryz.tab_ok Tryz.mixed Tryz.func69 Tryz.cal69 Tryz.p69 h (by kernel_rfl)
def Tryz.S70(r1 da2p:OA)(da2l da2c:Nat)(H:Heap)(R:Kv):Prop:=
 ∀J3:Kl,(∀H4,(∃a5,r1=some a5∧stAt H4 (.add a5 6) [.bool true] fun H6=> ∃a7,da2p=some a7∧0≤(1:Int)∧(1:Int)<(da2l:Int)∧ ∃v8,cell H6 (.add a7 (toNat (1:Int)*1))=some (.int .u8 v8)∧0≤(8:Int)∧ ∃a9,da2p=some a9∧0≤(2:Int)∧(2:Int)<(da2l:Int)∧ ∃v10,cell H6 (.add a9 (toNat (2:Int)*1))=some (.int .u8 v10)∧ ∃a11,da2p=some a11∧0≤(3:Int)∧(3:Int)<(da2l:Int)∧ ∃v12,cell H6 (.add a11 (toNat (3:Int)*1))=some (.int .u8 v12)∧0≤(8:Int)∧ ∃a13,da2p=some a13∧0≤(4:Int)∧(4:Int)<(da2l:Int)∧ ∃v14,cell H6 (.add a13 (toNat (4:Int)*1))=some (.int .u8 v14)∧ ∃a15,r1=some a15∧stAt H6 (.add (.add a15 1) 1) [.int .i64 (orI .i64 (shlI .i64 (wrap .i64 v8) 8) (wrap .i64 v10))] fun H16=> ∃a17,r1=some a17∧stAt H16 (.add (.add a17 1) 0) [.int .i64 (orI .i64 (shlI .i64 (wrap .i64 v12) 8) (wrap .i64 v14))] fun H18=> ∀X19:Kl,(∀(k20:Int) H21,(br (decide (k20<3)) (0≤(wrap .i64 ((9:Int)+(wrap .i64 ((3:Int)*k20))))∧(wrap .i64 ((9:Int)+(wrap .i64 ((3:Int)*k20))))≤(da2c:Int)∧0≤(wrap .i64 ((6:Int)+(wrap .i64 ((3:Int)*k20))))∧(wrap .i64 ((6:Int)+(wrap .i64 ((3:Int)*k20))))≤(wrap .i64 ((9:Int)+(wrap .i64 ((3:Int)*k20))))∧ ∀J22:Kl,(∀H23,(∃a24,(if da2c=(toNat (wrap .i64 ((6:Int)+(wrap .i64 ((3:Int)*k20))))) then da2p else Option.map (fun x=>Addr.add x ((toNat (wrap .i64 ((6:Int)+(wrap .i64 ((3:Int)*k20)))))*1)) da2p)=some a24∧0≤(2:Int)∧(2:Int)<((((toNat (wrap .i64 ((9:Int)+(wrap .i64 ((3:Int)*k20)))))-(toNat (wrap .i64 ((6:Int)+(wrap .i64 ((3:Int)*k20)))))):Nat):Int)∧ ∃v25,cell H23 (.add a24 (toNat (2:Int)*1))=some (.int .u8 v25)∧ ∃a26,r1=some a26∧0≤k20∧k20<((3:Nat):Int)∧stAt H23 (.add (.add a26 7) (toNat k20*1)) [.int .i64 (wrap .i64 v25)] fun H27=>X19 [.int .i64 (wrap .i64 (k20+1))] H27)→J22 [] H23)→ ∃a28,(if da2c=(toNat (wrap .i64 ((6:Int)+(wrap .i64 ((3:Int)*k20))))) then da2p else Option.map (fun x=>Addr.add x ((toNat (wrap .i64 ((6:Int)+(wrap .i64 ((3:Int)*k20)))))*1)) da2p)=some a28∧0≤(0:Int)∧(0:Int)<((((toNat (wrap .i64 ((9:Int)+(wrap .i64 ((3:Int)*k20)))))-(toNat (wrap .i64 ((6:Int)+(wrap .i64 ((3:Int)*k20)))))):Nat):Int)∧ ∃v29,cell H21 (.add a28 (toNat (0:Int)*1))=some (.int .u8 v29)∧br (((wrap .i64 v29):Int) != (wrap .i64 (k20+1))) (R (.bool false) H21) (∃a30,(if da2c=(toNat (wrap .i64 ((6:Int)+(wrap .i64 ((3:Int)*k20))))) then da2p else Option.map (fun x=>Addr.add x ((toNat (wrap .i64 ((6:Int)+(wrap .i64 ((3:Int)*k20)))))*1)) da2p)=some a30∧0≤(1:Int)∧(1:Int)<((((toNat (wrap .i64 ((9:Int)+(wrap .i64 ((3:Int)*k20)))))-(toNat (wrap .i64 ((6:Int)+(wrap .i64 ((3:Int)*k20)))))):Nat):Int)∧ ∃v31,cell H21 (.add a30 (toNat (1:Int)*1))=some (.int .u8 v31)∧br (v31 != 17) (br (decide (k20>0)) (R (.bool false) H21) (∃a32,(if da2c=(toNat (wrap .i64 ((6:Int)+(wrap .i64 ((3:Int)*k20))))) then da2p else Option.map (fun x=>Addr.add x ((toNat (wrap .i64 ((6:Int)+(wrap .i64 ((3:Int)*k20)))))*1)) da2p)=some a32∧0≤(1:Int)∧(1:Int)<((((toNat (wrap .i64 ((9:Int)+(wrap .i64 ((3:Int)*k20)))))-(toNat (wrap .i64 ((6:Int)+(wrap .i64 ((3:Int)*k20)))))):Nat):Int)∧ ∃v33,cell H21 (.add a32 (toNat (1:Int)*1))=some (.int .u8 v33)∧br (v33 != 34) (R (.bool false) H21) (∃a34,(if da2c=(toNat (wrap .i64 ((6:Int)+(wrap .i64 ((3:Int)*k20))))) then da2p else Option.map (fun x=>Addr.add x ((toNat (wrap .i64 ((6:Int)+(wrap .i64 ((3:Int)*k20)))))*1)) da2p)=some a34∧0≤(2:Int)∧(2:Int)<((((toNat (wrap .i64 ((9:Int)+(wrap .i64 ((3:Int)*k20)))))-(toNat (wrap .i64 ((6:Int)+(wrap .i64 ((3:Int)*k20)))))):Nat):Int)∧ ∃v35,cell H21 (.add a34 (toNat (2:Int)*1))=some (.int .u8 v35)∧br (decide (v35>3)) (R (.bool false) H21) (J22 [] H21)))) (∃a36,(if da2c=(toNat (wrap .i64 ((6:Int)+(wrap .i64 ((3:Int)*k20))))) then da2p else Option.map (fun x=>Addr.add x ((toNat (wrap .i64 ((6:Int)+(wrap .i64 ((3:Int)*k20)))))*1)) da2p)=some a36∧0≤(2:Int)∧(2:Int)<((((toNat (wrap .i64 ((9:Int)+(wrap .i64 ((3:Int)*k20)))))-(toNat (wrap .i64 ((6:Int)+(wrap .i64 ((3:Int)*k20)))))):Nat):Int)∧ ∃v37,cell H21 (.add a36 (toNat (2:Int)*1))=some (.int .u8 v37)∧br (decide (v37>3)) (R (.bool false) H21) (J22 [] H21)))) (∃a38,da2p=some a38∧0≤(7:Int)∧(7:Int)<(da2l:Int)∧ ∃v39,cell H21 (.add a38 (toNat (7:Int)*1))=some (.int .u8 v39)∧ ∃a40,r1=some a40∧stAt H21 (.add (.add a40 1) 3) [.bool (v39==34)] fun H41=> ∃a42,r1=some a42∧ ∃W43,cell H41 (.add (.add a42 1) 0)=some (.int .i64 W43)∧ ∃a44,r1=some a44∧ ∃H45,cell H41 (.add (.add a44 1) 1)=some (.int .i64 H45)∧Tryz.C 41 #[.int .i64 W43,.int .i64 H45] H41 fun r46 H47=> ∃r48,r46= .bool r48∧R (.bool r48) H47))→X19 [.int .i64 k20] H21)→X19 [.int .i64 0] H18)→J3 [] H4)→
 ∃a49,r1=some a49∧ ∃se50,cell H (.add a49 6)=some (.bool se50)∧br se50 (R (.bool false) H) (br (((da2l:Int):Int) != 15) (R (.bool false) H) (∃a51,da2p=some a51∧0≤(0:Int)∧(0:Int)<(da2l:Int)∧ ∃v52,cell H (.add a51 (toNat (0:Int)*1))=some (.int .u8 v52)∧br (v52 != 8) (R (.bool false) H) (∃a53,da2p=some a53∧0≤(5:Int)∧(5:Int)<(da2l:Int)∧ ∃v54,cell H (.add a53 (toNat (5:Int)*1))=some (.int .u8 v54)∧br (v54 != 3) (R (.bool false) H) (J3 [] H))))
def Tryz.p70:Plan:=(tl (two (join [] [0,1] g0) (tl (tl (two (tl (one (loop [(59,3)] [0,1] (tl (two (tl leaf) (two (one (tl (tl (two (join [] [0,1,5,6,59] g0) leaf)))) leaf)))))) (tl (tl leaf)))))))
theorem Tryz.s70{r1 da2p:OA}{da2l da2c:Nat}{H R}(h:Tryz.S70 r1 da2p da2l da2c H R):Tryz.C 70 #[.pointer r1,.slice da2p da2l da2c] H R:=vcs Tryz.tab_ok Tryz.mixed Tryz.func70 Tryz.cal70 Tryz.p70 h (by kernel_rfl)
def Tryz.S71(r1 da2p:OA)(da2l da2c:Nat)(H:Heap)(R:Kv):Prop:=
 ∀X3:Kl,(∀(da4p:OA) (da4l da4c:Nat) H5,(br (decide (((da4l:Int):Int)>0)) (∀J6:Kl,(∀H7,(0≤(17:Int)∧(17:Int)≤(da4c:Int)∧0≤(1:Int)∧(1:Int)≤(17:Int)∧ ∀X8:Kl,(∀(le9p:OA) (le9l le9c:Nat) (n10:Int) H11,(br (decide (n10<((((toNat 17)-(toNat 1)):Nat):Int))) (∃a12,(if da4c=(toNat 1) then da4p else Option.map (fun x=>Addr.add x ((toNat 1)*1)) da4p)=some a12∧0≤n10∧n10<((((toNat 17)-(toNat 1)):Nat):Int)∧ ∃c13,cell H11 (.add a12 (toNat n10*1))=some (.int .u8 c13)∧ ∀X14:Kl,(∀(le15p:OA) (le15l le15c:Nat) (t16:Int) H17,(br (decide (t16<c13)) (alc H17 (.cells #[.int .i64 (wrap .i64 (n10+1))] 3) fun b18 H19=>appQ 1 8 #[.int .i64 0] H19 le15p le15l le15c (some ⟨b18,0,none⟩) 1 3 fun le20p le20l le20c H21=>X14 [.slice le20p le20l le20c,.int .u8 (wrap .u8 (t16+1))] H21) (X8 [.slice le15p le15l le15c,.int .i64 (wrap .i64 (n10+1))] H17))→X14 [.slice le15p le15l le15c,.int .u8 t16] H17)→X14 [.slice le9p le9l le9c,.int .u8 0] H11) (∀J22:Kl,(∀H23,(Tryz.C 99 #[.slice le9p le9l le9c] H23 fun r24 H25=> ∃r26 r27,r24= .tuple #[.pointer r26,.bool r27]∧br (!r27) (R (.bool false) H25) (∃a28,da4p=some a28∧0≤(0:Int)∧(0:Int)<(da4l:Int)∧ ∃v29,cell H25 (.add a28 (toNat (0:Int)*1))=some (.int .u8 v29)∧ ∃a30,da4p=some a30∧0≤(0:Int)∧(0:Int)<(da4l:Int)∧ ∃v31,cell H25 (.add a30 (toNat (0:Int)*1))=some (.int .u8 v31)∧0≤(4:Int)∧0≤(wrap .i64 ((17:Int)+(le9l:Int)))∧(wrap .i64 ((17:Int)+(le9l:Int)))≤(da4c:Int)∧0≤(17:Int)∧(17:Int)≤(wrap .i64 ((17:Int)+(le9l:Int)))∧ ∃a32,r1=some a32∧alc H25 (.cells #[.pointer r26,.slice (if da4c=(toNat 17) then da4p else Option.map (fun x=>Addr.add x ((toNat 17)*1)) da4p) ((toNat (wrap .i64 ((17:Int)+(le9l:Int))))-(toNat 17)) (da4c-(toNat 17))] 172) fun b33 H34=>(Ext H25 H34∨(∃v36,cell H34 (.add a30 (toNat (0:Int)*1))=some (.int .u8 v36)∧Value.int .u8 v36= .int .u8 v31)∧(∃v37,cell H34 (.add a28 (toNat (0:Int)*1))=some (.int .u8 v37)∧Value.int .u8 v37= .int .u8 v29))∧0≤(wrap .u8 ((andI .u8 v29 15)+(wrap .u8 ((shrI .u8 v31 4)*4))))∧(wrap .u8 ((andI .u8 v29 15)+(wrap .u8 ((shrI .u8 v31 4)*4))))<((8:Nat):Int)∧stAt H34 (.add (.add a32 14) (toNat (wrap .u8 ((andI .u8 v29 15)+(wrap .u8 ((shrI .u8 v31 4)*4))))*1)) [.pointer (some ⟨b33,0,none⟩)] fun H35=>0≤(wrap .i64 ((17:Int)+(le9l:Int)))∧(wrap .i64 ((17:Int)+(le9l:Int)))≤(da4l:Int)∧X3 [.slice (if da4c=(toNat (wrap .i64 ((17:Int)+(le9l:Int)))) then da4p else Option.map (fun x=>Addr.add x ((toNat (wrap .i64 ((17:Int)+(le9l:Int))))*1)) da4p) (da4l-(toNat (wrap .i64 ((17:Int)+(le9l:Int))))) (da4c-(toNat (wrap .i64 ((17:Int)+(le9l:Int)))))] H35))→J22 [] H23)→br (decide (((da4l:Int):Int)<(wrap .i64 ((17:Int)+(le9l:Int))))) (R (.bool false) H11) (br (decide (((le9l:Int):Int)>256)) (R (.bool false) H11) (J22 [] H11))))→X8 [.slice le9p le9l le9c,.int .i64 n10] H11)→X8 [.slice none 0 0,.int .i64 0] H7)→J6 [] H7)→br (decide (((da4l:Int):Int)<17)) (R (.bool false) H5) (∃a38,da4p=some a38∧0≤(0:Int)∧(0:Int)<(da4l:Int)∧ ∃v39,cell H5 (.add a38 (toNat (0:Int)*1))=some (.int .u8 v39)∧br (decide (((andI .u8 v39 15):Int)>3)) (R (.bool false) H5) (∃a40,da4p=some a40∧0≤(0:Int)∧(0:Int)<(da4l:Int)∧ ∃v41,cell H5 (.add a40 (toNat (0:Int)*1))=some (.int .u8 v41)∧0≤(4:Int)∧br (decide (((shrI .u8 v41 4):Int)>1)) (R (.bool false) H5) (J6 [] H5)))) (R (.bool true) H5))→X3 [.slice da4p da4l da4c] H5)→X3 [.slice da2p da2l da2c] H
def Tryz.p71:Plan:=(tl (two (one (loop [(1,22)] [0] (two (tl (tl leaf)) (one (two (join [] [0,1] g0) (tl (two (tl (one (loop [(5,55),(34,3)] [0,1,32,33] (tl (two (tl leaf) (two (one (tl (tl (one (loop [(5,55),(40,5)] [0,1,6,32,33,34,39] (tl (two (tl leaf) (two (one leaf) leaf)))))))) leaf)))))) (tl (two (join [] [0,1,5,8] g0) (tl (tg (tl leaf)))))))))))) (tl leaf)))
theorem Tryz.s71{r1 da2p:OA}{da2l da2c:Nat}{H R}(h:Tryz.S71 r1 da2p da2l da2c H R):Tryz.C 71 #[.pointer r1,.slice da2p da2l da2c] H R:=vcs Tryz.tab_ok Tryz.mixed Tryz.func71 Tryz.cal71 Tryz.p71 h (by kernel_rfl)
def Tryz.S72(r1 da2p:OA)(da2l da2c:Nat)(H:Heap)(R:Kv):Prop:=
 alc H (.cells #[.pointer none,.pointer none,.pointer none,.pointer none,.pointer none,.pointer none] 99) fun b3 H4=> ∀J5:Kl,(∀H6,(∀X7:Kl,(∀(k8:Int) H9,(br (decide (k8<3)) (∃a10,da2p=some a10∧0≤(wrap .i64 ((2:Int)+(wrap .i64 ((2:Int)*k8))))∧(wrap .i64 ((2:Int)+(wrap .i64 ((2:Int)*k8))))<(da2l:Int)∧ ∃v11,cell H9 (.add a10 (toNat (wrap .i64 ((2:Int)+(wrap .i64 ((2:Int)*k8))))*1))=some (.int .u8 v11)∧0≤(4:Int)∧ ∃a12,da2p=some a12∧0≤(wrap .i64 ((2:Int)+(wrap .i64 ((2:Int)*k8))))∧(wrap .i64 ((2:Int)+(wrap .i64 ((2:Int)*k8))))<(da2l:Int)∧ ∃v13,cell H9 (.add a12 (toNat (wrap .i64 ((2:Int)+(wrap .i64 ((2:Int)*k8))))*1))=some (.int .u8 v13)∧ ∀J14:Kl,(∀H15,(∃a16,r1=some a16∧0≤(shrI .u8 v11 4)∧(shrI .u8 v11 4)<((8:Nat):Int)∧ ∃v17,cell H15 (.add (.add a16 14) (toNat (shrI .u8 v11 4)*1))=some (.pointer v17)∧ ∃a18,r1=some a18∧0≤(wrap .u8 ((andI .u8 v13 15)+4))∧(wrap .u8 ((andI .u8 v13 15)+4))<((8:Nat):Int)∧ ∃v19,cell H15 (.add (.add a18 14) (toNat (wrap .u8 ((andI .u8 v13 15)+4))*1))=some (.pointer v19)∧0≤k8∧k8<((3:Nat):Int)∧#[Value.pointer v17,Value.pointer v19].size=2∧stAt H15 (.add ⟨b3,0,none⟩ (toNat k8*2)) (Array.toList #[.pointer v17,.pointer v19]) fun H20=>0≤k8∧k8<((3:Nat):Int)∧0≤(0:Int)∧(0:Int)<((2:Nat):Int)∧ ∃v21,cell H20 (.add (.add ⟨b3,0,none⟩ (toNat k8*2)) (toNat (0:Int)*1))=some (.pointer v21)∧br (Option.isNone v21) (∃v22,v22.size=6∧rowIn H20 ⟨b3,0,none⟩ v22∧v22.size=6∧stAt H20 ⟨b3,0,none⟩ v22.toList fun H23=> ∃re24,re24.size=6∧rowIn H23 ⟨b3,0,none⟩ re24∧R (.tuple #[.agg re24,.bool false]) H23) (0≤k8∧k8<((3:Nat):Int)∧0≤(1:Int)∧(1:Int)<((2:Nat):Int)∧ ∃v25,cell H20 (.add (.add ⟨b3,0,none⟩ (toNat k8*2)) (toNat (1:Int)*1))=some (.pointer v25)∧br (Option.isNone v25) (∃v26,v26.size=6∧rowIn H20 ⟨b3,0,none⟩ v26∧v26.size=6∧stAt H20 ⟨b3,0,none⟩ v26.toList fun H27=> ∃re28,re28.size=6∧rowIn H27 ⟨b3,0,none⟩ re28∧R (.tuple #[.agg re28,.bool false]) H27) (X7 [.int .i64 (wrap .i64 (k8+1))] H20)))→J14 [] H15)→ ∃a29,da2p=some a29∧0≤(wrap .i64 ((1:Int)+(wrap .i64 ((2:Int)*k8))))∧(wrap .i64 ((1:Int)+(wrap .i64 ((2:Int)*k8))))<(da2l:Int)∧ ∃v30,cell H9 (.add a29 (toNat (wrap .i64 ((1:Int)+(wrap .i64 ((2:Int)*k8))))*1))=some (.int .u8 v30)∧br (((wrap .i64 v30):Int) != (wrap .i64 (k8+1))) (∃v31,v31.size=6∧rowIn H9 ⟨b3,0,none⟩ v31∧v31.size=6∧stAt H9 ⟨b3,0,none⟩ v31.toList fun H32=> ∃re33,re33.size=6∧rowIn H32 ⟨b3,0,none⟩ re33∧R (.tuple #[.agg re33,.bool false]) H32) (br (decide (((shrI .u8 v11 4):Int)>3)) (∃v34,v34.size=6∧rowIn H9 ⟨b3,0,none⟩ v34∧v34.size=6∧stAt H9 ⟨b3,0,none⟩ v34.toList fun H35=> ∃re36,re36.size=6∧rowIn H35 ⟨b3,0,none⟩ re36∧R (.tuple #[.agg re36,.bool false]) H35) (br (decide (((andI .u8 v13 15):Int)>3)) (∃v37,v37.size=6∧rowIn H9 ⟨b3,0,none⟩ v37∧v37.size=6∧stAt H9 ⟨b3,0,none⟩ v37.toList fun H38=> ∃re39,re39.size=6∧rowIn H38 ⟨b3,0,none⟩ re39∧R (.tuple #[.agg re39,.bool false]) H38) (∃a40,r1=some a40∧0≤k8∧k8<((3:Nat):Int)∧ ∃v41,cell H9 (.add (.add a40 7) (toNat k8*1))=some (.int .i64 v41)∧ ∃a42,r1=some a42∧0≤v41∧v41<((4:Nat):Int)∧ ∃v43,cell H9 (.add (.add a42 10) (toNat v41*1))=some (.pointer v43)∧br (Option.isNone v43) (∃v44,v44.size=6∧rowIn H9 ⟨b3,0,none⟩ v44∧v44.size=6∧stAt H9 ⟨b3,0,none⟩ v44.toList fun H45=> ∃re46,re46.size=6∧rowIn H45 ⟨b3,0,none⟩ re46∧R (.tuple #[.agg re46,.bool false]) H45) (J14 [] H9))))) (∃v47,v47.size=6∧rowIn H9 ⟨b3,0,none⟩ v47∧v47.size=6∧stAt H9 ⟨b3,0,none⟩ v47.toList fun H48=> ∃re49,re49.size=6∧rowIn H48 ⟨b3,0,none⟩ re49∧R (.tuple #[.agg re49,.bool true]) H48))→X7 [.int .i64 k8] H9)→X7 [.int .i64 0] H6)→J5 [] H6)→
 ∃a50,r1=some a50∧ ∃se51,cell H4 (.add a50 6)=some (.bool se51)∧br (!se51) (∃v52,v52.size=6∧rowIn H4 ⟨b3,0,none⟩ v52∧v52.size=6∧stAt H4 ⟨b3,0,none⟩ v52.toList fun H53=> ∃re54,re54.size=6∧rowIn H53 ⟨b3,0,none⟩ re54∧R (.tuple #[.agg re54,.bool false]) H53) (br (((da2l:Int):Int) != 10) (∃v55,v55.size=6∧rowIn H4 ⟨b3,0,none⟩ v55∧v55.size=6∧stAt H4 ⟨b3,0,none⟩ v55.toList fun H56=> ∃re57,re57.size=6∧rowIn H56 ⟨b3,0,none⟩ re57∧R (.tuple #[.agg re57,.bool false]) H56) (∃a58,da2p=some a58∧0≤(0:Int)∧(0:Int)<(da2l:Int)∧ ∃v59,cell H4 (.add a58 (toNat (0:Int)*1))=some (.int .u8 v59)∧br (v59 != 3) (∃v60,v60.size=6∧rowIn H4 ⟨b3,0,none⟩ v60∧v60.size=6∧stAt H4 ⟨b3,0,none⟩ v60.toList fun H61=> ∃re62,re62.size=6∧rowIn H61 ⟨b3,0,none⟩ re62∧R (.tuple #[.agg re62,.bool false]) H61) (∃a63,da2p=some a63∧0≤(7:Int)∧(7:Int)<(da2l:Int)∧ ∃v64,cell H4 (.add a63 (toNat (7:Int)*1))=some (.int .u8 v64)∧br (v64 != 0) (∃v65,v65.size=6∧rowIn H4 ⟨b3,0,none⟩ v65∧v65.size=6∧stAt H4 ⟨b3,0,none⟩ v65.toList fun H66=> ∃re67,re67.size=6∧rowIn H66 ⟨b3,0,none⟩ re67∧R (.tuple #[.agg re67,.bool false]) H66) (∃a68,da2p=some a68∧0≤(8:Int)∧(8:Int)<(da2l:Int)∧ ∃v69,cell H4 (.add a68 (toNat (8:Int)*1))=some (.int .u8 v69)∧br (v69 != 63) (∃v70,v70.size=6∧rowIn H4 ⟨b3,0,none⟩ v70∧v70.size=6∧stAt H4 ⟨b3,0,none⟩ v70.toList fun H71=> ∃re72,re72.size=6∧rowIn H71 ⟨b3,0,none⟩ re72∧R (.tuple #[.agg re72,.bool false]) H71) (∃a73,da2p=some a73∧0≤(9:Int)∧(9:Int)<(da2l:Int)∧ ∃v74,cell H4 (.add a73 (toNat (9:Int)*1))=some (.int .u8 v74)∧br (v74 != 0) (∃v75,v75.size=6∧rowIn H4 ⟨b3,0,none⟩ v75∧v75.size=6∧stAt H4 ⟨b3,0,none⟩ v75.toList fun H76=> ∃re77,re77.size=6∧rowIn H76 ⟨b3,0,none⟩ re77∧R (.tuple #[.agg re77,.bool false]) H76) (J5 [] H4))))))
def Tryz.p72:Plan:=(tl (two (join [] [0,1,4] g0) (two (tl (one (loop [(44,3)] [0,1,4] (tl (two (tl leaf) (two (one (tl (tl (two (join [] [0,1,4,6,7,8,44] g0) (tl g0))))) leaf)))))) (tl leaf))))
theorem Tryz.s72{r1 da2p:OA}{da2l da2c:Nat}{H R}(h:Tryz.S72 r1 da2p da2l da2c H R):Tryz.C 72 #[.pointer r1,.slice da2p da2l da2c] H R:=vcs Tryz.tab_ok Tryz.mixed Tryz.func72 Tryz.cal72 Tryz.p72 h (by kernel_rfl)
def Tryz.S73(u1 t2:OA)(H:Heap)(R:Kv):Prop:=
 ∀X3:Kl,(∀(st4:Int) H5,(∃a6,u1=some a6∧ ∃r7,cell H5 (.add a6 0)=some (.pointer r7)∧Tryz.C 100 #[.pointer r7,.int .i64 1] H5 fun r8 H9=> ∃r10 r11,r8= .tuple #[.int .i64 r10,.bool r11]∧br (!r11) (∃a12,u1=some a12∧stAt H9 (.add a12 1) [.bool false] fun H13=>R (.int .i64 0) H13) (∃a14,t2=some a14∧ ∃d15,cell H9 (.add a14 0)=some (.pointer d15)∧Tryz.C 101 #[.pointer d15,.int .i64 st4,.int .i64 r10] H9 fun r16 H17=> ∃r18 r19,r16= .tuple #[.int .i64 r18,.int .i64 r19]∧br (decide (r18<0)) (∃a20,u1=some a20∧stAt H17 (.add a20 1) [.bool false] fun H21=>R (.int .i64 0) H21) (br (decide (r19≥0)) (∃a22,t2=some a22∧ ∃sy23p sy23l sy23c,cell H17 (.add a22 1)=some (.slice sy23p sy23l sy23c)∧ ∃a24,sy23p=some a24∧0≤r19∧r19<(sy23l:Int)∧ ∃v25,cell H17 (.add a24 (toNat r19*1))=some (.int .u8 v25)∧R (.int .i64 (wrap .i64 v25)) H17) (X3 [.int .i64 r18] H17))))→X3 [.int .i64 st4] H5)→X3 [.int .i64 0] H
def Tryz.p73:Plan:=(tl (tl (one (loop [(5,3)] [0,1] (one (tl (two (tl (two (tl (tl leaf)) leaf)) (tl (two (tl (two (tl (tl leaf)) leaf)) (tg leaf))))))))))
theorem Tryz.s73{u1 t2:OA}{H R}(h:Tryz.S73 u1 t2 H R):Tryz.C 73 #[.pointer u1,.pointer t2] H R:=vcs Tryz.tab_ok Tryz.mixed Tryz.func73 Tryz.cal73 Tryz.p73 h (by kernel_rfl)
def Tryz.S74(v1:Int)(H:Heap)(R:Kv):Prop:=
 R (.int .i64 (min 32767 (max (-32768:Int) v1))) H
def Tryz.p74:Plan:=(tl (tl leaf))
theorem Tryz.s74{v1:Int}{H R}(h:Tryz.S74 v1 H R):Tryz.C 74 #[.int .i64 v1] H R:=vcs Tryz.tab_ok Tryz.mixed Tryz.func74 Tryz.cal74 Tryz.p74 h (by kernel_rfl)
def Tryz.S75(u1:OA)(si2:Int)(H:Heap)(R:Kv):Prop:=
 ∃a3,u1=some a3∧ ∃r4,cell H (.add a3 0)=some (.pointer r4)∧Tryz.C 100 #[.pointer r4,.int .i64 si2] H fun r5 H6=> ∃r7 r8,r5= .tuple #[.int .i64 r7,.bool r8]∧ ∀J9:Kl,(∀H10,(br (decide (si2>0)) (0≤(wrap .i64 (si2-1))∧br (decide (r7<(shlI .i64 1 (wrap .i64 (si2-1))))) (0≤si2∧R (.int .i64 (wrap .i64 ((wrap .i64 (r7-(shlI .i64 1 si2)))+1))) H10) (R (.int .i64 r7) H10)) (R (.int .i64 r7) H10))→J9 [] H10)→
 ∃a11,u1=some a11∧ ∃ok12,cell H6 (.add a11 1)=some (.bool ok12)∧br ok12 (∃a13,u1=some a13∧stAt H6 (.add a13 1) [.bool r8] fun H14=>J9 [] H14) (∃a15,u1=some a15∧stAt H6 (.add a15 1) [.bool false] fun H16=>J9 [] H16)
def Tryz.p75:Plan:=(tl (tl (two (join [] [1,5] leaf) (tg (tl leaf)))))
theorem Tryz.s75{u1:OA}{si2:Int}{H R}(h:Tryz.S75 u1 si2 H R):Tryz.C 75 #[.pointer u1,.int .i64 si2] H R:=vcs Tryz.tab_ok Tryz.mixed Tryz.func75 Tryz.cal75 Tryz.p75 h (by kernel_rfl)
def Tryz.S76(f1:AV)(H:Heap)(R:Kv):Prop:=
 alc H (.cells f1 48) fun b2 H3=>alc H3 (.cells (Array.replicate 64 (Value.int .i64 0)) 48) fun b4 H5=>Tryz.C 80 #[] H5 fun r6 H7=> ∃r8,r6= .agg r8∧alc H7 (.cells (Array.replicate 64 (Value.int .i64 0)) 149) fun b9 H10=>r8.size=64∧stAt H10 ⟨b9,0,none⟩ r8.toList fun H11=>alc H11 (.cells (Array.replicate 64 (Value.int .i64 0)) 48) fun b12 H13=>alc H13 (.cells (Array.replicate 64 (Value.int .i64 0)) 48) fun b14 H15=> ∀X16:Kl,(∀(i17:Int) H18,(br (decide (i17<64)) (∀X19:Kl,(∀(u20:Int) H21,(br (decide (u20<8)) (0≤i17∧i17<((64:Nat):Int)∧ ∃v22,cell H21 (.add ⟨b12,0,none⟩ (toNat i17*1))=some (.int .i64 v22)∧(8:Int)≠0∧0≤(wrap .i64 ((wrap .i64 ((wrap .i64 (Int.tdiv i17 8))*8))+u20))∧(wrap .i64 ((wrap .i64 ((wrap .i64 (Int.tdiv i17 8))*8))+u20))<((64:Nat):Int)∧ ∃v23,cell H21 (.add ⟨b2,0,none⟩ (toNat (wrap .i64 ((wrap .i64 ((wrap .i64 (Int.tdiv i17 8))*8))+u20))*1))=some (.int .i64 v23)∧(8:Int)≠0∧0≤u20∧u20<((8:Nat):Int)∧0≤(Int.tmod i17 8)∧(Int.tmod i17 8)<((8:Nat):Int)∧ ∃v24,cell H21 (.add (.add ⟨b9,0,none⟩ (toNat u20*8)) (toNat (Int.tmod i17 8)*1))=some (.int .i64 v24)∧0≤i17∧i17<((64:Nat):Int)∧stAt H21 (.add ⟨b12,0,none⟩ (toNat i17*1)) [.int .i64 (wrap .i64 (v22+(wrap .i64 (v23*v24))))] fun H25=>X19 [.int .i64 (wrap .i64 (u20+1))] H25) (X16 [.int .i64 (wrap .i64 (i17+1))] H21))→X19 [.int .i64 u20] H21)→X19 [.int .i64 0] H18) (∀X26:Kl,(∀(i27:Int) H28,(br (decide (i27<64)) (∀X29:Kl,(∀(su30 v31:Int) H32,(br (decide (v31<8)) ((8:Int)≠0∧0≤(wrap .i64 ((wrap .i64 (v31*8))+(Int.tmod i27 8)))∧(wrap .i64 ((wrap .i64 (v31*8))+(Int.tmod i27 8)))<((64:Nat):Int)∧ ∃v33,cell H32 (.add ⟨b12,0,none⟩ (toNat (wrap .i64 ((wrap .i64 (v31*8))+(Int.tmod i27 8)))*1))=some (.int .i64 v33)∧(8:Int)≠0∧0≤v31∧v31<((8:Nat):Int)∧0≤(wrap .i64 (Int.tdiv i27 8))∧(wrap .i64 (Int.tdiv i27 8))<((8:Nat):Int)∧ ∃v34,cell H32 (.add (.add ⟨b9,0,none⟩ (toNat v31*8)) (toNat (wrap .i64 (Int.tdiv i27 8))*1))=some (.int .i64 v34)∧X29 [.int .i64 (wrap .i64 (su30+(wrap .i64 (v33*v34)))),.int .i64 (wrap .i64 (v31+1))] H32) (Tryz.C 81 #[.int .i64 su30] H32 fun r35 H36=> ∃r37,r35= .int .i64 r37∧0≤i27∧i27<((64:Nat):Int)∧stAt H36 (.add ⟨b14,0,none⟩ (toNat i27*1)) [.int .i64 r37] fun H38=>X26 [.int .i64 (wrap .i64 (i27+1))] H38))→X29 [.int .i64 su30,.int .i64 v31] H32)→X29 [.int .i64 0,.int .i64 0] H28) (∃v39,v39.size=64∧rowIn H28 ⟨b14,0,none⟩ v39∧v39.size=64∧stAt H28 ⟨b4,0,none⟩ v39.toList fun H40=> ∃re41,re41.size=64∧rowIn H40 ⟨b4,0,none⟩ re41∧R (.agg re41) H40))→X26 [.int .i64 i27] H28)→X26 [.int .i64 0] H18))→X16 [.int .i64 i17] H18)→X16 [.int .i64 0] H15
def Tryz.p76:Plan:=(tl (tl (tl (two (tl (one (loop [(12,3)] [1,2,3,4,5] (tl (two (tl leaf) (two (one (tl (tl (one (loop [(15,3)] [1,2,3,4,5,6,12] (tl (two (tl leaf) (two (one (tl leaf)) leaf)))))))) leaf)))))) (two (tl (one (loop [(39,3)] [2,3,4,5] (tl (two (tl leaf) (two (one (tl (tl (two (tl (one (loop [(9,3),(42,3)] [2,3,4,5,8,39] (tl (two (tl leaf) (two (one (tl leaf)) leaf)))))) leaf)))) leaf)))))) (tl leaf))))))
theorem Tryz.s76{f1:AV}{H R}(h:Tryz.S76 f1 H R):Tryz.C 76 #[.agg f1] H R:=vcs Tryz.tab_ok Tryz.mixed Tryz.func76 Tryz.cal76 Tryz.p76 h (by kernel_rfl)
def Tryz.S77(p1:AV)(H:Heap)(R:Kv):Prop:=
 alc H (.cells p1 73) fun b2 H3=>alc H3 (.cells #[.int .i64 0,.int .i64 0,.int .i64 0] 73) fun b4 H5=>0≤(0:Int)∧(0:Int)<((3:Nat):Int)∧ ∃y6,cell H5 (.add ⟨b2,0,none⟩ (toNat (0:Int)*1))=some (.int .i64 y6)∧0≤(1:Int)∧(1:Int)<((3:Nat):Int)∧ ∃v7,cell H5 (.add ⟨b2,0,none⟩ (toNat (1:Int)*1))=some (.int .i64 v7)∧0≤(2:Int)∧(2:Int)<((3:Nat):Int)∧ ∃v8,cell H5 (.add ⟨b2,0,none⟩ (toNat (2:Int)*1))=some (.int .i64 v8)∧0≤(16:Int)∧Tryz.C 102 #[.int .i64 (wrap .i64 (y6+(shrI .i64 (wrap .i64 ((wrap .i64 ((91881:Int)*(wrap .i64 (v8-128))))+32768)) 16)))] H5 fun r9 H10=> ∃r11,r9= .int .i64 r11∧0≤(16:Int)∧Tryz.C 102 #[.int .i64 (wrap .i64 (y6-(shrI .i64 (wrap .i64 ((wrap .i64 ((wrap .i64 ((22554:Int)*(wrap .i64 (v7-128))))+(wrap .i64 ((46802:Int)*(wrap .i64 (v8-128))))))+32768)) 16)))] H10 fun r12 H13=> ∃r14,r12= .int .i64 r14∧0≤(16:Int)∧Tryz.C 102 #[.int .i64 (wrap .i64 (y6+(shrI .i64 (wrap .i64 ((wrap .i64 ((116130:Int)*(wrap .i64 (v7-128))))+32768)) 16)))] H13 fun r15 H16=> ∃r17,r15= .int .i64 r17∧#[Value.int .i64 r11,Value.int .i64 r14,Value.int .i64 r17].size=3∧stAt H16 ⟨b4,0,none⟩ (Array.toList #[.int .i64 r11,.int .i64 r14,.int .i64 r17]) fun H18=> ∃re19,re19.size=3∧rowIn H18 ⟨b4,0,none⟩ re19∧R (.agg re19) H18
def Tryz.p77:Plan:=(tl (tl (tl leaf)))
theorem Tryz.s77{p1:AV}{H R}(h:Tryz.S77 p1 H R):Tryz.C 77 #[.agg p1] H R:=vcs Tryz.tab_ok Tryz.mixed Tryz.func77 Tryz.cal77 Tryz.p77 h (by kernel_rfl)
def Tryz.S78(p1:AV)(H:Heap)(R:Kv):Prop:=
 alc H (.cells p1 73) fun b2 H3=>alc H3 (.cells #[.int .i64 0,.int .i64 0,.int .i64 0] 73) fun b4 H5=>0≤(0:Int)∧(0:Int)<((3:Nat):Int)∧ ∃r6,cell H5 (.add ⟨b2,0,none⟩ (toNat (0:Int)*1))=some (.int .i64 r6)∧0≤(1:Int)∧(1:Int)<((3:Nat):Int)∧ ∃g7,cell H5 (.add ⟨b2,0,none⟩ (toNat (1:Int)*1))=some (.int .i64 g7)∧0≤(2:Int)∧(2:Int)<((3:Nat):Int)∧ ∃b8,cell H5 (.add ⟨b2,0,none⟩ (toNat (2:Int)*1))=some (.int .i64 b8)∧0≤(16:Int)∧Tryz.C 102 #[.int .i64 (shrI .i64 (wrap .i64 ((wrap .i64 ((wrap .i64 ((wrap .i64 ((19595:Int)*r6))+(wrap .i64 ((38470:Int)*g7))))+(wrap .i64 ((7471:Int)*b8))))+32768)) 16)] H5 fun r9 H10=> ∃r11,r9= .int .i64 r11∧0≤(16:Int)∧Tryz.C 102 #[.int .i64 (wrap .i64 ((shrI .i64 (wrap .i64 ((wrap .i64 ((wrap .i64 ((wrap .i64 ((32768:Int)*b8))-(wrap .i64 ((11059:Int)*r6))))-(wrap .i64 ((21709:Int)*g7))))+32768)) 16)+128))] H10 fun r12 H13=> ∃r14,r12= .int .i64 r14∧0≤(16:Int)∧Tryz.C 102 #[.int .i64 (wrap .i64 ((shrI .i64 (wrap .i64 ((wrap .i64 ((wrap .i64 ((wrap .i64 ((32768:Int)*r6))-(wrap .i64 ((27439:Int)*g7))))-(wrap .i64 ((5329:Int)*b8))))+32768)) 16)+128))] H13 fun r15 H16=> ∃r17,r15= .int .i64 r17∧#[Value.int .i64 r11,Value.int .i64 r14,Value.int .i64 r17].size=3∧stAt H16 ⟨b4,0,none⟩ (Array.toList #[.int .i64 r11,.int .i64 r14,.int .i64 r17]) fun H18=> ∃re19,re19.size=3∧rowIn H18 ⟨b4,0,none⟩ re19∧R (.agg re19) H18
def Tryz.p78:Plan:=(tl (tl (tl leaf)))
theorem Tryz.s78{p1:AV}{H R}(h:Tryz.S78 p1 H R):Tryz.C 78 #[.agg p1] H R:=vcs Tryz.tab_ok Tryz.mixed Tryz.func78 Tryz.cal78 Tryz.p78 h (by kernel_rfl)
end Go.Proofs
namespace Go.Proofs
open Go.Sh Go.Sh.Plan
open Go.IntKind (wrap)
open Int (toNat)
def Tryz.S79(p1:AV)(H:Heap)(R:Kv):Prop:=
 alc H (.cells p1 118) fun b2 H3=>alc H3 (.cells #[.int .i64 0,.int .i64 0,.slice none 0 0] 118) fun b4 H5=> ∃w6,cell H5 (.add ⟨b2,0,none⟩ 0)=some (.int .i64 w6)∧(2:Int)≠0∧ ∃h7,cell H5 (.add ⟨b2,0,none⟩ 1)=some (.int .i64 h7)∧(2:Int)≠0∧alc H5 (.cells #[.int .i64 0,.int .i64 0,.slice none 0 0] 118) fun b8 H9=>#[Value.int .i64 (wrap .i64 (Int.tdiv (wrap .i64 (w6+1)) 2)),Value.int .i64 (wrap .i64 (Int.tdiv (wrap .i64 (h7+1)) 2)),Value.slice none 0 0].size=3∧stAt H9 ⟨b8,0,none⟩ (Array.toList #[.int .i64 (wrap .i64 (Int.tdiv (wrap .i64 (w6+1)) 2)),.int .i64 (wrap .i64 (Int.tdiv (wrap .i64 (h7+1)) 2)),.slice none 0 0]) fun H10=> ∃w11,cell H10 (.add ⟨b8,0,none⟩ 0)=some (.int .i64 w11)∧ ∃h12,cell H10 (.add ⟨b8,0,none⟩ 1)=some (.int .i64 h12)∧ ∀X13:Kl,(∀(i14:Int) H15,(br (decide (i14<(wrap .i64 (w11*h12)))) (∃w16,cell H15 (.add ⟨b8,0,none⟩ 0)=some (.int .i64 w16)∧w16≠0∧ ∃w17,cell H15 (.add ⟨b8,0,none⟩ 0)=some (.int .i64 w17)∧w17≠0∧ ∃s18p s18l s18c,cell H15 (.add ⟨b8,0,none⟩ 2)=some (.slice s18p s18l s18c)∧ ∃v19,v19.size=3∧rowIn H15 ⟨b2,0,none⟩ v19∧ ∃v20,v20.size=3∧rowIn H15 ⟨b2,0,none⟩ v20∧ ∃v21,v21.size=3∧rowIn H15 ⟨b2,0,none⟩ v21∧ ∃v22,v22.size=3∧rowIn H15 ⟨b2,0,none⟩ v22∧Tryz.C 43 #[.agg v19,.int .i64 (wrap .i64 ((2:Int)*(Int.tmod i14 w16))),.int .i64 (wrap .i64 ((2:Int)*(wrap .i64 (Int.tdiv i14 w17))))] H15 fun r23 H24=> ∃r25,r23= .int .i64 r25∧(Ext H15 H24∨(∃v47,v47.size=3∧rowIn H24 ⟨b2,0,none⟩ v47∧Value.agg v47= .agg v22)∧(∃v48,v48.size=3∧rowIn H24 ⟨b2,0,none⟩ v48∧Value.agg v48= .agg v21)∧(∃v49,v49.size=3∧rowIn H24 ⟨b2,0,none⟩ v49∧Value.agg v49= .agg v20)∧(∃s50p s50l s50c,cell H24 (.add ⟨b8,0,none⟩ 2)=some (.slice s50p s50l s50c)∧Value.slice s50p s50l s50c= .slice s18p s18l s18c))∧Tryz.C 43 #[.agg v20,.int .i64 (wrap .i64 ((wrap .i64 ((2:Int)*(Int.tmod i14 w16)))+1)),.int .i64 (wrap .i64 ((2:Int)*(wrap .i64 (Int.tdiv i14 w17))))] H24 fun r26 H27=> ∃r28,r26= .int .i64 r28∧(Ext H24 H27∨(∃v44,v44.size=3∧rowIn H27 ⟨b2,0,none⟩ v44∧Value.agg v44= .agg v22)∧(∃v45,v45.size=3∧rowIn H27 ⟨b2,0,none⟩ v45∧Value.agg v45= .agg v21)∧(∃s46p s46l s46c,cell H27 (.add ⟨b8,0,none⟩ 2)=some (.slice s46p s46l s46c)∧Value.slice s46p s46l s46c= .slice s18p s18l s18c))∧Tryz.C 43 #[.agg v21,.int .i64 (wrap .i64 ((2:Int)*(Int.tmod i14 w16))),.int .i64 (wrap .i64 ((wrap .i64 ((2:Int)*(wrap .i64 (Int.tdiv i14 w17))))+1))] H27 fun r29 H30=> ∃r31,r29= .int .i64 r31∧(Ext H27 H30∨(∃v42,v42.size=3∧rowIn H30 ⟨b2,0,none⟩ v42∧Value.agg v42= .agg v22)∧(∃s43p s43l s43c,cell H30 (.add ⟨b8,0,none⟩ 2)=some (.slice s43p s43l s43c)∧Value.slice s43p s43l s43c= .slice s18p s18l s18c))∧Tryz.C 43 #[.agg v22,.int .i64 (wrap .i64 ((wrap .i64 ((2:Int)*(Int.tmod i14 w16)))+1)),.int .i64 (wrap .i64 ((wrap .i64 ((2:Int)*(wrap .i64 (Int.tdiv i14 w17))))+1))] H30 fun r32 H33=> ∃r34,r32= .int .i64 r34∧(Ext H30 H33∨(∃s41p s41l s41c,cell H33 (.add ⟨b8,0,none⟩ 2)=some (.slice s41p s41l s41c)∧Value.slice s41p s41l s41c= .slice s18p s18l s18c))∧(4:Int)≠0∧alc H33 (.cells #[.int .i64 (wrap .i64 (Int.tdiv (wrap .i64 ((wrap .i64 ((wrap .i64 ((wrap .i64 (r25+r28))+r31))+r34))+2)) 4))] 3) fun b35 H36=>(Ext H33 H36∨(∃s40p s40l s40c,cell H36 (.add ⟨b8,0,none⟩ 2)=some (.slice s40p s40l s40c)∧Value.slice s40p s40l s40c= .slice s18p s18l s18c))∧appQ 1 8 #[.int .i64 0] H36 s18p s18l s18c (some ⟨b35,0,none⟩) 1 3 fun ap37p ap37l ap37c H38=>stAt H38 (.add ⟨b8,0,none⟩ 2) [.slice ap37p ap37l ap37c] fun H39=>X13 [.int .i64 (wrap .i64 (i14+1))] H39) (∃v51,v51.size=3∧rowIn H15 ⟨b8,0,none⟩ v51∧v51.size=3∧stAt H15 ⟨b4,0,none⟩ v51.toList fun H52=> ∃re53,re53.size=3∧rowIn H52 ⟨b4,0,none⟩ re53∧R (.agg re53) H52))→X13 [.int .i64 i14] H15)→X13 [.int .i64 0] H10
def Tryz.p79:Plan:=(tl (tl (two (tl (one (loop [(21,3)] [1,2,3,20] (tl (two (tl leaf) (two (one (tl (tl leaf))) leaf)))))) (tl leaf))))
theorem Tryz.s79{p1:AV}{H R}(h:Tryz.S79 p1 H R):Tryz.C 79 #[.agg p1] H R:=vcs Tryz.tab_ok Tryz.mixed Tryz.func79 Tryz.cal79 Tryz.p79 h (by kernel_rfl)
def Tryz.S80(H:Heap)(R:Kv):Prop:=
 alc H (.cells (Array.replicate 64 (Value.int .i64 0)) 149) fun b1 H2=> ∀X3:Kl,(∀(u4:Int) H5,(br (decide (u4<8)) (Tryz.C 103 #[.int .i64 u4] H5 fun r6 H7=> ∃r8,r6= .agg r8∧0≤u4∧u4<((8:Nat):Int)∧r8.size=8∧stAt H7 (.add ⟨b1,0,none⟩ (toNat u4*8)) r8.toList fun H9=>X3 [.int .i64 (wrap .i64 (u4+1))] H9) (∃v10,v10.size=64∧rowIn H5 ⟨b1,0,none⟩ v10∧v10.size=64∧stAt H5 ⟨b1,0,none⟩ v10.toList fun H11=> ∃re12,re12.size=64∧rowIn H11 ⟨b1,0,none⟩ re12∧R (.agg re12) H11))→X3 [.int .i64 u4] H5)→X3 [.int .i64 0] H2
def Tryz.p80:Plan:=(tl (two (tl (one (loop [(2,3)] [0] (tl (two (tl leaf) (two (one (tl leaf)) leaf)))))) (tl leaf)))
theorem Tryz.s80{_u:Unit}{H R}(h:Tryz.S80 H R):Tryz.C 80 #[] H R:=vcs Tryz.tab_ok Tryz.mixed Tryz.func80 Tryz.cal80 Tryz.p80 h (by kernel_rfl)
def Tryz.S81(n1:Int)(H:Heap)(R:Kv):Prop:=
 0≤(26:Int)∧R (.int .i64 (shrI .i64 (wrap .i64 (n1+33554432)) 26)) H
def Tryz.p81:Plan:=(tl (tl leaf))
theorem Tryz.s81{n1:Int}{H R}(h:Tryz.S81 n1 H R):Tryz.C 81 #[.int .i64 n1] H R:=vcs Tryz.tab_ok Tryz.mixed Tryz.func81 Tryz.cal81 Tryz.p81 h (by kernel_rfl)
def Tryz.S82(x1p:OA)(x1l x1c:Nat)(co2:Int)(H:Heap)(R:Kv):Prop:=
 ∀J3:Kl,(∀H4,(Tryz.C 104 #[.int .u64 (wrap .u64 (x1l:Int)),.int .u64 (wrap .u64 co2)] H4 fun r5 H6=> ∃r7 r8,r5= .tuple #[.int .u64 r7,.int .u64 r8]∧ ∀J9:Kl,(∀H10,(0≤(wrap .i64 r8)∧(wrap .i64 r8)≤(wrap .i64 r8)∧((8:Nat):Int)*(wrap .i64 r8)≤281474976710656∧(wrap .i64 r8)≤281474976710656∧alc H10 (.cells (List.toArray (reps (toNat (wrap .i64 r8)) (Array.toList #[.int .i64 0]))) 3) fun b11 H12=> ∃xs13,rowOf H12 x1p (min x1l (toNat (wrap .i64 r8))*1) xs13∧stAt H12 ⟨b11,0,none⟩ xs13.toList fun H14=> ∀X15:Kl,(∀(n16:Int) H17,(br (decide (n16<(((toNat (wrap .i64 r8)):Nat):Int))) (0≤n16∧n16≤(((toNat (wrap .i64 r8)):Nat):Int)∧0≤n16∧n16≤(((toNat (wrap .i64 r8)):Nat):Int)∧ ∃xs18,rowOf H17 (if (toNat (wrap .i64 r8))=0 then(some ⟨b11,0,none⟩) else Option.map (fun x=>Addr.add x (0*1)) (some ⟨b11,0,none⟩)) (min ((toNat n16)-0) ((toNat (wrap .i64 r8))-(toNat n16))*1) xs18∧copQ H17 (if (toNat (wrap .i64 r8))=(toNat n16) then(some ⟨b11,0,none⟩) else Option.map (fun x=>Addr.add x ((toNat n16)*1)) (some ⟨b11,0,none⟩)) xs18 fun H19=>X15 [.int .i64 (wrap .i64 (n16+((min ((toNat n16)-0) ((toNat (wrap .i64 r8))-(toNat n16)):Nat):Int)))] H19) (R (.slice (some ⟨b11,0,none⟩) (toNat (wrap .i64 r8)) (toNat (wrap .i64 r8))) H17))→X15 [.int .i64 n16] H17)→X15 [.int .i64 ((min x1l (toNat (wrap .i64 r8)):Nat):Int)] H14)→J9 [] H10)→br (decide (r7>0)) (False) (br (decide (r8>9223372036854775807)) (False) (J9 [] H6)))→J3 [] H4)→
 br (decide (co2<0))
 (False)
 (J3 [] H)
def Tryz.p82:Plan:=(tl (two (join [] [0,1] (tl (tl leaf))) (tl (two (join [] [0,6] (tl (tl leaf))) (tl (tl (two (one (loop [(8,3)] [7] (two (tl (tl leaf)) (one leaf)))) (tl leaf))))))))
theorem Tryz.s82{x1p:OA}{x1l x1c:Nat}{co2:Int}{H R}(h:Tryz.S82 x1p x1l x1c co2 H R):Tryz.C 82 #[.slice x1p x1l x1c,.int .i64 co2] H R:=vcs Tryz.tab_ok Tryz.mixed Tryz.func82 Tryz.cal82 Tryz.p82 h (by kernel_rfl)
def Tryz.S83(s1p:OA)(s1l s1c:Nat)(n2:Int)(H:Heap)(R:Kv):Prop:=
 ∀J3:Kl,(∀H4,(br (decide (((wrap .i64 (n2-(wrap .i64 ((s1c:Int)-(s1l:Int))))):Int)>0)) (0≤(s1c:Int)∧(s1c:Int)≤(s1c:Int)∧appZ 1 1 #[.int .u8 0] H4 (if s1c=0 then s1p else Option.map (fun x=>Addr.add x (0*1)) s1p) ((toNat (s1c:Int))-0) (s1c-0) (wrap .i64 (n2-(wrap .i64 ((s1c:Int)-(s1l:Int))))) 5 fun ap5p ap5l ap5c H6=>0≤(s1l:Int)∧(s1l:Int)≤(ap5c:Int)∧R (.slice (if ap5c=0 then ap5p else Option.map (fun x=>Addr.add x (0*1)) ap5p) ((toNat (s1l:Int))-0) (ap5c-0)) H6) (R (.slice s1p s1l s1c) H4))→J3 [] H4)→
 br (decide (n2<0))
 (False)
 (J3 [] H)
def Tryz.p83:Plan:=(tl (two (join [] [0,1] (tl (tl leaf))) (two (tl (tl (tl leaf))) (tl leaf))))
theorem Tryz.s83{s1p:OA}{s1l s1c:Nat}{n2:Int}{H R}(h:Tryz.S83 s1p s1l s1c n2 H R):Tryz.C 83 #[.slice s1p s1l s1c,.int .i64 n2] H R:=vcs Tryz.tab_ok Tryz.mixed Tryz.func83 Tryz.cal83 Tryz.p83 h (by kernel_rfl)
def Tryz.S84(x1:Int)(H:Heap)(R:Kv):Prop:=
 Tryz.C 106 #[.int .u64 x1] H fun r2 H3=> ∃r4,r2= .int .i64 r4∧R (.int .i64 r4) H3
def Tryz.p84:Plan:=(tl (two (two (tl leaf) leaf) (tl leaf)))
theorem Tryz.s84{x1:Int}{H R}(h:Tryz.S84 x1 H R):Tryz.C 84 #[.int .u64 x1] H R:=vcs Tryz.tab_ok Tryz.mixed Tryz.func84 Tryz.cal84 Tryz.p84 h (by kernel_rfl)
def Tryz.S85(x1p:OA)(x1l x1c cm2g:Nat)(cm2x cm2y:AV)(H:Heap)(R:Kv):Prop:=
 Tryz.C 107 #[.slice x1p x1l x1c,.int .i64 (x1l:Int),.func (.func cm2g) cm2x cm2y] H fun r3 H4=>r3= .tuple #[]∧R (.tuple #[]) H4
def Tryz.p85:Plan:=leaf
theorem Tryz.s85{x1p:OA}{x1l x1c cm2g:Nat}{cm2x cm2y:AV}{H R}(h:Tryz.S85 x1p x1l x1c cm2g cm2x cm2y H R):Tryz.C 85 #[.slice x1p x1l x1c,.func (.func cm2g) cm2x cm2y] H R:=vcs Tryz.tab_ok Tryz.mixed Tryz.func85 Tryz.cal85 Tryz.p85 h (by kernel_rfl)
def Tryz.S86(a1 b2:AV)(H:Heap)(R:Kv):Prop:=
 alc H (.cells a1 158) fun b3 H4=>alc H4 (.cells b2 158) fun b5 H6=> ∃co7,cell H6 (.add ⟨b3,0,none⟩ 0)=some (.int .i64 co7)∧ ∃co8,cell H6 (.add ⟨b5,0,none⟩ 0)=some (.int .i64 co8)∧R (.int .i64 (wrap .i64 (co7-co8))) H6
def Tryz.p86:Plan:=(tl (tl leaf))
theorem Tryz.s86{a1 b2:AV}{H R}(h:Tryz.S86 a1 b2 H R):Tryz.C 86 #[.agg a1,.agg b2] H R:=vcs Tryz.tab_ok Tryz.mixed Tryz.func86 Tryz.cal86 Tryz.p86 h (by kernel_rfl)
def Tryz.S87(a1p:OA)(a1l a1c:Nat)(b2p:OA)(b2l b2c:Nat)(H:Heap)(R:Kv):Prop:=
 alc H (.cells #[.slice a1p a1l a1c,.slice b2p b2l b2c] 156) fun b3 H4=>Tryz.C 108 #[.slice (some ⟨b3,0,none⟩) 2 2] H4 fun r5 H6=> ∃ou7p ou7l ou7c,r5= .slice ou7p ou7l ou7c∧Tryz.C 85 #[.slice ou7p ou7l ou7c,.func (.func 109) #[] #[]] H6 fun r8 H9=>r8= .tuple #[]∧R (.slice ou7p ou7l ou7c) H9
def Tryz.p87:Plan:=(tl (tl (tl (tl leaf))))
theorem Tryz.s87{a1p:OA}{a1l a1c:Nat}{b2p:OA}{b2l b2c:Nat}{H R}(h:Tryz.S87 a1p a1l a1c b2p b2l b2c H R):Tryz.C 87 #[.slice a1p a1l a1c,.slice b2p b2l b2c] H R:=vcs Tryz.tab_ok Tryz.mixed Tryz.func87 Tryz.cal87 Tryz.p87 h (by kernel_rfl)
def Tryz.S88(ro1p:OA)(ro1l ro1c:Nat)(H:Heap)(R:Kv):Prop:=
 ∀X2:Kl,(∀(ou3p:OA) (ou3l ou3c:Nat) (i4:Int) H5,(br (decide (((wrap .i64 (i4+1)):Int)<(ro1l:Int))) (∃a6,ro1p=some a6∧0≤i4∧i4<(ro1l:Int)∧ ∃co7,cell H5 (.add (.add a6 (toNat i4*2)) 0)=some (.int .i64 co7)∧ ∃a8,ro1p=some a8∧0≤(wrap .i64 (i4+1))∧(wrap .i64 (i4+1))<(ro1l:Int)∧ ∃co9,cell H5 (.add (.add a8 (toNat (wrap .i64 (i4+1))*2)) 0)=some (.int .i64 co9)∧ ∃a10,ro1p=some a10∧0≤i4∧i4<(ro1l:Int)∧ ∃sy11p sy11l sy11c,cell H5 (.add (.add a10 (toNat i4*2)) 1)=some (.slice sy11p sy11l sy11c)∧ ∃a12,ro1p=some a12∧0≤(wrap .i64 (i4+1))∧(wrap .i64 (i4+1))<(ro1l:Int)∧ ∃sy13p sy13l sy13c,cell H5 (.add (.add a12 (toNat (wrap .i64 (i4+1))*2)) 1)=some (.slice sy13p sy13l sy13c)∧alc H5 (.cells #[.slice sy11p sy11l sy11c,.slice sy13p sy13l sy13c] 55) fun b14 H15=>(Ext H5 H15∨(∃co25,cell H15 (.add (.add a8 (toNat (wrap .i64 (i4+1))*2)) 0)=some (.int .i64 co25)∧Value.int .i64 co25= .int .i64 co9)∧(∃co26,cell H15 (.add (.add a6 (toNat i4*2)) 0)=some (.int .i64 co26)∧Value.int .i64 co26= .int .i64 co7))∧Tryz.C 110 #[.slice (some ⟨b14,0,none⟩) 2 2] H15 fun r16 H17=> ∃r18p r18l r18c,r16= .slice r18p r18l r18c∧(Ext H15 H17∨(∃co23,cell H17 (.add (.add a8 (toNat (wrap .i64 (i4+1))*2)) 0)=some (.int .i64 co23)∧Value.int .i64 co23= .int .i64 co9)∧(∃co24,cell H17 (.add (.add a6 (toNat i4*2)) 0)=some (.int .i64 co24)∧Value.int .i64 co24= .int .i64 co7))∧#[Value.int .i64 (wrap .i64 (co7+co9)),Value.slice r18p r18l r18c].size=2∧0+2≤2∧alc H17 (.cells (List.toArray (setL [.int .i64 0,.slice none 0 0] 0 (Array.toList #[.int .i64 (wrap .i64 (co7+co9)),.slice r18p r18l r18c]))) 158) fun b19 H20=>appQ 2 32 #[.int .i64 0,.slice none 0 0] H20 ou3p ou3l ou3c (some ⟨b19,0,none⟩) 1 158 fun ou21p ou21l ou21c H22=>X2 [.slice ou21p ou21l ou21c,.int .i64 (wrap .i64 (i4+2))] H22) (R (.slice ou3p ou3l ou3c) H5))→X2 [.slice ou3p ou3l ou3c,.int .i64 i4] H5)→X2 [.slice none 0 0,.int .i64 0] H
def Tryz.p88:Plan:=(tl (tl (two (tl (one (loop [(3,156),(4,3)] [0] (two (tl (tl leaf)) (two (one leaf) leaf))))) (tl leaf))))
theorem Tryz.s88{ro1p:OA}{ro1l ro1c:Nat}{H R}(h:Tryz.S88 ro1p ro1l ro1c H R):Tryz.C 88 #[.slice ro1p ro1l ro1c] H R:=vcs Tryz.tab_ok Tryz.mixed Tryz.func88 Tryz.cal88 Tryz.p88 h (by kernel_rfl)
def Tryz.S89(le1p:OA)(le1l le1c:Nat)(H:Heap)(R:Kv):Prop:=
 br (decide (((le1l:Int):Int)>300))
 (R (.tuple #[.int .i64 0,.bool false]) H)
 (∀X2:Kl,(∀(su3 t4:Int) H5,(br (decide (t4<(le1l:Int))) (∃a6,le1p=some a6∧0≤t4∧t4<(le1l:Int)∧ ∃n7,cell H5 (.add a6 (toNat t4*1))=some (.int .i64 n7)∧ ∀J8:Kl,(∀H9,(br (decide (n7>0)) (0≤(wrap .i64 ((16:Int)-n7))∧X2 [.int .i64 (wrap .i64 (su3+(shlI .i64 1 (wrap .i64 ((16:Int)-n7))))),.int .i64 (wrap .i64 (t4+1))] H9) (X2 [.int .i64 su3,.int .i64 (wrap .i64 (t4+1))] H9))→J8 [] H9)→br (decide (n7<0)) (R (.tuple #[.int .i64 0,.bool false]) H5) (br (decide (n7>16)) (R (.tuple #[.int .i64 0,.bool false]) H5) (J8 [] H5))) (R (.tuple #[.int .i64 su3,.bool true]) H5))→X2 [.int .i64 su3,.int .i64 t4] H5)→X2 [.int .i64 0,.int .i64 0] H)
def Tryz.p89:Plan:=(tl (tg (tl (two (tl (one (loop [(4,3),(12,3)] [10,11] (tl (two (tl leaf) (two (one (tl (two (join [] [4,6,10,11,12] g0) (tl (tl leaf))))) leaf)))))) (tl leaf)))))
theorem Tryz.s89{le1p:OA}{le1l le1c:Nat}{H R}(h:Tryz.S89 le1p le1l le1c H R):Tryz.C 89 #[.slice le1p le1l le1c] H R:=vcs Tryz.tab_ok Tryz.mixed Tryz.func89 Tryz.cal89 Tryz.p89 h (by kernel_rfl)
def Tryz.S90(at_1:Int)(hi2:Bool)(H:Heap)(R:Kv):Prop:=
 br hi2
 ((8:Int)≠0∧R (.int .i64 (wrap .i64 ((7:Int)-(Int.tmod at_1 8)))) H)
 ((8:Int)≠0∧R (.int .i64 (Int.tmod at_1 8)) H)
def Tryz.p90:Plan:=(tl (tg (tl leaf)))
theorem Tryz.s90{at_1:Int}{hi2:Bool}{H R}(h:Tryz.S90 at_1 hi2 H R):Tryz.C 90 #[.int .i64 at_1,.bool hi2] H R:=vcs Tryz.tab_ok Tryz.mixed Tryz.func90 Tryz.cal90 Tryz.p90 h (by kernel_rfl)
def Tryz.S91(r1 g2 b3:Int)(H:Heap)(R:Kv):Prop:=
 alc H (.cells #[.int .i64 0,.int .i64 0,.int .i64 0] 73) fun b4 H5=>Tryz.C 98 #[.int .i64 (wrap .i64 ((wrap .i64 ((wrap .i64 ((19595:Int)*r1))+(wrap .i64 ((38470:Int)*g2))))+(wrap .i64 ((7471:Int)*b3))))] H5 fun r6 H7=> ∃r8,r6= .int .i64 r8∧Tryz.C 97 #[.int .i64 r8] H7 fun r9 H10=> ∃r11,r9= .int .i64 r11∧Tryz.C 98 #[.int .i64 (wrap .i64 ((wrap .i64 ((wrap .i64 ((32768:Int)*b3))-(wrap .i64 ((11059:Int)*r1))))-(wrap .i64 ((21709:Int)*g2))))] H10 fun r12 H13=> ∃r14,r12= .int .i64 r14∧Tryz.C 97 #[.int .i64 (wrap .i64 (r14+128))] H13 fun r15 H16=> ∃r17,r15= .int .i64 r17∧Tryz.C 98 #[.int .i64 (wrap .i64 ((wrap .i64 ((wrap .i64 ((32768:Int)*r1))-(wrap .i64 ((27439:Int)*g2))))-(wrap .i64 ((5329:Int)*b3))))] H16 fun r18 H19=> ∃r20,r18= .int .i64 r20∧Tryz.C 97 #[.int .i64 (wrap .i64 (r20+128))] H19 fun r21 H22=> ∃r23,r21= .int .i64 r23∧#[Value.int .i64 r11,Value.int .i64 r17,Value.int .i64 r23].size=3∧stAt H22 ⟨b4,0,none⟩ (Array.toList #[.int .i64 r11,.int .i64 r17,.int .i64 r23]) fun H24=> ∃re25,re25.size=3∧rowIn H24 ⟨b4,0,none⟩ re25∧R (.agg re25) H24
def Tryz.p91:Plan:=(tl (tl leaf))
theorem Tryz.s91{r1 g2 b3:Int}{H R}(h:Tryz.S91 r1 g2 b3 H R):Tryz.C 91 #[.int .i64 r1,.int .i64 g2,.int .i64 b3] H R:=vcs Tryz.tab_ok Tryz.mixed Tryz.func91 Tryz.cal91 Tryz.p91 h (by kernel_rfl)
def Tryz.S92(u1 x2:Int)(H:Heap)(R:Kv):Prop:=
 br (u1==0)
 (R (.int .i64 2896) H)
 ((32:Int)≠0∧ ∀J3:Kl,(∀(k4:Int) H5,(alc H5 (.cells #[.int .i64 0,.int .i64 0,.int .i64 0,.int .i64 0,.int .i64 0,.int .i64 0,.int .i64 0,.int .i64 0,.int .i64 0] 185) fun b6 H7=>#[Value.int .i64 4096,Value.int .i64 4017,Value.int .i64 3784,Value.int .i64 3406,Value.int .i64 2896,Value.int .i64 2276,Value.int .i64 1567,Value.int .i64 799,Value.int .i64 0].size=9∧stAt H7 ⟨b6,0,none⟩ (Array.toList #[.int .i64 4096,.int .i64 4017,.int .i64 3784,.int .i64 3406,.int .i64 2896,.int .i64 2276,.int .i64 1567,.int .i64 799,.int .i64 0]) fun H8=>br (decide (k4>8)) (0≤(wrap .i64 ((16:Int)-k4))∧(wrap .i64 ((16:Int)-k4))<((9:Nat):Int)∧ ∃v9,cell H8 (.add ⟨b6,0,none⟩ (toNat (wrap .i64 ((16:Int)-k4))*1))=some (.int .i64 v9)∧R (.int .i64 (wrap .i64 (0-v9))) H8) (0≤k4∧k4<((9:Nat):Int)∧ ∃v10,cell H8 (.add ⟨b6,0,none⟩ (toNat k4*1))=some (.int .i64 v10)∧R (.int .i64 v10) H8))→J3 [.int .i64 k4] H5)→br (decide (((Int.tmod (wrap .i64 ((wrap .i64 ((wrap .i64 ((2:Int)*x2))+1))*u1)) 32):Int)>16)) (J3 [.int .i64 (wrap .i64 ((32:Int)-(Int.tmod (wrap .i64 ((wrap .i64 ((wrap .i64 ((2:Int)*x2))+1))*u1)) 32)))] H) (J3 [.int .i64 (Int.tmod (wrap .i64 ((wrap .i64 ((wrap .i64 ((2:Int)*x2))+1))*u1)) 32)] H))
def Tryz.p92:Plan:=(tl (tg (tl (two (join [(5,3)] [] (tl (tl leaf))) (tl (tg (tl leaf)))))))
theorem Tryz.s92{u1 x2:Int}{H R}(h:Tryz.S92 u1 x2 H R):Tryz.C 92 #[.int .i64 u1,.int .i64 x2] H R:=vcs Tryz.tab_ok Tryz.mixed Tryz.func92 Tryz.cal92 Tryz.p92 h (by kernel_rfl)
def Tryz.S93(l1p:OA)(l1l l1c:Nat)(H:Heap)(R:Kv):Prop:=
 Tryz.C 111 #[.slice l1p l1l l1c] H fun r2 H3=> ∃r4 r5,r2= .tuple #[.int .i64 r4,.bool r5]∧ ∀J6:Kl,(∀H7,(0≤(l1l:Int)∧(l1l:Int)≤(l1l:Int)∧((8:Nat):Int)*(l1l:Int)≤281474976710656∧(l1l:Int)≤281474976710656∧alc H7 (.cells (List.toArray (reps (toNat (l1l:Int)) (Array.toList #[.int .i64 0]))) 3) fun b8 H9=> ∀X10:Kl,(∀(co11 la12 n13:Int) H14,(br (decide (n13≤16)) (∀X15:Kl,(∀(co16 la17 s18:Int) H19,(br (decide (s18<(l1l:Int))) (∃a20,l1p=some a20∧0≤s18∧s18<(l1l:Int)∧ ∃v21,cell H19 (.add a20 (toNat s18*1))=some (.int .i64 v21)∧br (v21 != n13) (X15 [.int .i64 co16,.int .i64 la17,.int .i64 (wrap .i64 (s18+1))] H19) (∀J22:Kl,(∀(co23:Int) H24,(∃a25,(some ⟨b8,0,none⟩)=some a25∧0≤s18∧s18<(((toNat (l1l:Int)):Nat):Int)∧stAt H24 (.add a25 (toNat s18*1)) [.int .i64 co23] fun H26=>X15 [.int .i64 co23,.int .i64 n13,.int .i64 (wrap .i64 (s18+1))] H26)→J22 [.int .i64 co23] H24)→br (decide (la17>0)) (0≤(wrap .i64 (n13-la17))∧J22 [.int .i64 (shlI .i64 (wrap .i64 (co16+1)) (wrap .i64 (n13-la17)))] H19) (J22 [.int .i64 co16] H19))) (X10 [.int .i64 co16,.int .i64 la17,.int .i64 (wrap .i64 (n13+1))] H19))→X15 [.int .i64 co16,.int .i64 la17,.int .i64 s18] H19)→X15 [.int .i64 co11,.int .i64 la12,.int .i64 0] H14) (R (.tuple #[.slice (some ⟨b8,0,none⟩) (toNat (l1l:Int)) (toNat (l1l:Int)),.bool true]) H14))→X10 [.int .i64 co11,.int .i64 la12,.int .i64 n13] H14)→X10 [.int .i64 0,.int .i64 0,.int .i64 1] H9)→J6 [] H7)→
 br (!r5) (R (.tuple #[.slice none 0 0,.bool false]) H3) (br (decide (r4>65536)) (R (.tuple #[.slice none 0 0,.bool false]) H3) (J6 [] H3))
def Tryz.p93:Plan:=(tl (tl (two (join [] [0] g0) (tl (tl (tl (two (tl (one (loop [(7,3),(8,3),(9,3)] [0,6] (two (tl (tl leaf)) (two (one (tl (one (loop [(7,3),(8,3),(10,3)] [0,6,9] (two (tl (tl leaf)) (two (one (two (tl (tl leaf)) (two (join [(7,3)] [0,6,9,10] (tl (tl leaf))) (tl leaf)))) leaf)))))) leaf))))) (tl leaf))))))))
theorem Tryz.s93{l1p:OA}{l1l l1c:Nat}{H R}(h:Tryz.S93 l1p l1l l1c H R):Tryz.C 93 #[.slice l1p l1l l1c] H R:=vcs Tryz.tab_ok Tryz.mixed Tryz.func93 Tryz.cal93 Tryz.p93 h (by kernel_rfl)
def Tryz.S94(s1:OA)(H:Heap)(R:Kv):Prop:=
 ∃a2,s1=some a2∧ ∃At3,cell H (.add a2 1)=some (.int .i64 At3)∧ ∃a4,s1=some a4∧ ∃L5p L5l L5c,cell H (.add a4 0)=some (.slice L5p L5l L5c)∧br (decide (At3≥(L5l:Int)))
 (∃a6,s1=some a6∧stAt H (.add a6 2) [.bool false] fun H7=>R (.int .i64 0) H7)
 (∃a8,s1=some a8∧ ∃At9,cell H (.add a8 1)=some (.int .i64 At9)∧ ∃a10,s1=some a10∧stAt H (.add a10 1) [.int .i64 (wrap .i64 (At9+1))] fun H11=> ∃a12,s1=some a12∧ ∃L13p L13l L13c,cell H11 (.add a12 0)=some (.slice L13p L13l L13c)∧ ∃a14,s1=some a14∧ ∃At15,cell H11 (.add a14 1)=some (.int .i64 At15)∧ ∃a16,L13p=some a16∧0≤(wrap .i64 (At15-1))∧(wrap .i64 (At15-1))<(L13l:Int)∧ ∃v17,cell H11 (.add a16 (toNat (wrap .i64 (At15-1))*1))=some (.int .i64 v17)∧R (.int .i64 v17) H11)
def Tryz.p94:Plan:=(tl (two (tl (two (tl (tl leaf)) leaf)) (tl (tl leaf))))
theorem Tryz.s94{s1:OA}{H R}(h:Tryz.S94 s1 H R):Tryz.C 94 #[.pointer s1] H R:=vcs Tryz.tab_ok Tryz.mixed Tryz.func94 Tryz.cal94 Tryz.p94 h (by kernel_rfl)
def Tryz.S95(l1p:OA)(l1l l1c:Nat)(co2p:OA)(co2l co2c:Nat)(n3 v4:Int)(H:Heap)(R:Kv):Prop:=
 ∀X5:Kl,(∀(s6:Int) H7,(br (decide (s6<(l1l:Int))) (∃a8,l1p=some a8∧0≤s6∧s6<(l1l:Int)∧ ∃v9,cell H7 (.add a8 (toNat s6*1))=some (.int .i64 v9)∧br (v9==n3) (∃a10,co2p=some a10∧0≤s6∧s6<(co2l:Int)∧ ∃v11,cell H7 (.add a10 (toNat s6*1))=some (.int .i64 v11)∧br (v11==v4) (R (.int .i64 s6) H7) (X5 [.int .i64 (wrap .i64 (s6+1))] H7)) (X5 [.int .i64 (wrap .i64 (s6+1))] H7)) (R (.int .i64 (-1:Int)) H7))→X5 [.int .i64 s6] H7)→X5 [.int .i64 0] H
def Tryz.p95:Plan:=(tl (two (tl (one (loop [(9,3)] [0,1,2,3] (two (tl (tl leaf)) (two (one g0) leaf))))) (tl leaf)))
theorem Tryz.s95{l1p:OA}{l1l l1c:Nat}{co2p:OA}{co2l co2c:Nat}{n3 v4:Int}{H R}(h:Tryz.S95 l1p l1l l1c co2p co2l co2c n3 v4 H R):Tryz.C 95 #[.slice l1p l1l l1c,.slice co2p co2l co2c,.int .i64 n3,.int .i64 v4] H R:=vcs Tryz.tab_ok Tryz.mixed Tryz.func95 Tryz.cal95 Tryz.p95 h (by kernel_rfl)
def Tryz.S96(l1p:OA)(l1l l1c:Nat)(co2p:OA)(co2l co2c:Nat)(n3 v4:Int)(H:Heap)(R:Kv):Prop:=
 ∀X5:Kl,(∀(s6:Int) H7,(br (decide (s6<(l1l:Int))) (∃a8,l1p=some a8∧0≤s6∧s6<(l1l:Int)∧ ∃v9,cell H7 (.add a8 (toNat s6*1))=some (.int .i64 v9)∧br (decide (v9>n3)) (∃a10,co2p=some a10∧0≤s6∧s6<(co2l:Int)∧ ∃v11,cell H7 (.add a10 (toNat s6*1))=some (.int .i64 v11)∧ ∃a12,l1p=some a12∧0≤s6∧s6<(l1l:Int)∧ ∃v13,cell H7 (.add a12 (toNat s6*1))=some (.int .i64 v13)∧0≤(wrap .i64 (v13-n3))∧br (((shrI .i64 v11 (wrap .i64 (v13-n3))):Int)==v4) (R (.bool true) H7) (X5 [.int .i64 (wrap .i64 (s6+1))] H7)) (X5 [.int .i64 (wrap .i64 (s6+1))] H7)) (R (.bool false) H7))→X5 [.int .i64 s6] H7)→X5 [.int .i64 0] H
def Tryz.p96:Plan:=(tl (two (tl (one (loop [(9,3)] [0,1,2,3] (two (tl (tl leaf)) (two (one g0) leaf))))) (tl leaf)))
theorem Tryz.s96{l1p:OA}{l1l l1c:Nat}{co2p:OA}{co2l co2c:Nat}{n3 v4:Int}{H R}(h:Tryz.S96 l1p l1l l1c co2p co2l co2c n3 v4 H R):Tryz.C 96 #[.slice l1p l1l l1c,.slice co2p co2l co2c,.int .i64 n3,.int .i64 v4] H R:=vcs Tryz.tab_ok Tryz.mixed Tryz.func96 Tryz.cal96 Tryz.p96 h (by kernel_rfl)
def Tryz.S97(n1:Int)(H:Heap)(R:Kv):Prop:=
 br (decide (n1<0))
 (R (.int .i64 0) H)
 (br (decide (n1>255)) (R (.int .i64 255) H) (R (.int .i64 n1) H))
def Tryz.p97:Plan:=(tl (tg (tg (tl leaf))))
theorem Tryz.s97{n1:Int}{H R}(h:Tryz.S97 n1 H R):Tryz.C 97 #[.int .i64 n1] H R:=vcs Tryz.tab_ok Tryz.mixed Tryz.func97 Tryz.cal97 Tryz.p97 h (by kernel_rfl)
def Tryz.S98(n1:Int)(H:Heap)(R:Kv):Prop:=
 Tryz.C 57 #[.int .i64 (wrap .i64 (n1+32768)),.int .i64 65536] H fun r2 H3=> ∃r4,r2= .int .i64 r4∧R (.int .i64 r4) H3
def Tryz.p98:Plan:=(tl (tl leaf))
theorem Tryz.s98{n1:Int}{H R}(h:Tryz.S98 n1 H R):Tryz.C 98 #[.int .i64 n1] H R:=vcs Tryz.tab_ok Tryz.mixed Tryz.func98 Tryz.cal98 Tryz.p98 h (by kernel_rfl)
def Tryz.S99(le1p:OA)(le1l le1c:Nat)(H:Heap)(R:Kv):Prop:=
 Tryz.C 52 #[.slice le1p le1l le1c] H fun r2 H3=> ∃r4p r4l r4c r5,r2= .tuple #[.slice r4p r4l r4c,.bool r5]∧br (!r5)
 (R (.tuple #[.pointer none,.bool false]) H3)
 (0≤(1:Int)∧(1:Int)≤(1:Int)∧((16:Nat):Int)*(1:Int)≤281474976710656∧(1:Int)≤281474976710656∧alc H3 (.cells (List.toArray (reps (toNat 1) (Array.toList #[.int .i64 0,.int .i64 0]))) 189) fun b6 H7=>alc H7 (.cells #[.slice (some ⟨b6,0,none⟩) (toNat 1) (toNat 1)] 188) fun b8 H9=> ∀X10:Kl,(∀(s11:Int) H12,(br (decide (s11<(le1l:Int))) (∃a13,le1p=some a13∧0≤s11∧s11<(le1l:Int)∧ ∃n14,cell H12 (.add a13 (toNat s11*1))=some (.int .i64 n14)∧ ∀X15:Kl,(∀(at_16 k17:Int) H18,(br (decide (k17≥0)) (∃a19,r4p=some a19∧0≤s11∧s11<(r4l:Int)∧ ∃v20,cell H18 (.add a19 (toNat s11*1))=some (.int .i64 v20)∧0≤k17∧br (k17==0) (∃a21,(some ⟨b8,0,none⟩)=some a21∧ ∃no22p no22l no22c,cell H18 (.add a21 0)=some (.slice no22p no22l no22c)∧ ∃a23,no22p=some a23∧0≤at_16∧at_16<(no22l:Int)∧0≤(andI .i64 (shrI .i64 v20 k17) 1)∧(andI .i64 (shrI .i64 v20 k17) 1)<((2:Nat):Int)∧stAt H18 (.add (.add a23 (toNat at_16*2)) (toNat (andI .i64 (shrI .i64 v20 k17) 1)*1)) [.int .i64 (wrap .i64 ((-1:Int)-s11))] fun H24=>X10 [.int .i64 (wrap .i64 (s11+1))] H24) (∀J25:Kl,(∀H26,(∃a27,(some ⟨b8,0,none⟩)=some a27∧ ∃no28p no28l no28c,cell H26 (.add a27 0)=some (.slice no28p no28l no28c)∧ ∃a29,no28p=some a29∧0≤at_16∧at_16<(no28l:Int)∧0≤(andI .i64 (shrI .i64 v20 k17) 1)∧(andI .i64 (shrI .i64 v20 k17) 1)<((2:Nat):Int)∧ ∃at_30,cell H26 (.add (.add a29 (toNat at_16*2)) (toNat (andI .i64 (shrI .i64 v20 k17) 1)*1))=some (.int .i64 at_30)∧X15 [.int .i64 at_30,.int .i64 (wrap .i64 (k17-1))] H26)→J25 [] H26)→ ∃a31,(some ⟨b8,0,none⟩)=some a31∧ ∃no32p no32l no32c,cell H18 (.add a31 0)=some (.slice no32p no32l no32c)∧ ∃a33,no32p=some a33∧0≤at_16∧at_16<(no32l:Int)∧0≤(andI .i64 (shrI .i64 v20 k17) 1)∧(andI .i64 (shrI .i64 v20 k17) 1)<((2:Nat):Int)∧ ∃v34,cell H18 (.add (.add a33 (toNat at_16*2)) (toNat (andI .i64 (shrI .i64 v20 k17) 1)*1))=some (.int .i64 v34)∧br (v34==0) (∃a35,(some ⟨b8,0,none⟩)=some a35∧ ∃no36p no36l no36c,cell H18 (.add a35 0)=some (.slice no36p no36l no36c)∧#[Value.int .i64 0,Value.int .i64 0].size=2∧0+2≤2∧alc H18 (.cells (List.toArray (setL [.int .i64 0,.int .i64 0] 0 (Array.toList #[.int .i64 0,.int .i64 0]))) 189) fun b37 H38=>appQ 2 16 #[.int .i64 0,.int .i64 0] H38 no36p no36l no36c (some ⟨b37,0,none⟩) 1 189 fun ap39p ap39l ap39c H40=> ∃a41,(some ⟨b8,0,none⟩)=some a41∧stAt H40 (.add a41 0) [.slice ap39p ap39l ap39c] fun H42=> ∃a43,(some ⟨b8,0,none⟩)=some a43∧ ∃no44p no44l no44c,cell H42 (.add a43 0)=some (.slice no44p no44l no44c)∧ ∃a45,(some ⟨b8,0,none⟩)=some a45∧ ∃no46p no46l no46c,cell H42 (.add a45 0)=some (.slice no46p no46l no46c)∧ ∃a47,no44p=some a47∧0≤at_16∧at_16<(no44l:Int)∧0≤(andI .i64 (shrI .i64 v20 k17) 1)∧(andI .i64 (shrI .i64 v20 k17) 1)<((2:Nat):Int)∧stAt H42 (.add (.add a47 (toNat at_16*2)) (toNat (andI .i64 (shrI .i64 v20 k17) 1)*1)) [.int .i64 (wrap .i64 ((no46l:Int)-1))] fun H48=>J25 [] H48) (J25 [] H18))) (X10 [.int .i64 (wrap .i64 (s11+1))] H18))→X15 [.int .i64 at_16,.int .i64 k17] H18)→X15 [.int .i64 0,.int .i64 (wrap .i64 (n14-1))] H12) (R (.tuple #[.pointer (some ⟨b8,0,none⟩),.bool true]) H12))→X10 [.int .i64 s11] H12)→X10 [.int .i64 0] H9)
def Tryz.p99:Plan:=(tl (tl (tg (tl (two (tl (one (loop [(24,3)] [4,6,22,23] (tl (two (tl leaf) (two (one (tl (tl (tl (one (loop [(9,3),(10,3)] [4,6,7,22,23,24] (two (tl (tl leaf)) (two (one (tl (tg (two (join [] [4,6,7,9,10,11,22,23,24] g0) leaf)))) leaf)))))))) leaf)))))) (tl leaf))))))
theorem Tryz.s99{le1p:OA}{le1l le1c:Nat}{H R}(h:Tryz.S99 le1p le1l le1c H R):Tryz.C 99 #[.slice le1p le1l le1c] H R:=vcs Tryz.tab_ok Tryz.mixed Tryz.func99 Tryz.cal99 Tryz.p99 h (by kernel_rfl)
def Tryz.S100(r1:OA)(n2:Int)(H:Heap)(R:Kv):Prop:=
 ∀J3:Kl,(∀H4,(∀X5:Kl,(∀(v6 k7:Int) H8,(br (decide (k7<n2)) (∃a9,r1=some a9∧ ∃b10p b10l b10c,cell H8 (.add a9 0)=some (.slice b10p b10l b10c)∧ ∃a11,r1=some a11∧ ∃at_12,cell H8 (.add a11 1)=some (.int .i64 at_12)∧(8:Int)≠0∧ ∃a13,b10p=some a13∧0≤(wrap .i64 (Int.tdiv at_12 8))∧(wrap .i64 (Int.tdiv at_12 8))<(b10l:Int)∧ ∃v14,cell H8 (.add a13 (toNat (wrap .i64 (Int.tdiv at_12 8))*1))=some (.int .u8 v14)∧ ∃a15,r1=some a15∧ ∃at_16,cell H8 (.add a15 1)=some (.int .i64 at_16)∧ ∃a17,r1=some a17∧ ∃hi18,cell H8 (.add a17 2)=some (.bool hi18)∧Tryz.C 90 #[.int .i64 at_16,.bool hi18] H8 fun r19 H20=> ∃r21,r19= .int .i64 r21∧(Ext H8 H20∨(∃v31,cell H20 (.add a13 (toNat (wrap .i64 (Int.tdiv at_12 8))*1))=some (.int .u8 v31)∧Value.int .u8 v31= .int .u8 v14)∧(∃at_32,cell H20 (.add a11 1)=some (.int .i64 at_32)∧Value.int .i64 at_32= .int .i64 at_12)∧(∃b33p b33l b33c,cell H20 (.add a9 0)=some (.slice b33p b33l b33c)∧Value.slice b33p b33l b33c= .slice b10p b10l b10c))∧0≤r21∧ ∀J22:Kl,(∀(v23:Int) H24,(∃a25,r1=some a25∧ ∃at_26,cell H24 (.add a25 1)=some (.int .i64 at_26)∧ ∃a27,r1=some a27∧stAt H24 (.add a27 1) [.int .i64 (wrap .i64 (at_26+1))] fun H28=>X5 [.int .i64 v23,.int .i64 (wrap .i64 (k7+1))] H28)→J22 [.int .i64 v23] H24)→ ∃a29,r1=some a29∧ ∃hi30,cell H20 (.add a29 2)=some (.bool hi30)∧br hi30 (0≤(1:Int)∧J22 [.int .i64 (orI .i64 (shlI .i64 v6 1) (andI .i64 (wrap .i64 (shrI .u8 v14 r21)) 1))] H20) (0≤k7∧J22 [.int .i64 (orI .i64 v6 (shlI .i64 (andI .i64 (wrap .i64 (shrI .u8 v14 r21)) 1) k7))] H20)) (R (.tuple #[.int .i64 v6,.bool true]) H8))→X5 [.int .i64 v6,.int .i64 k7] H8)→X5 [.int .i64 0,.int .i64 0] H4)→J3 [] H4)→
 br (decide (n2<0)) (R (.tuple #[.int .i64 0,.bool false]) H) (br (decide (n2>24)) (R (.tuple #[.int .i64 0,.bool false]) H) (Tryz.C 38 #[.pointer r1] H fun r34 H35=> ∃r36,r34= .int .i64 r36∧br (decide (n2>r36)) (R (.tuple #[.int .i64 0,.bool false]) H35) (J3 [] H35)))
def Tryz.p100:Plan:=(tl (two (join [] [0,1] g0) (tl (two (tl (one (loop [(6,3),(22,3)] [0,21] (tl (two (tl leaf) (two (one (tl (tl (two (join [(6,3)] [0,21,22] (tl (tl leaf))) leaf)))) leaf)))))) (tl leaf)))))
theorem Tryz.s100{r1:OA}{n2:Int}{H R}(h:Tryz.S100 r1 n2 H R):Tryz.C 100 #[.pointer r1,.int .i64 n2] H R:=vcs Tryz.tab_ok Tryz.mixed Tryz.func100 Tryz.cal100 Tryz.p100 h (by kernel_rfl)
def Tryz.S101(d1:OA)(st2 bi3:Int)(H:Heap)(R:Kv):Prop:=
 ∀J4:Kl,(∀H5,(∃a6,d1=some a6∧ ∃no7p no7l no7c,cell H5 (.add a6 0)=some (.slice no7p no7l no7c)∧ ∃a8,no7p=some a8∧0≤st2∧st2<(no7l:Int)∧0≤(andI .i64 bi3 1)∧(andI .i64 bi3 1)<((2:Nat):Int)∧ ∃n9,cell H5 (.add (.add a8 (toNat st2*2)) (toNat (andI .i64 bi3 1)*1))=some (.int .i64 n9)∧br (decide (n9>0)) (R (.tuple #[.int .i64 n9,.int .i64 (-1:Int)]) H5) (br (decide (n9<0)) (R (.tuple #[.int .i64 0,.int .i64 (wrap .i64 ((-1:Int)-n9))]) H5) (R (.tuple #[.int .i64 (-1:Int),.int .i64 (-1:Int)]) H5)))→J4 [] H5)→
 br (decide (st2<0)) (R (.tuple #[.int .i64 (-1:Int),.int .i64 (-1:Int)]) H) (∃a10,d1=some a10∧ ∃no11p no11l no11c,cell H (.add a10 0)=some (.slice no11p no11l no11c)∧br (decide (st2≥(no11l:Int))) (R (.tuple #[.int .i64 (-1:Int),.int .i64 (-1:Int)]) H) (J4 [] H))
def Tryz.p101:Plan:=(tl (two (join [] [0,1,2] g0) (two (tl (one (tl (two (tl leaf) g0)))) (tl leaf))))
theorem Tryz.s101{d1:OA}{st2 bi3:Int}{H R}(h:Tryz.S101 d1 st2 bi3 H R):Tryz.C 101 #[.pointer d1,.int .i64 st2,.int .i64 bi3] H R:=vcs Tryz.tab_ok Tryz.mixed Tryz.func101 Tryz.cal101 Tryz.p101 h (by kernel_rfl)
def Tryz.S102(n1:Int)(H:Heap)(R:Kv):Prop:=
 R (.int .i64 (min 255 (max 0 n1))) H
def Tryz.p102:Plan:=(tl (tl leaf))
theorem Tryz.s102{n1:Int}{H R}(h:Tryz.S102 n1 H R):Tryz.C 102 #[.int .i64 n1] H R:=vcs Tryz.tab_ok Tryz.mixed Tryz.func102 Tryz.cal102 Tryz.p102 h (by kernel_rfl)
def Tryz.S103(u1:Int)(H:Heap)(R:Kv):Prop:=
 alc H (.cells #[.int .i64 0,.int .i64 0,.int .i64 0,.int .i64 0,.int .i64 0,.int .i64 0,.int .i64 0,.int .i64 0] 148) fun b2 H3=> ∀X4:Kl,(∀(x5:Int) H6,(br (decide (x5<8)) (br (u1==0) (0≤x5∧x5<((8:Nat):Int)∧stAt H6 (.add ⟨b2,0,none⟩ (toNat x5*1)) [.int .i64 2896] fun H7=>X4 [.int .i64 (wrap .i64 (x5+1))] H7) (Tryz.C 112 #[.int .i64 (wrap .i64 ((wrap .i64 ((wrap .i64 ((2:Int)*x5))+1))*u1))] H6 fun r8 H9=> ∃r10,r8= .int .i64 r10∧0≤x5∧x5<((8:Nat):Int)∧stAt H9 (.add ⟨b2,0,none⟩ (toNat x5*1)) [.int .i64 r10] fun H11=>X4 [.int .i64 (wrap .i64 (x5+1))] H11)) (∃v12,v12.size=8∧rowIn H6 ⟨b2,0,none⟩ v12∧v12.size=8∧stAt H6 ⟨b2,0,none⟩ v12.toList fun H13=> ∃re14,re14.size=8∧rowIn H13 ⟨b2,0,none⟩ re14∧R (.agg re14) H13))→X4 [.int .i64 x5] H6)→X4 [.int .i64 0] H3
def Tryz.p103:Plan:=(tl (two (tl (one (loop [(4,3)] [0,2] (tl (two (tl leaf) (two (one (tl (tl (tl leaf)))) leaf)))))) (tl leaf)))
theorem Tryz.s103{u1:Int}{H R}(h:Tryz.S103 u1 H R):Tryz.C 103 #[.int .i64 u1] H R:=vcs Tryz.tab_ok Tryz.mixed Tryz.func103 Tryz.cal103 Tryz.p103 h (by kernel_rfl)
def Tryz.S104(x1 y2:Int)(H:Heap)(R:Kv):Prop:=
 Tryz.C 114 #[.int .u64 x1,.int .u64 y2] H fun r3 H4=> ∃r5 r6,r3= .tuple #[.int .u64 r5,.int .u64 r6]∧R (.tuple #[.int .u64 r5,.int .u64 r6]) H4
def Tryz.p104:Plan:=(tl (two (two (tl (tl leaf)) leaf) (tl (tl leaf))))
theorem Tryz.s104{x1 y2:Int}{H R}(h:Tryz.S104 x1 y2 H R):Tryz.C 104 #[.int .u64 x1,.int .u64 y2] H R:=vcs Tryz.tab_ok Tryz.mixed Tryz.func104 Tryz.cal104 Tryz.p104 h (by kernel_rfl)
def Tryz.S106(x1:Int)(H:Heap)(R:Kv):Prop:=
 ∀J2:Kl,(∀(x3 n4:Int) H5,(∀J6:Kl,(∀(x7 n8:Int) H9,(∀J10:Kl,(∀(x11 n12:Int) H13,(∃b14:UInt8,0≤(wrap .u8 x11)∧(ByteArray.mk #[0,1,2,2,3,3,3,3,4,4,4,4,4,4,4,4,5,5,5,5,5,5,5,5,5,5,5,5,5,5,5,5,6,6,6,6,6,6,6,6,6,6,6,6,6,6,6,6,6,6,6,6,6,6,6,6,6,6,6,6,6,6,6,6,7,7,7,7,7,7,7,7,7,7,7,7,7,7,7,7,7,7,7,7,7,7,7,7,7,7,7,7,7,7,7,7,7,7,7,7,7,7,7,7,7,7,7,7,7,7,7,7,7,7,7,7,7,7,7,7,7,7,7,7,7,7,7,7,8,8,8,8,8,8,8,8,8,8,8,8,8,8,8,8,8,8,8,8,8,8,8,8,8,8,8,8,8,8,8,8,8,8,8,8,8,8,8,8,8,8,8,8,8,8,8,8,8,8,8,8,8,8,8,8,8,8,8,8,8,8,8,8,8,8,8,8,8,8,8,8,8,8,8,8,8,8,8,8,8,8,8,8,8,8,8,8,8,8,8,8,8,8,8,8,8,8,8,8,8,8,8,8,8,8,8,8,8,8,8,8,8,8,8,8,8,8,8,8,8,8,8,8,8,8,8,8])[toNat (wrap .u8 x11)]?=some b14∧R (.int .i64 (wrap .i64 (n12+(wrap .i64 ((UInt8.toNat b14:Nat):Int))))) H13)→J10 [.int .u64 x11,.int .i64 n12] H13)→br (decide (x7≥256)) (0≤(8:Int)∧J10 [.int .u64 (shrI .u64 x7 8),.int .i64 (wrap .i64 (n8+8))] H9) (J10 [.int .u64 x7,.int .i64 n8] H9))→J6 [.int .u64 x7,.int .i64 n8] H9)→br (decide (x3≥65536)) (0≤(16:Int)∧J6 [.int .u64 (shrI .u64 x3 16),.int .i64 (wrap .i64 (n4+16))] H5) (J6 [.int .u64 x3,.int .i64 n4] H5))→J2 [.int .u64 x3,.int .i64 n4] H5)→
 br (decide (x1≥4294967296))
 (0≤(32:Int)∧J2 [.int .u64 (shrI .u64 x1 32),.int .i64 32] H)
 (J2 [.int .u64 x1,.int .i64 0] H)
def Tryz.p106:Plan:=(tl (two (join [(0,181),(2,3)] [] g0) (two (join [(0,181),(2,3)] [] g0) (two (join [(0,181),(2,3)] [] g0) (tl leaf)))))
theorem Tryz.s106{x1:Int}{H R}(h:Tryz.S106 x1 H R):Tryz.C 106 #[.int .u64 x1] H R:=vcs Tryz.tab_ok Tryz.mixed Tryz.func106 Tryz.cal106 Tryz.p106 h (by kernel_rfl)
def Tryz.S107(da1p:OA)(da1l da1c:Nat)(n2:Int)(cm3g:Nat)(cm3x cm3y:AV)(H:Heap)(R:Kv):Prop:=
 ∀X4:Kl,(∀(a5 b6:Int) H7,(br (decide (b6≤n2)) (Tryz.C 115 #[.slice da1p da1l da1c,.int .i64 a5,.int .i64 b6,.func (.func cm3g) cm3x cm3y] H7 fun r8 H9=>r8= .tuple #[]∧X4 [.int .i64 b6,.int .i64 (wrap .i64 (b6+20))] H9) (Tryz.C 115 #[.slice da1p da1l da1c,.int .i64 a5,.int .i64 n2,.func (.func cm3g) cm3x cm3y] H7 fun r10 H11=>r10= .tuple #[]∧ ∀X12:Kl,(∀(bl13:Int) H14,(br (decide (bl13<n2)) (∀X15:Kl,(∀(a16 b17:Int) H18,(br (decide (b17≤n2)) (Tryz.C 116 #[.slice da1p da1l da1c,.int .i64 a16,.int .i64 (wrap .i64 (a16+bl13)),.int .i64 b17,.func (.func cm3g) cm3x cm3y] H18 fun r19 H20=>r19= .tuple #[]∧X15 [.int .i64 b17,.int .i64 (wrap .i64 (b17+(wrap .i64 ((2:Int)*bl13))))] H20) (br (decide (((wrap .i64 (a16+bl13)):Int)<n2)) (Tryz.C 116 #[.slice da1p da1l da1c,.int .i64 a16,.int .i64 (wrap .i64 (a16+bl13)),.int .i64 n2,.func (.func cm3g) cm3x cm3y] H18 fun r21 H22=>r21= .tuple #[]∧X12 [.int .i64 (wrap .i64 (bl13*2))] H22) (X12 [.int .i64 (wrap .i64 (bl13*2))] H18)))→X15 [.int .i64 a16,.int .i64 b17] H18)→X15 [.int .i64 0,.int .i64 (wrap .i64 ((2:Int)*bl13))] H14) (R (.tuple #[]) H14))→X12 [.int .i64 bl13] H14)→X12 [.int .i64 20] H11))→X4 [.int .i64 a5,.int .i64 b6] H7)→X4 [.int .i64 0,.int .i64 20] H
def Tryz.p107:Plan:=(tl (tl (two (one (loop [(7,3),(8,3)] [0,1,2,6] (two (tl (tl leaf)) (one (tl (tl leaf)))))) (tl (one (loop [(6,3)] [0,1,2] (two (tl (tl leaf)) (one (tl (two (one (loop [(7,3),(8,3)] [0,1,2,6] (two (tl (tl leaf)) (one (tl (tl leaf)))))) (two (tl (tl (tl leaf))) leaf)))))))))))
theorem Tryz.s107{da1p:OA}{da1l da1c:Nat}{n2:Int}{cm3g:Nat}{cm3x cm3y:AV}{H R}(h:Tryz.S107 da1p da1l da1c n2 cm3g cm3x cm3y H R):Tryz.C 107 #[.slice da1p da1l da1c,.int .i64 n2,.func (.func cm3g) cm3x cm3y] H R:=vcs Tryz.tab_ok Tryz.mixed Tryz.func107 Tryz.cal107 Tryz.p107 h (by kernel_rfl)
def Tryz.S108(sl1p:OA)(sl1l sl1c:Nat)(H:Heap)(R:Kv):Prop:=
 ∀X2:Kl,(∀(si3 t4:Int) H5,(br (decide (t4<(sl1l:Int))) (∃a6,sl1p=some a6∧0≤t4∧t4<(sl1l:Int)∧ ∃s7p s7l s7c,cell H5 (.add a6 (toNat t4*1))=some (.slice s7p s7l s7c)∧br (decide (((wrap .i64 (si3+(s7l:Int))):Int)<0)) (False) (X2 [.int .i64 (wrap .i64 (si3+(s7l:Int))),.int .i64 (wrap .i64 (t4+1))] H5)) (Tryz.C 117 #[.slice none 0 0,.int .i64 si3] H5 fun r8 H9=> ∃ne10p ne10l ne10c,r8= .slice ne10p ne10l ne10c∧ ∀X11:Kl,(∀(ne12p:OA) (ne12l ne12c:Nat) (t13:Int) H14,(br (decide (t13<(sl1l:Int))) (∃a15,sl1p=some a15∧0≤t13∧t13<(sl1l:Int)∧ ∃s16p s16l s16c,cell H14 (.add a15 (toNat t13*1))=some (.slice s16p s16l s16c)∧appQ 2 32 #[.int .i64 0,.slice none 0 0] H14 ne12p ne12l ne12c s16p s16l 158 fun ne17p ne17l ne17c H18=>X11 [.slice ne17p ne17l ne17c,.int .i64 (wrap .i64 (t13+1))] H18) (R (.slice ne12p ne12l ne12c) H14))→X11 [.slice ne12p ne12l ne12c,.int .i64 t13] H14)→X11 [.slice ne10p ne10l ne10c,.int .i64 0] H9))→X2 [.int .i64 si3,.int .i64 t4] H5)→X2 [.int .i64 0,.int .i64 0] H
def Tryz.p108:Plan:=(tl (tl (two (tl (one (loop [(3,3),(11,3)] [0,9,10] (tl (two (tl leaf) (two (one (tl (tl (tl (tl leaf))))) leaf)))))) (tl (two (tl (one (loop [(6,156),(27,3)] [25,26] (tl (two (tl leaf) (two (one (tl leaf)) leaf)))))) (tl leaf))))))
theorem Tryz.s108{sl1p:OA}{sl1l sl1c:Nat}{H R}(h:Tryz.S108 sl1p sl1l sl1c H R):Tryz.C 108 #[.slice sl1p sl1l sl1c] H R:=vcs Tryz.tab_ok Tryz.mixed Tryz.func108 Tryz.cal108 Tryz.p108 h (by kernel_rfl)
def Tryz.S109(x1 y2:AV)(H:Heap)(R:Kv):Prop:=
 alc H (.cells x1 158) fun b3 H4=>alc H4 (.cells y2 158) fun b5 H6=> ∃co7,cell H6 (.add ⟨b3,0,none⟩ 0)=some (.int .i64 co7)∧ ∃co8,cell H6 (.add ⟨b5,0,none⟩ 0)=some (.int .i64 co8)∧R (.int .i64 (wrap .i64 (co7-co8))) H6
def Tryz.p109:Plan:=(tl (tl leaf))
theorem Tryz.s109{x1 y2:AV}{H R}(h:Tryz.S109 x1 y2 H R):Tryz.C 109 #[.agg x1,.agg y2] H R:=vcs Tryz.tab_ok Tryz.mixed Tryz.func109 Tryz.cal109 Tryz.p109 h (by kernel_rfl)
def Tryz.S110(sl1p:OA)(sl1l sl1c:Nat)(H:Heap)(R:Kv):Prop:=
 ∀X2:Kl,(∀(si3 t4:Int) H5,(br (decide (t4<(sl1l:Int))) (∃a6,sl1p=some a6∧0≤t4∧t4<(sl1l:Int)∧ ∃s7p s7l s7c,cell H5 (.add a6 (toNat t4*1))=some (.slice s7p s7l s7c)∧br (decide (((wrap .i64 (si3+(s7l:Int))):Int)<0)) (False) (X2 [.int .i64 (wrap .i64 (si3+(s7l:Int))),.int .i64 (wrap .i64 (t4+1))] H5)) (Tryz.C 118 #[.slice none 0 0,.int .i64 si3] H5 fun r8 H9=> ∃ne10p ne10l ne10c,r8= .slice ne10p ne10l ne10c∧ ∀X11:Kl,(∀(ne12p:OA) (ne12l ne12c:Nat) (t13:Int) H14,(br (decide (t13<(sl1l:Int))) (∃a15,sl1p=some a15∧0≤t13∧t13<(sl1l:Int)∧ ∃s16p s16l s16c,cell H14 (.add a15 (toNat t13*1))=some (.slice s16p s16l s16c)∧appQ 1 8 #[.int .i64 0] H14 ne12p ne12l ne12c s16p s16l 3 fun ne17p ne17l ne17c H18=>X11 [.slice ne17p ne17l ne17c,.int .i64 (wrap .i64 (t13+1))] H18) (R (.slice ne12p ne12l ne12c) H14))→X11 [.slice ne12p ne12l ne12c,.int .i64 t13] H14)→X11 [.slice ne10p ne10l ne10c,.int .i64 0] H9))→X2 [.int .i64 si3,.int .i64 t4] H5)→X2 [.int .i64 0,.int .i64 0] H
def Tryz.p110:Plan:=(tl (tl (two (tl (one (loop [(3,3),(11,3)] [0,9,10] (tl (two (tl leaf) (two (one (tl (tl (tl (tl leaf))))) leaf)))))) (tl (two (tl (one (loop [(6,55),(27,3)] [25,26] (tl (two (tl leaf) (two (one (tl leaf)) leaf)))))) (tl leaf))))))
theorem Tryz.s110{sl1p:OA}{sl1l sl1c:Nat}{H R}(h:Tryz.S110 sl1p sl1l sl1c H R):Tryz.C 110 #[.slice sl1p sl1l sl1c] H R:=vcs Tryz.tab_ok Tryz.mixed Tryz.func110 Tryz.cal110 Tryz.p110 h (by kernel_rfl)
def Tryz.S111(l1p:OA)(l1l l1c:Nat)(H:Heap)(R:Kv):Prop:=
 br (decide (((l1l:Int):Int)>300))
 (R (.tuple #[.int .i64 0,.bool false]) H)
 (∀X2:Kl,(∀(su3 i4:Int) H5,(br (decide (i4<(l1l:Int))) (∀J6:Kl,(∀H7,(∃a8,l1p=some a8∧0≤i4∧i4<(l1l:Int)∧ ∃v9,cell H7 (.add a8 (toNat i4*1))=some (.int .i64 v9)∧br (decide (v9>0)) (∃a10,l1p=some a10∧0≤i4∧i4<(l1l:Int)∧ ∃v11,cell H7 (.add a10 (toNat i4*1))=some (.int .i64 v11)∧0≤v11∧X2 [.int .i64 (wrap .i64 (su3+(shrI .i64 65536 v11))),.int .i64 (wrap .i64 (i4+1))] H7) (X2 [.int .i64 su3,.int .i64 (wrap .i64 (i4+1))] H7))→J6 [] H7)→ ∃a12,l1p=some a12∧0≤i4∧i4<(l1l:Int)∧ ∃v13,cell H5 (.add a12 (toNat i4*1))=some (.int .i64 v13)∧br (decide (v13<0)) (R (.tuple #[.int .i64 0,.bool false]) H5) (∃a14,l1p=some a14∧0≤i4∧i4<(l1l:Int)∧ ∃v15,cell H5 (.add a14 (toNat i4*1))=some (.int .i64 v15)∧br (decide (v15>16)) (R (.tuple #[.int .i64 0,.bool false]) H5) (J6 [] H5))) (R (.tuple #[.int .i64 su3,.bool true]) H5))→X2 [.int .i64 su3,.int .i64 i4] H5)→X2 [.int .i64 0,.int .i64 0] H)
def Tryz.p111:Plan:=(tl (tg (tl (two (tl (one (loop [(4,3),(5,3)] [0] (two (tl (tl leaf)) (two (one (two (join [] [0,4,5] g0) (tl (tl leaf)))) leaf))))) (tl leaf)))))
theorem Tryz.s111{l1p:OA}{l1l l1c:Nat}{H R}(h:Tryz.S111 l1p l1l l1c H R):Tryz.C 111 #[.slice l1p l1l l1c] H R:=vcs Tryz.tab_ok Tryz.mixed Tryz.func111 Tryz.cal111 Tryz.p111 h (by kernel_rfl)
def Tryz.S112(k1:Int)(H:Heap)(R:Kv):Prop:=
 (32:Int)≠0∧br (decide (((Int.tmod k1 32):Int)>16))
 (Tryz.C 112 #[.int .i64 (wrap .i64 ((32:Int)-(Int.tmod k1 32)))] H fun r2 H3=> ∃r4,r2= .int .i64 r4∧R (.int .i64 r4) H3)
 (br (decide (((Int.tmod k1 32):Int)>8)) (Tryz.C 112 #[.int .i64 (wrap .i64 ((16:Int)-(Int.tmod k1 32)))] H fun r5 H6=> ∃r7,r5= .int .i64 r7∧R (.int .i64 (wrap .i64 (0-r7))) H6) (0≤(Int.tmod k1 32)∧(Int.tmod k1 32)<((9:Nat):Int)∧ ∃v8,#[Value.int .i64 4096,Value.int .i64 4017,Value.int .i64 3784,Value.int .i64 3406,Value.int .i64 2896,Value.int .i64 2276,Value.int .i64 1567,Value.int .i64 799,Value.int .i64 0][(toNat (Int.tmod k1 32)*1)]?=some (.int .i64 v8)∧R (.int .i64 v8) H))
def Tryz.p112:Plan:=(tl (tl (two (one (tl (two (tl leaf) g0))) (tl leaf))))
theorem Tryz.s112{k1:Int}{H R}(h:Tryz.S112 k1 H R):Tryz.C 112 #[.int .i64 k1] H R:=vcs Tryz.tab_ok Tryz.mixed Tryz.func112 Tryz.cal112 Tryz.p112 h (by kernel_rfl)
def Tryz.S114(x1 y2:Int)(H:Heap)(R:Kv):Prop:=
 0≤(32:Int)∧0≤(32:Int)∧0≤(32:Int)∧0≤(32:Int)∧0≤(32:Int)∧R (.tuple #[.int .u64 (wrap .u64 ((wrap .u64 ((wrap .u64 ((shrI .u64 x1 32)*(shrI .u64 y2 32)))+(shrI .u64 (wrap .u64 ((wrap .u64 ((shrI .u64 x1 32)*(andI .u64 y2 4294967295)))+(shrI .u64 (wrap .u64 ((andI .u64 x1 4294967295)*(andI .u64 y2 4294967295))) 32))) 32)))+(shrI .u64 (wrap .u64 ((andI .u64 (wrap .u64 ((wrap .u64 ((shrI .u64 x1 32)*(andI .u64 y2 4294967295)))+(shrI .u64 (wrap .u64 ((andI .u64 x1 4294967295)*(andI .u64 y2 4294967295))) 32))) 4294967295)+(wrap .u64 ((andI .u64 x1 4294967295)*(shrI .u64 y2 32))))) 32))),.int .u64 (wrap .u64 (x1*y2))]) H
def Tryz.p114:Plan:=(tl (tl (tl (tl (tl (tl (tl (tl (tl (tl (tl (tl leaf))))))))))))
theorem Tryz.s114{x1 y2:Int}{H R}(h:Tryz.S114 x1 y2 H R):Tryz.C 114 #[.int .u64 x1,.int .u64 y2] H R:=vcs Tryz.tab_ok Tryz.mixed Tryz.func114 Tryz.cal114 Tryz.p114 h (by kernel_rfl)
end Go.Proofs
namespace Go.Proofs
open Go.Sh Go.Sh.Plan
open Go.IntKind (wrap)
open Int (toNat)
def Tryz.S115(da1p:OA)(da1l da1c:Nat)(a2 b3:Int)(cm4g:Nat)(cm4x cm4y:AV)(H:Heap)(R:Kv):Prop:=
 ∀X5:Kl,(∀(i6:Int) H7,(br (decide (i6<b3)) (∀X8:Kl,(∀(j9:Int) H10,(∀J11:Kl,(∀H12,(∃a13,da1p=some a13∧0≤(wrap .i64 (j9-1))∧(wrap .i64 (j9-1))<(da1l:Int)∧ ∃v14,v14.size=2∧rowIn H12 (.add a13 (toNat (wrap .i64 (j9-1))*2)) v14∧ ∃a15,da1p=some a15∧0≤j9∧j9<(da1l:Int)∧ ∃v16,v16.size=2∧rowIn H12 (.add a15 (toNat j9*2)) v16∧ ∃a17,da1p=some a17∧0≤j9∧j9<(da1l:Int)∧v14.size=2∧stAt H12 (.add a17 (toNat j9*2)) v14.toList fun H18=> ∃a19,da1p=some a19∧0≤(wrap .i64 (j9-1))∧(wrap .i64 (j9-1))<(da1l:Int)∧v16.size=2∧stAt H18 (.add a19 (toNat (wrap .i64 (j9-1))*2)) v16.toList fun H20=>X8 [.int .i64 (wrap .i64 (j9-1))] H20)→J11 [] H12)→br (decide (j9>a2)) (∃a21,da1p=some a21∧0≤j9∧j9<(da1l:Int)∧ ∃v22,v22.size=2∧rowIn H10 (.add a21 (toNat j9*2)) v22∧ ∃a23,da1p=some a23∧0≤(wrap .i64 (j9-1))∧(wrap .i64 (j9-1))<(da1l:Int)∧ ∃v24,v24.size=2∧rowIn H10 (.add a23 (toNat (wrap .i64 (j9-1))*2)) v24∧Tryz.C cm4g (List.toArray (Array.toList cm4x++[Value.agg v22,Value.agg v24]++Array.toList cm4y)) H10 fun r25 H26=> ∃r27,r25= .int .i64 r27∧br (decide (r27<0)) (J11 [] H26) (X5 [.int .i64 (wrap .i64 (i6+1))] H26)) (X5 [.int .i64 (wrap .i64 (i6+1))] H10))→X8 [.int .i64 j9] H10)→X8 [.int .i64 i6] H7) (R (.tuple #[]) H7))→X5 [.int .i64 i6] H7)→X5 [.int .i64 (wrap .i64 (a2+1))] H
def Tryz.p115:Plan:=(tl (one (loop [(8,3)] [0,1,2,3] (two (tl (tl leaf)) (two (one (tl (one (loop [(9,3)] [0,1,2,3,8] (two (join [] [0,1,2,3,8,9] (tl (tl leaf))) (two (one leaf) leaf)))))) leaf)))))
theorem Tryz.s115{da1p:OA}{da1l da1c:Nat}{a2 b3:Int}{cm4g:Nat}{cm4x cm4y:AV}{H R}(h:Tryz.S115 da1p da1l da1c a2 b3 cm4g cm4x cm4y H R):Tryz.C 115 #[.slice da1p da1l da1c,.int .i64 a2,.int .i64 b3,.func (.func cm4g) cm4x cm4y] H R:=vcs Tryz.tab_ok Tryz.mixed Tryz.func115 Tryz.cal115 Tryz.p115 h (by kernel_rfl)
def Tryz.S116(da1p:OA)(da1l da1c:Nat)(a2 m3 b4:Int)(cm5g:Nat)(cm5x cm5y:AV)(H:Heap)(R:Kv):Prop:=
 br (((wrap .i64 (m3-a2)):Int)==1)
 (∀X6:Kl,(∀(i7 j8:Int) H9,(br (decide (i7<j8)) (0≤(1:Int)∧ ∃a10,da1p=some a10∧0≤(wrap .i64 (shrI .u64 (wrap .u64 (wrap .i64 (i7+j8))) 1))∧(wrap .i64 (shrI .u64 (wrap .u64 (wrap .i64 (i7+j8))) 1))<(da1l:Int)∧ ∃v11,v11.size=2∧rowIn H9 (.add a10 (toNat (wrap .i64 (shrI .u64 (wrap .u64 (wrap .i64 (i7+j8))) 1))*2)) v11∧ ∃a12,da1p=some a12∧0≤a2∧a2<(da1l:Int)∧ ∃v13,v13.size=2∧rowIn H9 (.add a12 (toNat a2*2)) v13∧Tryz.C cm5g (List.toArray (Array.toList cm5x++[Value.agg v11,Value.agg v13]++Array.toList cm5y)) H9 fun r14 H15=> ∃r16,r14= .int .i64 r16∧br (decide (r16<0)) (X6 [.int .i64 (wrap .i64 ((wrap .i64 (shrI .u64 (wrap .u64 (wrap .i64 (i7+j8))) 1))+1)),.int .i64 j8] H15) (X6 [.int .i64 i7,.int .i64 (wrap .i64 (shrI .u64 (wrap .u64 (wrap .i64 (i7+j8))) 1))] H15)) (∀X17:Kl,(∀(k18:Int) H19,(br (decide (k18<(wrap .i64 (i7-1)))) (∃a20,da1p=some a20∧0≤(wrap .i64 (k18+1))∧(wrap .i64 (k18+1))<(da1l:Int)∧ ∃v21,v21.size=2∧rowIn H19 (.add a20 (toNat (wrap .i64 (k18+1))*2)) v21∧ ∃a22,da1p=some a22∧0≤k18∧k18<(da1l:Int)∧ ∃v23,v23.size=2∧rowIn H19 (.add a22 (toNat k18*2)) v23∧ ∃a24,da1p=some a24∧0≤k18∧k18<(da1l:Int)∧v21.size=2∧stAt H19 (.add a24 (toNat k18*2)) v21.toList fun H25=> ∃a26,da1p=some a26∧0≤(wrap .i64 (k18+1))∧(wrap .i64 (k18+1))<(da1l:Int)∧v23.size=2∧stAt H25 (.add a26 (toNat (wrap .i64 (k18+1))*2)) v23.toList fun H27=>X17 [.int .i64 (wrap .i64 (k18+1))] H27) (R (.tuple #[]) H19))→X17 [.int .i64 k18] H19)→X17 [.int .i64 a2] H9))→X6 [.int .i64 i7,.int .i64 j8] H9)→X6 [.int .i64 m3,.int .i64 b4] H)
 (br (((wrap .i64 (b4-m3)):Int)==1) (∀X28:Kl,(∀(i29 j30:Int) H31,(br (decide (i29<j30)) (0≤(1:Int)∧ ∃a32,da1p=some a32∧0≤m3∧m3<(da1l:Int)∧ ∃v33,v33.size=2∧rowIn H31 (.add a32 (toNat m3*2)) v33∧ ∃a34,da1p=some a34∧0≤(wrap .i64 (shrI .u64 (wrap .u64 (wrap .i64 (i29+j30))) 1))∧(wrap .i64 (shrI .u64 (wrap .u64 (wrap .i64 (i29+j30))) 1))<(da1l:Int)∧ ∃v35,v35.size=2∧rowIn H31 (.add a34 (toNat (wrap .i64 (shrI .u64 (wrap .u64 (wrap .i64 (i29+j30))) 1))*2)) v35∧Tryz.C cm5g (List.toArray (Array.toList cm5x++[Value.agg v33,Value.agg v35]++Array.toList cm5y)) H31 fun r36 H37=> ∃r38,r36= .int .i64 r38∧br (!(decide (r38<0))) (X28 [.int .i64 (wrap .i64 ((wrap .i64 (shrI .u64 (wrap .u64 (wrap .i64 (i29+j30))) 1))+1)),.int .i64 j30] H37) (X28 [.int .i64 i29,.int .i64 (wrap .i64 (shrI .u64 (wrap .u64 (wrap .i64 (i29+j30))) 1))] H37)) (∀X39:Kl,(∀(k40:Int) H41,(br (decide (k40>i29)) (∃a42,da1p=some a42∧0≤(wrap .i64 (k40-1))∧(wrap .i64 (k40-1))<(da1l:Int)∧ ∃v43,v43.size=2∧rowIn H41 (.add a42 (toNat (wrap .i64 (k40-1))*2)) v43∧ ∃a44,da1p=some a44∧0≤k40∧k40<(da1l:Int)∧ ∃v45,v45.size=2∧rowIn H41 (.add a44 (toNat k40*2)) v45∧ ∃a46,da1p=some a46∧0≤k40∧k40<(da1l:Int)∧v43.size=2∧stAt H41 (.add a46 (toNat k40*2)) v43.toList fun H47=> ∃a48,da1p=some a48∧0≤(wrap .i64 (k40-1))∧(wrap .i64 (k40-1))<(da1l:Int)∧v45.size=2∧stAt H47 (.add a48 (toNat (wrap .i64 (k40-1))*2)) v45.toList fun H49=>X39 [.int .i64 (wrap .i64 (k40-1))] H49) (R (.tuple #[]) H41))→X39 [.int .i64 k40] H41)→X39 [.int .i64 m3] H31))→X28 [.int .i64 i29,.int .i64 j30] H31)→X28 [.int .i64 a2,.int .i64 m3] H) (0≤(1:Int)∧ ∀J50:Kl,(∀(st51 r52:Int) H53,(∀X54:Kl,(∀(st55 r56:Int) H57,(br (decide (st55<r56)) (0≤(1:Int)∧ ∃a58,da1p=some a58∧0≤(wrap .i64 ((wrap .i64 ((wrap .i64 ((wrap .i64 (shrI .u64 (wrap .u64 (wrap .i64 (a2+b4))) 1))+m3))-1))-(wrap .i64 (shrI .u64 (wrap .u64 (wrap .i64 (st55+r56))) 1))))∧(wrap .i64 ((wrap .i64 ((wrap .i64 ((wrap .i64 (shrI .u64 (wrap .u64 (wrap .i64 (a2+b4))) 1))+m3))-1))-(wrap .i64 (shrI .u64 (wrap .u64 (wrap .i64 (st55+r56))) 1))))<(da1l:Int)∧ ∃v59,v59.size=2∧rowIn H57 (.add a58 (toNat (wrap .i64 ((wrap .i64 ((wrap .i64 ((wrap .i64 (shrI .u64 (wrap .u64 (wrap .i64 (a2+b4))) 1))+m3))-1))-(wrap .i64 (shrI .u64 (wrap .u64 (wrap .i64 (st55+r56))) 1))))*2)) v59∧ ∃a60,da1p=some a60∧0≤(wrap .i64 (shrI .u64 (wrap .u64 (wrap .i64 (st55+r56))) 1))∧(wrap .i64 (shrI .u64 (wrap .u64 (wrap .i64 (st55+r56))) 1))<(da1l:Int)∧ ∃v61,v61.size=2∧rowIn H57 (.add a60 (toNat (wrap .i64 (shrI .u64 (wrap .u64 (wrap .i64 (st55+r56))) 1))*2)) v61∧Tryz.C cm5g (List.toArray (Array.toList cm5x++[Value.agg v59,Value.agg v61]++Array.toList cm5y)) H57 fun r62 H63=> ∃r64,r62= .int .i64 r64∧br (!(decide (r64<0))) (X54 [.int .i64 (wrap .i64 ((wrap .i64 (shrI .u64 (wrap .u64 (wrap .i64 (st55+r56))) 1))+1)),.int .i64 r56] H63) (X54 [.int .i64 st55,.int .i64 (wrap .i64 (shrI .u64 (wrap .u64 (wrap .i64 (st55+r56))) 1))] H63)) (∀J65:Kl,(∀H66,(∀J67:Kl,(∀H68,(br (decide (((wrap .i64 (shrI .u64 (wrap .u64 (wrap .i64 (a2+b4))) 1)):Int)<(wrap .i64 ((wrap .i64 ((wrap .i64 (shrI .u64 (wrap .u64 (wrap .i64 (a2+b4))) 1))+m3))-st55)))) (br (decide (((wrap .i64 ((wrap .i64 ((wrap .i64 (shrI .u64 (wrap .u64 (wrap .i64 (a2+b4))) 1))+m3))-st55)):Int)<b4)) (Tryz.C 116 #[.slice da1p da1l da1c,.int .i64 (wrap .i64 (shrI .u64 (wrap .u64 (wrap .i64 (a2+b4))) 1)),.int .i64 (wrap .i64 ((wrap .i64 ((wrap .i64 (shrI .u64 (wrap .u64 (wrap .i64 (a2+b4))) 1))+m3))-st55)),.int .i64 b4,.func (.func cm5g) cm5x cm5y] H68 fun r69 H70=>r69= .tuple #[]∧R (.tuple #[]) H70) (R (.tuple #[]) H68)) (R (.tuple #[]) H68))→J67 [] H68)→br (decide (a2<st55)) (br (decide (st55<(wrap .i64 (shrI .u64 (wrap .u64 (wrap .i64 (a2+b4))) 1)))) (Tryz.C 116 #[.slice da1p da1l da1c,.int .i64 a2,.int .i64 st55,.int .i64 (wrap .i64 (shrI .u64 (wrap .u64 (wrap .i64 (a2+b4))) 1)),.func (.func cm5g) cm5x cm5y] H66 fun r71 H72=>r71= .tuple #[]∧J67 [] H72) (J67 [] H66)) (J67 [] H66))→J65 [] H66)→br (decide (st55<m3)) (br (decide (m3<(wrap .i64 ((wrap .i64 ((wrap .i64 (shrI .u64 (wrap .u64 (wrap .i64 (a2+b4))) 1))+m3))-st55)))) (Tryz.C 119 #[.slice da1p da1l da1c,.int .i64 st55,.int .i64 m3,.int .i64 (wrap .i64 ((wrap .i64 ((wrap .i64 (shrI .u64 (wrap .u64 (wrap .i64 (a2+b4))) 1))+m3))-st55)),.func (.func cm5g) cm5x cm5y] H57 fun r73 H74=>r73= .tuple #[]∧J65 [] H74) (J65 [] H57)) (J65 [] H57)))→X54 [.int .i64 st55,.int .i64 r56] H57)→X54 [.int .i64 st51,.int .i64 r52] H53)→J50 [.int .i64 st51,.int .i64 r52] H53)→br (decide (m3>(wrap .i64 (shrI .u64 (wrap .u64 (wrap .i64 (a2+b4))) 1)))) (J50 [.int .i64 (wrap .i64 ((wrap .i64 ((wrap .i64 (shrI .u64 (wrap .u64 (wrap .i64 (a2+b4))) 1))+m3))-b4)),.int .i64 (wrap .i64 (shrI .u64 (wrap .u64 (wrap .i64 (a2+b4))) 1))] H) (J50 [.int .i64 a2,.int .i64 m3] H)))
def Tryz.p116:Plan:=(two (tl (two (tl (tl (two (one (loop [(10,3),(11,3)] [0,1,4] (two (tl (tl leaf)) (one (tl (tl (tl leaf))))))) (two (tl (one (loop [(13,3)] [0,10] (two (tl (tl leaf)) (two (one leaf) leaf))))) leaf)))) leaf)) (two (tl (two (tl (tl (two (one (loop [(14,3),(15,3)] [0,2,4] (two (tl (tl leaf)) (one (tl (tl (tl leaf))))))) (two (tl (one (loop [(17,3)] [0,14] (two (tl (tl leaf)) (two (one leaf) leaf))))) leaf)))) leaf)) (tl (tl (tl (two (join [(20,3),(21,3)] [0,1,2,3,4,18,19] (tl (two (tl leaf) (tl leaf)))) (tl (two (one (loop [(20,3),(21,3)] [0,1,2,3,4,18,19,22] (two (tl (tl leaf)) (one (tl (tl (tl leaf))))))) (tl (two (join [] [0,1,3,4,18,20,24] (tl (tl leaf))) (two (join [] [0,3,4,18,24] (tl (tl leaf))) (tl (tl leaf)))))))))))))
theorem Tryz.s116{da1p:OA}{da1l da1c:Nat}{a2 m3 b4:Int}{cm5g:Nat}{cm5x cm5y:AV}{H R}(h:Tryz.S116 da1p da1l da1c a2 m3 b4 cm5g cm5x cm5y H R):Tryz.C 116 #[.slice da1p da1l da1c,.int .i64 a2,.int .i64 m3,.int .i64 b4,.func (.func cm5g) cm5x cm5y] H R:=vcs Tryz.tab_ok Tryz.mixed Tryz.func116 Tryz.cal116 Tryz.p116 h (by kernel_rfl)
def Tryz.S117(s1p:OA)(s1l s1c:Nat)(n2:Int)(H:Heap)(R:Kv):Prop:=
 ∀J3:Kl,(∀H4,(br (decide (((wrap .i64 (n2-(wrap .i64 ((s1c:Int)-(s1l:Int))))):Int)>0)) (0≤(s1c:Int)∧(s1c:Int)≤(s1c:Int)∧appZ 2 32 #[.int .i64 0,.slice none 0 0] H4 (if s1c=0 then s1p else Option.map (fun x=>Addr.add x (0*2)) s1p) ((toNat (s1c:Int))-0) (s1c-0) (wrap .i64 (n2-(wrap .i64 ((s1c:Int)-(s1l:Int))))) 158 fun ap5p ap5l ap5c H6=>0≤(s1l:Int)∧(s1l:Int)≤(ap5c:Int)∧R (.slice (if ap5c=0 then ap5p else Option.map (fun x=>Addr.add x (0*2)) ap5p) ((toNat (s1l:Int))-0) (ap5c-0)) H6) (R (.slice s1p s1l s1c) H4))→J3 [] H4)→
 br (decide (n2<0))
 (False)
 (J3 [] H)
def Tryz.p117:Plan:=(tl (two (join [] [0,1] (tl (tl leaf))) (two (tl (tl (tl leaf))) (tl leaf))))
theorem Tryz.s117{s1p:OA}{s1l s1c:Nat}{n2:Int}{H R}(h:Tryz.S117 s1p s1l s1c n2 H R):Tryz.C 117 #[.slice s1p s1l s1c,.int .i64 n2] H R:=vcs Tryz.tab_ok Tryz.mixed Tryz.func117 Tryz.cal117 Tryz.p117 h (by kernel_rfl)
def Tryz.S118(s1p:OA)(s1l s1c:Nat)(n2:Int)(H:Heap)(R:Kv):Prop:=
 ∀J3:Kl,(∀H4,(br (decide (((wrap .i64 (n2-(wrap .i64 ((s1c:Int)-(s1l:Int))))):Int)>0)) (0≤(s1c:Int)∧(s1c:Int)≤(s1c:Int)∧appZ 1 8 #[.int .i64 0] H4 (if s1c=0 then s1p else Option.map (fun x=>Addr.add x (0*1)) s1p) ((toNat (s1c:Int))-0) (s1c-0) (wrap .i64 (n2-(wrap .i64 ((s1c:Int)-(s1l:Int))))) 3 fun ap5p ap5l ap5c H6=>0≤(s1l:Int)∧(s1l:Int)≤(ap5c:Int)∧R (.slice (if ap5c=0 then ap5p else Option.map (fun x=>Addr.add x (0*1)) ap5p) ((toNat (s1l:Int))-0) (ap5c-0)) H6) (R (.slice s1p s1l s1c) H4))→J3 [] H4)→
 br (decide (n2<0))
 (False)
 (J3 [] H)
def Tryz.p118:Plan:=(tl (two (join [] [0,1] (tl (tl leaf))) (two (tl (tl (tl leaf))) (tl leaf))))
theorem Tryz.s118{s1p:OA}{s1l s1c:Nat}{n2:Int}{H R}(h:Tryz.S118 s1p s1l s1c n2 H R):Tryz.C 118 #[.slice s1p s1l s1c,.int .i64 n2] H R:=vcs Tryz.tab_ok Tryz.mixed Tryz.func118 Tryz.cal118 Tryz.p118 h (by kernel_rfl)
def Tryz.S119(da1p:OA)(da1l da1c:Nat)(a2 m3 b4:Int)(cm5g:Nat)(cm5x cm5y:AV)(H:Heap)(R:Kv):Prop:=
 ∀X6:Kl,(∀(i7 j8:Int) H9,(br (i7 != j8) (br (decide (i7>j8)) (Tryz.C 120 #[.slice da1p da1l da1c,.int .i64 (wrap .i64 (m3-i7)),.int .i64 m3,.int .i64 j8,.func (.func cm5g) cm5x cm5y] H9 fun r10 H11=>r10= .tuple #[]∧X6 [.int .i64 (wrap .i64 (i7-j8)),.int .i64 j8] H11) (Tryz.C 120 #[.slice da1p da1l da1c,.int .i64 (wrap .i64 (m3-i7)),.int .i64 (wrap .i64 ((wrap .i64 (m3+j8))-i7)),.int .i64 i7,.func (.func cm5g) cm5x cm5y] H9 fun r12 H13=>r12= .tuple #[]∧X6 [.int .i64 i7,.int .i64 (wrap .i64 (j8-i7))] H13)) (Tryz.C 120 #[.slice da1p da1l da1c,.int .i64 (wrap .i64 (m3-i7)),.int .i64 m3,.int .i64 i7,.func (.func cm5g) cm5x cm5y] H9 fun r14 H15=>r14= .tuple #[]∧R (.tuple #[]) H15))→X6 [.int .i64 i7,.int .i64 j8] H9)→X6 [.int .i64 (wrap .i64 (m3-a2)),.int .i64 (wrap .i64 (b4-m3))] H
def Tryz.p119:Plan:=(tl (tl (two (one (loop [(10,3),(11,3)] [0,2,4] (two (tl (tl leaf)) (one (tl (two (tl leaf) (tl leaf))))))) leaf)))
theorem Tryz.s119{da1p:OA}{da1l da1c:Nat}{a2 m3 b4:Int}{cm5g:Nat}{cm5x cm5y:AV}{H R}(h:Tryz.S119 da1p da1l da1c a2 m3 b4 cm5g cm5x cm5y H R):Tryz.C 119 #[.slice da1p da1l da1c,.int .i64 a2,.int .i64 m3,.int .i64 b4,.func (.func cm5g) cm5x cm5y] H R:=vcs Tryz.tab_ok Tryz.mixed Tryz.func119 Tryz.cal119 Tryz.p119 h (by kernel_rfl)
def Tryz.S120(da1p:OA)(da1l da1c:Nat)(a2 b3 n4:Int)(cm5g:Nat)(cm5x cm5y:AV)(H:Heap)(R:Kv):Prop:=
 ∀X6:Kl,(∀(i7:Int) H8,(br (decide (i7<n4)) (∃a9,da1p=some a9∧0≤(wrap .i64 (b3+i7))∧(wrap .i64 (b3+i7))<(da1l:Int)∧ ∃v10,v10.size=2∧rowIn H8 (.add a9 (toNat (wrap .i64 (b3+i7))*2)) v10∧ ∃a11,da1p=some a11∧0≤(wrap .i64 (a2+i7))∧(wrap .i64 (a2+i7))<(da1l:Int)∧ ∃v12,v12.size=2∧rowIn H8 (.add a11 (toNat (wrap .i64 (a2+i7))*2)) v12∧ ∃a13,da1p=some a13∧0≤(wrap .i64 (a2+i7))∧(wrap .i64 (a2+i7))<(da1l:Int)∧v10.size=2∧stAt H8 (.add a13 (toNat (wrap .i64 (a2+i7))*2)) v10.toList fun H14=> ∃a15,da1p=some a15∧0≤(wrap .i64 (b3+i7))∧(wrap .i64 (b3+i7))<(da1l:Int)∧v12.size=2∧stAt H14 (.add a15 (toNat (wrap .i64 (b3+i7))*2)) v12.toList fun H16=>X6 [.int .i64 (wrap .i64 (i7+1))] H16) (R (.tuple #[]) H8))→X6 [.int .i64 i7] H8)→X6 [.int .i64 0] H
def Tryz.p120:Plan:=(tl (one (loop [(10,3)] [0,1,2,3] (two (tl (tl leaf)) (two (one leaf) leaf)))))
theorem Tryz.s120{da1p:OA}{da1l da1c:Nat}{a2 b3 n4:Int}{cm5g:Nat}{cm5x cm5y:AV}{H R}(h:Tryz.S120 da1p da1l da1c a2 b3 n4 cm5g cm5x cm5y H R):Tryz.C 120 #[.slice da1p da1l da1c,.int .i64 a2,.int .i64 b3,.int .i64 n4,.func (.func cm5g) cm5x cm5y] H R:=vcs Tryz.tab_ok Tryz.mixed Tryz.func120 Tryz.cal120 Tryz.p120 h (by kernel_rfl)
end Go.Proofs
namespace Go.Sh
def ints(l:List Int):List Value:=l.map (Value.int .i64)
theorem ints_get{l:List Int}{i:Nat}{v:Int}(h:l[i]?=some v):(ints l)[i]?=some (Value.int .i64 v):=by simp[ints,h]
theorem ints_len(l:List Int):(ints l).length=l.length:=by simp[ints]
theorem ints_append(a b:List Int):ints (a++b)=ints a++ints b:=by simp[ints]
theorem ints_set(l:List Int)(i:Nat)(v:Int):(ints l).set i (.int .i64 v)=ints (l.set i v):=by simp[ints]
theorem ints_one(l:List Int): ∀v∈ints l,v.oneCell'=true:=fun v hv=>by
 obtain⟨x,_,rfl⟩:=List.mem_map.1 hv;rfl
structure RS(H:Heap)(p:Option Addr)(l:Nat)(el:TypeId)(k:Nat)(fs:List Value):Prop where
 len:fs.length=l*k
 one: ∀v∈fs,v.oneCell'=true
 at_:l=0∨ ∃blk cs,p=some ⟨blk,0,none⟩∧H[blk]?=some (.cells cs el)∧ ∀(i:Nat) v,fs[i]?=some v→cs[i]?=some v
structure FS(n0:Nat)(H:Heap)(p:Option Addr)(l c:Nat)(el:TypeId)(k:Nat)(fs:List Value):Prop where
 len:fs.length=l*k
 le:l≤c
 one: ∀v∈fs,v.oneCell'=true
 at_:(p=none∧c=0)∨ ∃blk cs,p=some ⟨blk,0,none⟩∧n0≤blk∧H[blk]?=some (.cells cs el)∧cs.size=c*k∧ ∀(i:Nat) v,fs[i]?=some v→cs[i]?=some v
theorem FS.rs{n0:Nat}{H:Heap}{p:Option Addr}{l c:Nat}{el:TypeId}{k:Nat}{fs:List Value}(h:FS n0 H p l c el k fs):RS H p l el k fs:=by
 refine⟨h.len,h.one,?_⟩
 rcases h.at_ with ⟨_,h2⟩|⟨blk,cs,h1,_,h3,_,h5⟩
 ·left;have:=h.le;omega
 ·exact .inr ⟨blk,cs,h1,h3,h5⟩
theorem RS.keep{H H':Heap}{p:Option Addr}{l:Nat}{el:TypeId}{k:Nat}{fs:List Value}(h:RS H p l el k fs)(hk: ∀b cs,p=some ⟨b,0,none⟩→H[b]?=some (.cells cs el)→H'[b]?=some (.cells cs el)):RS H' p l el k fs:=by
 refine⟨h.len,h.one,?_⟩
 rcases h.at_ with h1|⟨blk,cs,h1,h3,h5⟩
 ·exact .inl h1
 ·exact .inr ⟨blk,cs,h1,hk _ _ h1 h3,h5⟩
theorem RS.ext{H H':Heap}{p:Option Addr}{l:Nat}{el:TypeId}{k:Nat}{fs:List Value}(h:RS H p l el k fs)(he:Ext H H'):RS H' p l el k fs:=h.keep fun b cs _ hb=>he _ _ hb
theorem FS.keep{n0:Nat}{H H':Heap}{p:Option Addr}{l c:Nat}{el:TypeId}{k:Nat}{fs:List Value}(h:FS n0 H p l c el k fs)(hk: ∀b cs,p=some ⟨b,0,none⟩→H[b]?=some (.cells cs el)→H'[b]?=some (.cells cs el)):FS n0 H' p l c el k fs:=by
 refine⟨h.len,h.le,h.one,?_⟩
 rcases h.at_ with h1|⟨blk,cs,h1,h2,h3,h5⟩
 ·exact .inl h1
 ·exact .inr ⟨blk,cs,h1,h2,hk _ _ h1 h3,h5⟩
theorem FS.ext{n0:Nat}{H H':Heap}{p:Option Addr}{l c:Nat}{el:TypeId}{k:Nat}{fs:List Value}(h:FS n0 H p l c el k fs)(he:Ext H H'):FS n0 H' p l c el k fs:=h.keep fun b cs _ hb=>he _ _ hb
theorem FS.lower{n0 n1:Nat}{H:Heap}{p:Option Addr}{l c:Nat}{el:TypeId}{k:Nat}{fs:List Value}(h:FS n0 H p l c el k fs)(hn:n1≤n0):FS n1 H p l c el k fs:=by
 refine⟨h.len,h.le,h.one,?_⟩
 rcases h.at_ with h1|⟨blk,cs,h1,h2,h3,h5⟩
 ·exact .inl h1
 ·exact .inr ⟨blk,cs,h1,by omega,h3,h5⟩
theorem FS.nil(n0:Nat)(H:Heap)(el:TypeId)(k:Nat):FS n0 H none 0 0 el k []:=⟨by simp,Nat.le_refl _,by simp,.inl ⟨rfl,rfl⟩⟩
theorem RS.nil(H:Heap)(p:Option Addr)(el:TypeId)(k:Nat):RS H p 0 el k []:=⟨by simp,by simp,.inl rfl⟩
theorem FS.whole{n0:Nat}{H:Heap}{b l k:Nat}{el:TypeId}{cs:Array Value}(hb:n0≤b)(h:H[b]?=some (.cells cs el))(hs:cs.size=l*k)(ho: ∀v∈cs.toList,v.oneCell'=true):FS n0 H (some ⟨b,0,none⟩) l l el k cs.toList:=
 ⟨by simpa using hs,Nat.le_refl _,ho,.inr ⟨b,cs,rfl,hb,h,hs,fun i v hv=>by simpa using hv⟩⟩
theorem RS.cell{H:Heap}{p:Option Addr}{l:Nat}{el:TypeId}{k:Nat}{fs:List Value}(h:RS H p l el k fs){i:Nat}{v:Value}(hv:fs[i]?=some v): ∃blk,p=some ⟨blk,0,none⟩∧Go.Sh.cell H ⟨blk,i,none⟩=some v:=by
 rcases h.at_ with h1|⟨blk,cs,h1,h3,h5⟩
 ·have:=(List.getElem?_eq_some_iff.1 hv).1
  have:=h.len
  rw[h1] at this
  omega
 ·exact⟨blk,h1,cell_get h3 (h5 i v hv)⟩
theorem RS.row{H:Heap}{p:Option Addr}{l:Nat}{el:TypeId}{k:Nat}{fs:List Value}(h:RS H p l el k fs){i:Nat}(hi:i<l)(hk:0<k){xs:Array Value}(hx: ∀(j:Nat) v,xs[j]?=some v→fs[i*k+j]?=some v): ∃blk,p=some ⟨blk,0,none⟩∧rowIn H ⟨blk,i*k,none⟩ xs:=by
 rcases h.at_ with h1|⟨blk,cs,h1,h3,h5⟩
 ·omega
 ·exact⟨blk,h1,rowIn_block h3 fun j v hv=>h5 _ _ (hx j v hv)⟩
structure IS(H:Heap)(p:Option Addr)(l:Nat)(fs:List Value):Prop where
 len:fs.length=l
 get: ∀(i:Nat) v,fs[i]?=some v→ ∃a,p=some a∧Go.Sh.cell H (a.add i)=some v
theorem IS.ext{H H':Heap}{p:Option Addr}{l:Nat}{fs:List Value}(h:IS H p l fs)(he:Ext H H'):IS H' p l fs:=⟨h.len,fun i v hv=>let ⟨a,h1,h2⟩:=h.get i v hv;⟨a,h1,he.cell h2⟩⟩
theorem IS.cell{H:Heap}{p:Option Addr}{l:Nat}{fs:List Value}(h:IS H p l fs){i:Nat}{v:Value}(hv:fs[i]?=some v): ∃a,p=some a∧Go.Sh.cell H (a.add i)=some v:=h.get i v hv
theorem RS.is{H:Heap}{p:Option Addr}{l:Nat}{el:TypeId}{fs:List Value}(h:RS H p l el 1 fs):IS H p l fs:=
 ⟨by have:=h.len;omega,fun i v hv=>let ⟨blk,h1,h2⟩:=h.cell hv;⟨_,h1,by simpa using h2⟩⟩
theorem RS.rowOf{H:Heap}{p:Option Addr}{l:Nat}{el:TypeId}{k:Nat}{fs:List Value}(h:RS H p l el k fs):rowOf H p (l*k) fs.toArray:=by
 rcases h.at_ with h1|⟨blk,cs,h1,h3,h5⟩
 ·have:=h.len
  rw[h1,Nat.zero_mul] at this
  have:fs=[]:=List.length_eq_zero_iff.1 this
  subst this
  subst h1
  cases p with
  |none=>rfl
  |some a=>exact⟨by simp,fun j v hv=>by simp at hv⟩
 ·subst h1
  refine⟨by simp[h.len],rowIn_block h3 fun j v hv=>?_⟩
  rw[Nat.zero_add]
  exact h5 j v (by simpa using hv)
theorem setL_get{c vs:List Value}{i:Nat}(h:i+vs.length≤c.length)(j:Nat):(setL c i vs)[j]?=if i≤j∧j<i+vs.length then vs[j-i]? else c[j]?:=by
 unfold setL
 by_cases h1:j<i
 ·rw[if_neg (by omega),List.append_assoc,List.getElem?_append_left (by simp;omega),List.getElem?_take_of_lt h1]
 ·by_cases h2:j<i+vs.length
  ·rw[if_pos ⟨by omega,h2⟩,List.append_assoc,List.getElem?_append_right (by simp;omega),List.getElem?_append_left (by simp;omega)]
   congr 1
   simp;omega
  ·rw[if_neg (by omega),List.getElem?_append_right (by simp;omega),List.getElem?_drop]
   congr 1
   simp;omega
theorem setL_len{c vs:List Value}{i:Nat}(h:i+vs.length≤c.length):(setL c i vs).length=c.length:=by unfold setL;simp;omega
theorem stAt_some{H:Heap}{b i:Nat}{c:Array Value}{t:TypeId}{vs:List Value}{f:Heap→Prop}(h:H[b]?=some (.cells c t (0,0)))(hl:i+vs.length≤c.size)(ho: ∀v∈vs,v.oneCell'=true)
 (hf: ∀c':Array Value,c'.size=c.size→(∀j:Nat,c'[j]?=if i≤j∧j<i+vs.length then vs[j-i]? else c[j]?)→f (H.setIfInBounds b (.cells c' t (0,0)))):stAt H ⟨b,i,none⟩ vs f:=by
 have hl':i+vs.length≤c.toList.length:=by simpa using hl
 refine⟨c,t,h,rfl,hl,ho,?_⟩
 refine hf (setL c.toList i vs).toArray (by simp[setL_len hl']) fun j=>?_
 rw[List.getElem?_toArray,setL_get hl' j,Array.getElem?_toList (xs:=c)]
theorem FS.app'{n0:Nat}{H:Heap}{p q:Option Addr}{l c n:Nat}{el:TypeId}{k bytes:Nat}{zero:Array Value}{fs gs:List Value}(h:FS n0 H p l c el k fs)(hrow:Go.Sh.rowOf H q (n*k) gs.toArray)(hgl:gs.length=n*k)(hgo: ∀v∈gs,v.oneCell'=true)(hk:0<k)(hn:n0≤H.size)(hz:zero.size=k)
 (hb:(l+n)*bytes≤70368744177664)(hm:l+n≤1000000000000){K:Option Addr→Nat→Nat→Heap→Prop}
 (hK: ∀p' c' H',FS n0 H' p' (l+n) c' el k (fs++gs)→(∀(b:Nat) (o:Obj),H[b]?=some o→p≠some ⟨b,0,none⟩→H'[b]?=some o)→H.size≤H'.size→K p' (l+n) c' H'):appQ k bytes zero H p l c q n el K:=by
 have hfl:=h.len
 have hlen:(fs++gs).length=(l+n)*k:=by rw[List.length_append,hfl,hgl,Nat.add_mul]
 have hone: ∀v∈fs++gs,v.oneCell'=true:=fun v hv=>(List.mem_append.1 hv).elim (h.one v) (hgo v)
 refine⟨hb,by omega,gs.toArray,hrow,fun hle=>?_,fun hlt=>?_⟩
 ·rcases h.at_ with ⟨rfl,hc0⟩|⟨blk,cs,rfl,h2,h3,h4,h5⟩
  ·refine hK none c H ⟨hlen,hle,hone,.inl ⟨rfl,hc0⟩⟩ (fun b o hb _=>hb) (Nat.le_refl _)
  ·simp only[add_none,Nat.zero_add]
   have hcap:(l+n)*k≤c*k:=Nat.mul_le_mul_right k hle
   rw[Nat.add_mul] at hcap
   refine stAt_some h3 (by show l*k+gs.length≤cs.size;omega) (by simpa using hgo) fun c' hc' hg=>?_
   refine hK _ _ _ ⟨hlen,hle,hone,.inr ⟨blk,c',rfl,h2,get_set_self h3,by omega,fun i v hv=>?_⟩⟩ (fun b o hb hne=>get_set_ne (fun hh=>hne (by rw[hh])) hb) (by simp)
   rw[hg]
   by_cases hi:i<fs.length
   ·rw[if_neg (by omega)]
    rw[List.getElem?_append_left hi] at hv
    exact h5 i v hv
   ·rw[List.getElem?_append_right (by omega)] at hv
    have hlt:=(List.getElem?_eq_some_iff.1 hv).1
    rw[if_pos ⟨by omega,by show i<l*k+gs.length;omega⟩]
    rw[←hfl]
    simpa using hv
 ·have hrow: ∃ys,Go.Sh.rowOf H p (l*k) ys∧ys.toList=fs:=⟨fs.toArray,h.rs.rowOf,by simp⟩
  obtain⟨ys,hy,hvs⟩:=hrow
  refine⟨ys,hy,fun c' hc'=>?_⟩
  rw[zeroCells_eq _ _ (by omega)]
  have hcap:(l+n)*k≤c'*k:=Nat.mul_le_mul_right k hc'
  have hys:ys.size=l*k:=by rw[←Array.length_toList,hvs,hfl]
  refine hK _ _ _ ⟨hlen,hc',hone,.inr ⟨H.size,_,rfl,hn,get_push_self _ _,?_,fun i v hv=>?_⟩⟩ (fun b o hb _=>get_push hb) (by simp)
  ·simp only[Array.size_append,hys,List.size_toArray,reps_length,Array.length_toList,hz,hgl]
   rw[Nat.sub_mul]
   rw[Nat.add_mul] at hcap ⊢
   omega
  ·have hi:=(List.getElem?_eq_some_iff.1 hv).1
   rw[Array.getElem?_append_left (by simp[hys,hgl];rw[hlen,Nat.add_mul] at hi;omega)]
   have:(ys++gs.toArray).toList=fs++gs:=by simp[hvs]
   rw[←Array.getElem?_toList,this]
   exact hv
theorem FS.app{n0:Nat}{H:Heap}{p q:Option Addr}{l c n:Nat}{el:TypeId}{k bytes:Nat}{zero:Array Value}{fs gs:List Value}(h:FS n0 H p l c el k fs)(hs:RS H q n el k gs)(hk:0<k)(hn:n0≤H.size)(hz:zero.size=k)
 (hb:(l+n)*bytes≤70368744177664)(hm:l+n≤1000000000000){K:Option Addr→Nat→Nat→Heap→Prop}
 (hK: ∀p' c' H',FS n0 H' p' (l+n) c' el k (fs++gs)→(∀(b:Nat) (o:Obj),H[b]?=some o→p≠some ⟨b,0,none⟩→H'[b]?=some o)→H.size≤H'.size→K p' (l+n) c' H'):appQ k bytes zero H p l c q n el K:=
 h.app' hs.rowOf hs.len hs.one hk hn hz hb hm hK
theorem FS.set{n0:Nat}{H:Heap}{b l c:Nat}{el:TypeId}{k:Nat}{fs:List Value}{i:Nat}{v:Value}{f:Heap→Prop}(h:FS n0 H (some ⟨b,0,none⟩) l c el k fs)(hi:i<fs.length)(ho:v.oneCell'=true)
 (hf: ∀H',FS n0 H' (some ⟨b,0,none⟩) l c el k (fs.set i v)→(∀(b':Nat) (o:Obj),H[b']?=some o→b'≠b→H'[b']?=some o)→H'.size=H.size→f H'):stAt H ⟨b,i,none⟩ [v] f:=by
 have hlen:=h.len
 rcases h.at_ with ⟨h1,_⟩|⟨blk,cs,h1,h2,h3,h4,h5⟩
 ·cases h1
 ·cases h1
  have hics:i<cs.size:=by
   have:=h5 i fs[i] (List.getElem?_eq_getElem hi)
   exact(Array.getElem?_eq_some_iff.1 this).1
  refine stAt_one h3 hics ho ?_
  refine hf _ ⟨by simpa using hlen,h.le,fun u hu=>?_,.inr ⟨b,cs.setIfInBounds i v,rfl,h2,get_set_self h3,by simpa using h4,fun j u hu=>?_⟩⟩ (fun b' o hb' hne=>get_set_ne (Ne.symm hne) hb') (by simp)
  ·rcases List.mem_or_eq_of_mem_set hu with hu|rfl
   ·exact h.one u hu
   ·exact ho
  ·rw[List.getElem?_set] at hu
   rw[Array.getElem?_setIfInBounds]
   by_cases hij:i=j
   ·subst hij
    rw[if_pos rfl,if_pos hi] at hu
    rw[if_pos rfl,if_pos hics]
    exact hu
   ·rw[if_neg hij] at hu
    rw[if_neg hij]
    exact h5 j u hu
theorem zeros_FS{n0:Nat}{H:Heap}{n b:Nat}{el:TypeId}(hb:n0≤b)(h:H[b]?=some (.cells (List.toArray (reps n [Value.int .i64 0])) el)):FS n0 H (some ⟨b,0,none⟩) n n el 1 (ints (List.replicate n 0)):=by
 refine⟨by simp[ints],Nat.le_refl _,ints_one _,.inr ⟨b,_,rfl,hb,h,by simp[reps_length],fun i v hv=>?_⟩⟩
 rw[List.getElem?_toArray]
 have hi:i<n:=by have:=(List.getElem?_eq_some_iff.1 hv).1;simpa[ints] using this
 rw[reps_get [Value.int .i64 0] (by decide) n i (by simpa using hi)]
 simp only[ints,List.map_replicate,List.getElem?_replicate,if_pos hi] at hv
 simpa[Nat.mod_one] using hv
end Go.Sh
namespace Go.Sh
structure Rs where
 at_:Heap→List Nat→Prop
 loc: ∀{H H':Heap} {fp:List Nat},at_ H fp→(∀b∈fp,∀o,H[b]?=some o→H'[b]?=some o)→at_ H' fp
 has: ∀{H:Heap} {fp:List Nat},at_ H fp→ ∀b∈fp,b<H.size
def Rs.cell(b:Nat)(cs:Array Value)(ty:TypeId):Rs where
 at_ H fp:=fp=[b]∧H[b]?=some (.cells cs ty)
 loc h hk:=⟨h.1,hk _ (by rw[h.1];exact List.mem_singleton.2 rfl) _ h.2⟩
 has h b hb:=by rw[h.1,List.mem_singleton] at hb;subst hb;exact lt_of_get h.2
def Rs.sl(p:Option Addr)(l c:Nat)(el:TypeId)(k:Nat)(fs:List Value):Rs where
 at_ H fp:=FS 0 H p l c el k fs∧((p=none∧fp=[])∨ ∃blk,p=some ⟨blk,0,none⟩∧fp=[blk])
 loc h hk:=by
  refine⟨h.1.keep fun b cs hp hb=>hk b ?_ _ hb,h.2⟩
  rcases h.2 with ⟨h1,_⟩|⟨blk,h1,h2⟩
  ·rw[h1] at hp;cases hp
  ·rw[h1] at hp;cases hp;rw[h2];exact List.mem_singleton.2 rfl
 has h b hb:=by
  rcases h.2 with ⟨_,h2⟩|⟨blk,h1,h2⟩
  ·rw[h2] at hb;cases hb
  ·rw[h2,List.mem_singleton] at hb
   subst hb
   rcases h.1.at_ with ⟨h3,_⟩|⟨blk',cs,h3,_,h4,_⟩
   ·rw[h1] at h3;cases h3
   ·rw[h1] at h3;cases h3;exact lt_of_get h4
def Rs.star(r s:Rs):Rs where
 at_ H fp:= ∃a b,fp=a++b∧r.at_ H a∧s.at_ H b
 loc:=fun⟨a,b,e,h1,h2⟩ hk=>⟨a,b,e,r.loc h1 fun x hx=>hk x (by rw[e];exact List.mem_append_left _ hx),s.loc h2 fun x hx=>hk x (by rw[e];exact List.mem_append_right _ hx)⟩
 has:=fun⟨a,b,e,h1,h2⟩ x hx=>by
  rw[e] at hx
  rcases List.mem_append.1 hx with hx|hx
  ·exact r.has h1 x hx
  ·exact s.has h2 x hx
def Rs.ex{α:Type}(f:α→Rs):Rs where
 at_ H fp:= ∃a,(f a).at_ H fp
 loc:=fun⟨a,h⟩ hk=>⟨a,(f a).loc h hk⟩
 has:=fun⟨a,h⟩=>(f a).has h
def Rs.pu(q:Prop)(r:Rs):Rs where
 at_ H fp:=q∧r.at_ H fp
 loc:=fun⟨a,h⟩ hk=>⟨a,r.loc h hk⟩
 has:=fun⟨a,h⟩=>r.has h
def Lie(H:Heap):List Rs→List (List Nat)→Prop
 |[],[]=>True
 |r::σ,fp::fps=>r.at_ H fp∧Lie H σ fps
 |_,_=>False
theorem Lie.get{H:Heap}: ∀{σ:List Rs} {fps:List (List Nat)},Lie H σ fps→ ∀{i:Nat} {r:Rs},σ[i]?=some r→ ∃fp,fps[i]?=some fp∧r.at_ H fp
 |[],[],_,i,r,h=>by simp at h
 |r::σ,fp::fps,hl,0,s,h=>by simp at h;subst h;exact⟨fp,rfl,hl.1⟩
 |r::σ,fp::fps,hl,i+1,s,h=>by
  simp only[List.getElem?_cons_succ] at h ⊢
  exact Lie.get hl.2 h
theorem Lie.has{H:Heap}: ∀{σ:List Rs} {fps:List (List Nat)},Lie H σ fps→ ∀b∈fps.flatten,b<H.size
 |[],[],_,b,hb=>by simp at hb
 |r::σ,fp::fps,hl,b,hb=>by
  simp only[List.flatten_cons,List.mem_append] at hb
  rcases hb with hb|hb
  ·exact r.has hl.1 b hb
  ·exact Lie.has hl.2 b hb
theorem Lie.loc{H H':Heap}: ∀{σ:List Rs} {fps:List (List Nat)},Lie H σ fps→(∀b∈fps.flatten,∀o,H[b]?=some o→H'[b]?=some o)→Lie H' σ fps
 |[],[],_,_=>trivial
 |r::σ,fp::fps,hl,hk=>by
  simp only[List.flatten_cons,List.mem_append] at hk
  exact⟨r.loc hl.1 fun b hb=>hk b (.inl hb),Lie.loc hl.2 fun b hb=>hk b (.inr hb)⟩
theorem Lie.set{H H':Heap}: ∀{σ:List Rs} {fps:List (List Nat)} {i:Nat} {fp fp':List Nat} {r':Rs},Lie H σ fps→fps.flatten.Nodup→fps[i]?=some fp→r'.at_ H' fp'→fp'.Nodup→(∀b∈fp',b∈fp∨H.size≤b)→
 (∀b o,H[b]?=some o→b∉fp→H'[b]?=some o)→Lie H' (σ.set i r') (fps.set i fp')∧(fps.set i fp').flatten.Nodup
 |[],[],i,fp,fp',r',hl,hn,hi,h,hn',hf,hk=>by simp at hi
 |r::σ,g::fps,0,fp,fp',r',hl,hn,hi,h,hn',hf,hk=>by
  simp at hi;subst hi
  simp only[List.flatten_cons,List.nodup_append] at hn
  refine⟨⟨h,hl.2.loc fun b hb o ho=>hk b o ho fun hg=>hn.2.2 b hg b hb rfl⟩,?_⟩
  simp only[List.set_cons_zero,List.flatten_cons,List.nodup_append]
  refine⟨hn',hn.2.1,fun a ha b hb hab=>?_⟩
  subst hab
  rcases hf a ha with h1|h1
  ·exact hn.2.2 a h1 a hb rfl
  ·have:=Lie.has hl.2 a hb;omega
 |r::σ,g::fps,i+1,fp,fp',r',hl,hn,hi,h,hn',hf,hk=>by
  simp only[List.getElem?_cons_succ] at hi
  simp only[List.flatten_cons,List.nodup_append] at hn
  obtain⟨h1,h2⟩:=Lie.set hl.2 hn.2.1 hi h hn' hf hk
  have hmem: ∀b∈fp,b∈fps.flatten:=fun b hb=>List.mem_flatten.2 ⟨fp,List.mem_of_getElem? hi,hb⟩
  refine⟨⟨r.loc hl.1 fun b hb o ho=>hk b o ho fun hg=>hn.2.2 b hb b (hmem b hg) rfl,h1⟩,?_⟩
  simp only[List.set_cons_succ,List.flatten_cons,List.nodup_append]
  refine⟨hn.1,h2,fun a ha b hb hab=>?_⟩
  subst hab
  obtain⟨f,hf1,hf2⟩:=List.mem_flatten.1 hb
  rcases List.mem_or_eq_of_mem_set hf1 with hf1|rfl
  ·exact hn.2.2 a ha a (List.mem_flatten.2 ⟨f,hf1,hf2⟩) rfl
  ·rcases hf a hf2 with h3|h3
   ·exact hn.2.2 a ha a (hmem a h3) rfl
   ·have:=r.has hl.1 a ha;omega
structure St(H0 H:Heap)(σ:List Rs):Prop where
 ext:Ext H0 H
 own: ∃fps,Lie H σ fps∧fps.flatten.Nodup∧ ∀b∈fps.flatten,H0.size≤b
theorem St.nil(H:Heap):St H H []:=⟨Ext.refl H,[],trivial,by simp,by simp⟩
theorem St.of_ext{H0 H:Heap}(h:Ext H0 H):St H0 H []:=⟨h,[],trivial,by simp,by simp⟩
variable {H0 H H':Heap} {σ τ:List Rs}
theorem nodup_mem: ∀{fps:List (List Nat)},fps.flatten.Nodup→ ∀fp∈fps,fp.Nodup
 |[],_,fp,h=>by cases h
 |g::r,hn,fp,h=>by
  rw[List.flatten_cons,List.nodup_append] at hn
  rcases List.mem_cons.1 h with rfl|h
  ·exact hn.1
  ·exact nodup_mem hn.2.1 fp h
theorem St.upd(hs:St H0 H σ){i:Nat}{r r':Rs}(hi:σ[i]?=some r)
 (h: ∀fp,r.at_ H fp→fp.Nodup→(∀b∈fp,H0.size≤b)→ ∃fp',r'.at_ H' fp'∧fp'.Nodup∧(∀b∈fp',b∈fp∨H.size≤b)∧ ∀b o,H[b]?=some o→b∉fp→H'[b]?=some o):St H0 H' (σ.set i r'):=by
 obtain⟨he,fps,hl,hn,hb⟩:=hs
 obtain⟨fp,hfp,hat⟩:=hl.get hi
 have hmem: ∀b∈fp,b∈fps.flatten:=fun b hb=>List.mem_flatten.2 ⟨fp,List.mem_of_getElem? hfp,hb⟩
 have hfn:fp.Nodup:=nodup_mem hn _ (List.mem_of_getElem? hfp)
 obtain⟨fp',h1,h2,h3,h4⟩:=h fp hat hfn fun b hb'=>hb b (hmem b hb')
 obtain⟨h5,h6⟩:=hl.set hn hfp h1 h2 h3 h4
 refine⟨fun b o ho=>h4 b o (he b o ho) fun hf=>?_,_,h5,h6,fun b hb'=>?_⟩
 ·have:=hb b (hmem b hf);have:=lt_of_get ho;omega
 ·obtain⟨f,hf1,hf2⟩:=List.mem_flatten.1 hb'
  rcases List.mem_or_eq_of_mem_set hf1 with hf1|rfl
  ·exact hb b (List.mem_flatten.2 ⟨f,hf1,hf2⟩)
  ·rcases h3 b hf2 with h7|h7
   ·exact hb b (hmem b h7)
   ·have:=he.size;omega
theorem St.as(hs:St H0 H σ)(i:Nat){r r':Rs}(hi:σ[i]?=some r)(h: ∀fp,r.at_ H fp→r'.at_ H fp):St H0 H (σ.set i r'):=
 hs.upd hi fun fp h1 h2 _=>⟨fp,h fp h1,h2,fun b hb=> .inl hb,fun b o ho _=>ho⟩
theorem St.step(hs:St H0 H σ)(he:Ext H H'):St H0 H' σ:=by
 obtain⟨h1,fps,hl,hn,hb⟩:=hs
 exact⟨h1.trans he,fps,hl.loc fun b _ o ho=>he b o ho,hn,hb⟩
theorem Lie.append{H:Heap}: ∀{σ τ:List Rs} {f g:List (List Nat)},Lie H σ f→Lie H τ g→Lie H (σ++τ) (f++g)
 |[],_,[],_,_,h=>h
 |_::_,_,_::_,_,h,h'=>⟨h.1,Lie.append h.2 h'⟩
theorem Lie.split{H:Heap}: ∀{σ τ:List Rs} {f:List (List Nat)},Lie H (σ++τ) f→ ∃a b,f=a++b∧Lie H σ a∧Lie H τ b
 |[],_,f,h=>⟨[],f,rfl,trivial,h⟩
 |r::σ,τ,[],h=>h.elim
 |r::σ,τ,g::f,h=>let ⟨a,b,e,h1,h2⟩:=Lie.split h.2;⟨g::a,b,by rw[e];rfl,⟨h.1,h1⟩,h2⟩
theorem St.call(hs:St H0 H σ)(ht:St H H' τ):St H0 H' (τ++σ):=by
 obtain⟨h1,fps,hl,hn,hb⟩:=hs
 obtain⟨h2,gps,hl2,hn2,hb2⟩:=ht
 refine⟨h1.trans h2,gps++fps,hl2.append (hl.loc fun b _ o ho=>h2 b o ho),?_,fun b h=>?_⟩
 ·rw[List.flatten_append,List.nodup_append]
  refine⟨hn2,hn,fun a ha b hb' hab=>?_⟩
  subst hab
  have:=hb2 a ha;have:=hl.has a hb';omega
 ·rw[List.flatten_append,List.mem_append] at h
  rcases h with h|h
  ·have:=hb2 b h;have:=h1.size;omega
  ·exact hb b h
theorem St.perm(hs:St H0 H σ)(hp:σ.Perm τ):St H0 H τ:=by
 obtain⟨he,fps,hl,hn,hb⟩:=hs
 have: ∀{σ τ:List Rs},σ.Perm τ→ ∀fps,Lie H σ fps→ ∃gps,Lie H τ gps∧fps.Perm gps:=by
  intro σ τ hp
  induction hp with
  |nil=>intro fps h;exact⟨fps,h,List.Perm.refl _⟩
  |cons x _ ih=>
   intro fps h
   match fps,h with
   |f::fps,h=>obtain⟨g,h1,h2⟩:=ih fps h.2;exact⟨f::g,⟨h.1,h1⟩,h2.cons f⟩
  |swap x y l=>
   intro fps h
   match fps,h with
   |f::g::fps,h=>exact⟨g::f::fps,⟨h.2.1,h.1,h.2.2⟩,List.Perm.swap _ _ _⟩
  |trans _ _ ih1 ih2=>
   intro fps h
   obtain⟨g,h1,h2⟩:=ih1 fps h
   obtain⟨k,h3,h4⟩:=ih2 g h1
   exact⟨k,h3,h2.trans h4⟩
 obtain⟨gps,h1,h2⟩:=this hp fps hl
 exact⟨he,gps,h1,(h2.flatten.nodup_iff).1 hn,fun b h=>hb b ((h2.flatten.mem_iff).2 h)⟩
theorem St.app(hs:St H0 H (σ++τ)):St H0 H σ∧St H0 H τ:=by
 obtain⟨he,fps,hl,hn,hb⟩:=hs
 obtain⟨a,b,rfl,h1,h2⟩:=hl.split
 rw[List.flatten_append,List.nodup_append] at hn
 rw[List.flatten_append] at hb
 exact⟨⟨he,a,h1,hn.1,fun x hx=>hb x (List.mem_append_left _ hx)⟩,⟨he,b,h2,hn.2.1,fun x hx=>hb x (List.mem_append_right _ hx)⟩⟩
theorem St.tail{r:Rs}(hs:St H0 H (r::σ)):St H0 H σ:=(St.app (σ:=[r]) hs).2
theorem St.drop(hs:St H0 H σ)(n:Nat):St H0 H (σ.drop n):=by
 rw[←List.take_append_drop n σ] at hs
 exact hs.app.2
theorem St.take(hs:St H0 H σ)(n:Nat):St H0 H (σ.take n):=by
 rw[←List.take_append_drop n σ] at hs
 exact hs.app.1
theorem St.swap{r s:Rs}(hs:St H0 H (r::s::σ)):St H0 H (s::r::σ):=hs.perm (List.Perm.swap _ _ _)
theorem St.front(hs:St H0 H σ)(i:Nat){r:Rs}(hi:σ[i]?=some r):St H0 H (r::σ.eraseIdx i):=by
 refine hs.perm ?_
 have: ∀(l:List Rs) (i:Nat),l[i]?=some r→l.Perm (r::l.eraseIdx i):=by
  intro l
  induction l with
  |nil=>intro i h;simp at h
  |cons x l ih=>
   intro i h
   cases i with
   |zero=>simp at h;subst h;exact List.Perm.refl _
   |succ i=>exact((ih i (by simpa using h)).cons x).trans (List.Perm.swap _ _ _)
 exact this σ i hi
theorem St.back{r r':Rs}{i:Nat}(hi:σ[i]?=some r)(hs:St H0 H (r'::σ.eraseIdx i)):St H0 H (σ.set i r'):=by
 refine hs.perm ?_
 have: ∀(l:List Rs) (i:Nat),l[i]?=some r→(r'::l.eraseIdx i).Perm (l.set i r'):=by
  intro l
  induction l with
  |nil=>intro i h;simp at h
  |cons x l ih=>
   intro i h
   cases i with
   |zero=>exact List.Perm.refl _
   |succ i=>exact(List.Perm.swap _ _ _).trans ((ih i (by simpa using h)).cons x)
 exact this σ i hi
theorem St.del(hs:St H0 H σ)(i:Nat):St H0 H (σ.eraseIdx i):=by
 rcases Nat.lt_or_ge i σ.length with h|h
 ·exact(hs.front i (List.getElem?_eq_getElem h)).tail
 ·rw[List.eraseIdx_of_length_le h];exact hs
theorem St.cat{r s:Rs}(hs:St H0 H (r::s::σ)):St H0 H (.star r s::σ):=by
 obtain⟨he,fps,hl,hn,hb⟩:=hs
 match fps,hl with
 |f::g::fps,hl=>exact⟨he,(f++g)::fps,⟨⟨f,g,rfl,hl.1,hl.2.1⟩,hl.2.2⟩,by simpa using hn,fun b h=>hb b (by simpa using h)⟩
theorem St.cut{r s:Rs}(hs:St H0 H (.star r s::σ)):St H0 H (r::s::σ):=by
 obtain⟨he,fps,hl,hn,hb⟩:=hs
 match fps,hl with
 |_::fps,⟨⟨f,g,rfl,h1,h2⟩,h3⟩=>exact⟨he,f::g::fps,⟨h1,h2,h3⟩,by simpa using hn,fun b h=>hb b (by simpa using h)⟩
theorem St.unex{α:Type}{f:α→Rs}(hs:St H0 H (.ex f::σ)): ∃a,St H0 H (f a::σ):=by
 obtain⟨he,fps,hl,hn,hb⟩:=hs
 match fps,hl with
 |g::fps,⟨⟨a,h1⟩,h3⟩=>exact⟨a,he,g::fps,⟨h1,h3⟩,hn,hb⟩
theorem St.inex{α:Type}{f:α→Rs}(a:α)(hs:St H0 H (f a::σ)):St H0 H (.ex f::σ):=by
 obtain⟨he,fps,hl,hn,hb⟩:=hs
 match fps,hl with
 |g::fps,⟨h1,h3⟩=>exact⟨he,g::fps,⟨⟨a,h1⟩,h3⟩,hn,hb⟩
theorem St.fact{q:Prop}{r:Rs}(hs:St H0 H (.pu q r::σ)):q∧St H0 H (r::σ):=by
 obtain⟨he,fps,hl,hn,hb⟩:=hs
 match fps,hl with
 |g::fps,⟨⟨a,h1⟩,h3⟩=>exact⟨a,he,g::fps,⟨h1,h3⟩,hn,hb⟩
theorem St.with{q:Prop}{r:Rs}(hq:q)(hs:St H0 H (r::σ)):St H0 H (.pu q r::σ):=by
 obtain⟨he,fps,hl,hn,hb⟩:=hs
 match fps,hl with
 |g::fps,⟨h1,h3⟩=>exact⟨he,g::fps,⟨⟨hq,h1⟩,h3⟩,hn,hb⟩
theorem St.new(hs:St H0 H σ){r:Rs}{fp:List Nat}(he:Ext H H')(h:r.at_ H' fp)(hn:fp.Nodup)(hb: ∀b∈fp,H.size≤b):St H0 H' (r::σ):=
 St.call (τ:=[r]) hs ⟨he,[fp],⟨h,trivial⟩,by simpa using hn,by simpa using hb⟩
theorem St.block(hs:St H0 H σ)(i:Nat){b:Nat}{cs:Array Value}{ty:TypeId}(hi:σ[i]?=some (.cell b cs ty)):H[b]?=some (.cells cs ty):=by
 obtain⟨_,fps,hl,_⟩:=hs
 obtain⟨fp,_,h⟩:=hl.get hi
 exact h.2
theorem St.get(hs:St H0 H σ)(i:Nat){b j:Nat}{cs:Array Value}{ty:TypeId}{v:Value}(hi:σ[i]?=some (.cell b cs ty))(hj:cs[j]?=some v):Sh.cell H ⟨b,j,none⟩=some v:=
 cell_get (hs.block i hi) hj
theorem St.alc(hs:St H0 H σ){cs:Array Value}{ty:TypeId}{K:Nat→Heap→Prop}(hK: ∀b H',St H0 H' (.cell b cs ty::σ)→K b H'):Sh.alc H (.cells cs ty) K:=
 hK _ _ (hs.new (Ext.push _ _) (fp:=[H.size]) ⟨rfl,get_push_self _ _⟩ (by simp) (by simp))
theorem St.alcE(hs:St H0 H σ){cs:Array Value}{ty:TypeId}{K:Nat→Heap→Prop}(hK: ∀b H',Ext H H'→St H0 H' (.cell b cs ty::σ)→K b H'):Sh.alc H (.cells cs ty) K:=
 hK _ _ (Ext.push _ _) (hs.new (Ext.push _ _) (fp:=[H.size]) ⟨rfl,get_push_self _ _⟩ (by simp) (by simp))
theorem St.put(hs:St H0 H σ)(i:Nat){b j:Nat}{cs:Array Value}{ty:TypeId}{v:Value}{f:Heap→Prop}(hi:σ[i]?=some (.cell b cs ty))(hj:j<cs.size)(ho:v.oneCell'=true)
 (hK: ∀H',St H0 H' (σ.set i (.cell b (cs.setIfInBounds j v) ty))→f H'):stAt H ⟨b,j,none⟩ [v] f:=
 stAt_one (hs.block i hi) hj ho (hK _ (hs.upd hi fun fp h1 _ _=>⟨[b],⟨rfl,get_set_self h1.2⟩,by simp,fun x hx=> .inl (h1.1▸hx),fun x o ho hx=>get_set_ne (fun he=>hx (by rw[h1.1,he];exact List.mem_singleton.2 rfl)) ho⟩))
theorem St.putAll(hs:St H0 H σ)(i:Nat){b:Nat}{cs:Array Value}{ty:TypeId}{vs:List Value}{f:Heap→Prop}(hi:σ[i]?=some (.cell b cs ty))(hl:vs.length=cs.size)(ho: ∀v∈vs,v.oneCell'=true)
 (hK: ∀H',St H0 H' (σ.set i (.cell b vs.toArray ty))→f H'):stAt H ⟨b,0,none⟩ vs f:=
 stAt_whole (hs.block i hi) hl ho (hK _ (hs.upd hi fun fp h1 _ _=>⟨[b],⟨rfl,get_set_self h1.2⟩,by simp,fun x hx=> .inl (h1.1▸hx),fun x o ho hx=>get_set_ne (fun he=>hx (by rw[h1.1,he];exact List.mem_singleton.2 rfl)) ho⟩))
theorem St.putRow(hs:St H0 H σ)(i:Nat){b j:Nat}{cs:Array Value}{ty:TypeId}{vs:List Value}{f:Heap→Prop}(hi:σ[i]?=some (.cell b cs ty))(hl:j+vs.length≤cs.size)(ho: ∀v∈vs,v.oneCell'=true)
 (hK: ∀H',St H0 H' (σ.set i (.cell b (setL cs.toList j vs).toArray ty))→f H'):stAt H ⟨b,j,none⟩ vs f:=
 ⟨cs,ty,hs.block i hi,rfl,hl,ho,hK _ (hs.upd hi fun fp h1 _ _=>⟨[b],⟨rfl,get_set_self h1.2⟩,by simp,fun x hx=> .inl (h1.1▸hx),fun x o ho hx=>get_set_ne (fun he=>hx (by rw[h1.1];exact List.mem_singleton.2 he.symm)) ho⟩)⟩
theorem St.fs(hs:St H0 H σ)(i:Nat){p:Option Addr}{l c k:Nat}{el:TypeId}{fs:List Value}(hi:σ[i]?=some (.sl p l c el k fs)):FS 0 H p l c el k fs:=by
 obtain⟨_,fps,hl,_⟩:=hs
 obtain⟨fp,_,h⟩:=hl.get hi
 exact h.1
theorem St.rs(hs:St H0 H σ)(i:Nat){p:Option Addr}{l c k:Nat}{el:TypeId}{fs:List Value}(hi:σ[i]?=some (.sl p l c el k fs)):RS H p l el k fs:=(hs.fs i hi).rs
theorem St.is(hs:St H0 H σ)(i:Nat){p:Option Addr}{l c:Nat}{el:TypeId}{fs:List Value}(hi:σ[i]?=some (.sl p l c el 1 fs)):IS H p l fs:=(hs.rs i hi).is
theorem FS.resrc{n0:Nat}{H:Heap}{p:Option Addr}{l c k:Nat}{el:TypeId}{fs:List Value}(h:FS n0 H p l c el k fs): ∃fp,(Rs.sl p l c el k fs).at_ H fp∧fp.Nodup∧(∀b∈fp,n0≤b)∧ ∀b∈fp,p=some ⟨b,0,none⟩:=by
 rcases h.at_ with ⟨h1,h2⟩|⟨blk,cs,h1,h2,h3,h4,h5⟩
 ·exact⟨[],⟨h.lower (Nat.zero_le _),.inl ⟨h1,rfl⟩⟩,by simp,by simp,by simp⟩
 ·exact⟨[blk],⟨h.lower (Nat.zero_le _),.inr ⟨blk,h1,rfl⟩⟩,by simp,by simpa using h2,by simpa using h1⟩
theorem St.newSl(hs:St H0 H σ){p:Option Addr}{l c k:Nat}{el:TypeId}{fs:List Value}(he:Ext H H')(h:FS H.size H' p l c el k fs):St H0 H' (.sl p l c el k fs::σ):=by
 obtain⟨fp,h1,h2,h3,_⟩:=h.resrc
 exact hs.new he h1 h2 h3
theorem St.nilSl(hs:St H0 H σ)(el:TypeId)(k:Nat):St H0 H (.sl none 0 0 el k []::σ):=hs.newSl (Ext.refl _) (FS.nil _ _ _ _)
theorem St.toSl(hs:St H0 H σ)(i:Nat){b l k:Nat}{cs:Array Value}{ty:TypeId}{fs:List Value}(hi:σ[i]?=some (.cell b cs ty))(hl:cs.size=l*k)(hf:cs.toList=fs)(ho: ∀v∈fs,v.oneCell'=true):
 St H0 H (σ.set i (.sl (some ⟨b,0,none⟩) l l ty k fs)):=
 hs.as i hi fun fp h=>⟨⟨by rw[←hf];simpa using hl,Nat.le_refl _,ho,.inr ⟨b,cs,rfl,Nat.zero_le _,h.2,hl,fun j v hv=>by rw[←hf] at hv;simpa using hv⟩⟩,.inr ⟨b,rfl,h.1⟩⟩
theorem FS.app2{n0:Nat}{H:Heap}{p q:Option Addr}{l c n:Nat}{el:TypeId}{k bytes:Nat}{zero:Array Value}{fs gs:List Value}(h:FS n0 H p l c el k fs)(hrow:Go.Sh.rowOf H q (n*k) gs.toArray)(hgl:gs.length=n*k)(hgo: ∀v∈gs,v.oneCell'=true)(hk:0<k)(hn:n0≤H.size)(hz:zero.size=k)
 (hb:(l+n)*bytes≤70368744177664)(hm:l+n≤1000000000000){K:Option Addr→Nat→Nat→Heap→Prop}
 (hK: ∀p' c' H',FS n0 H' p' (l+n) c' el k (fs++gs)→(∀(b:Nat) (o:Obj),H[b]?=some o→p≠some ⟨b,0,none⟩→H'[b]?=some o)→(p'=p∨p'=some ⟨H.size,0,none⟩)→K p' (l+n) c' H'):appQ k bytes zero H p l c q n el K:=by
 by_cases hle:l+n≤c
 ·obtain⟨g1,g2,xs,g3,g4,_⟩:=h.app' (K:=fun p' l' c' H'=>p'=p→K p' l' c' H') hrow hgl hgo hk hn hz hb hm fun p' c' H' h1 h2 h3 hp=>hK p' c' H' h1 h2 (.inl hp)
  refine⟨g1,g2,xs,g3,fun hle=>?_,fun hlt=>by omega⟩
  have:=g4 hle
  cases p with
  |none=>exact this rfl
  |some a=>
   obtain⟨cs,T,a1,a2,a3,a4,a5⟩:=this
   exact⟨cs,T,a1,a2,a3,a4,a5 rfl⟩
 ·obtain⟨g1,g2,xs,g3,_,g4⟩:=h.app' (K:=fun p' l' c' H'=>p'=some ⟨H.size,0,none⟩→K p' l' c' H') hrow hgl hgo hk hn hz hb hm fun p' c' H' h1 h2 h3 hp=>hK p' c' H' h1 h2 (.inr hp)
  refine⟨g1,g2,xs,g3,fun hle'=>by omega,fun hlt=>?_⟩
  obtain⟨ys,b1,b2⟩:=g4 hlt
  exact⟨ys,b1,fun c' hc'=>b2 c' hc' rfl⟩
theorem Rs.sl_at{H:Heap}{p:Option Addr}{l c k:Nat}{el:TypeId}{fs:List Value}{fp:List Nat}(h:(Rs.sl p l c el k fs).at_ H fp){b:Nat}(hp:p=some ⟨b,0,none⟩):fp=[b]:=by
 rcases h.2 with ⟨h1,_⟩|⟨blk,h1,h2⟩
 ·rw[hp] at h1;cases h1
 ·rw[hp] at h1;cases h1;exact h2
theorem St.slSet(hs:St H0 H σ){i:Nat}{p p':Option Addr}{l c l' c' k:Nat}{el:TypeId}{fs fs':List Value}(hi:σ[i]?=some (.sl p l c el k fs))(h:FS 0 H' p' l' c' el k fs')
 (hk: ∀(b:Nat) (o:Obj),H[b]?=some o→p≠some ⟨b,0,none⟩→H'[b]?=some o)(hp:p'=p∨p'=some ⟨H.size,0,none⟩):St H0 H' (σ.set i (.sl p' l' c' el k fs')):=by
 refine hs.upd hi fun fp h1 h2 h3=>?_
 obtain⟨fp',g1,g2,_,g4⟩:=h.resrc
 refine⟨fp',g1,g2,fun b hb=>?_,fun b o ho hb=>hk b o ho fun he=>hb (by rw[Rs.sl_at h1 he];exact List.mem_singleton.2 rfl)⟩
 have:=g4 b hb
 rcases hp with rfl|hp
 ·left;rw[Rs.sl_at h1 this];exact List.mem_singleton.2 rfl
 ·rw[this] at hp;cases hp;exact .inr (Nat.le_refl _)
theorem St.appS(hs:St H0 H σ)(i:Nat){p q:Option Addr}{l c n k bytes:Nat}{el:TypeId}{zero:Array Value}{fs gs:List Value}(hi:σ[i]?=some (.sl p l c el k fs))(hrow:Go.Sh.rowOf H q (n*k) gs.toArray)(hgl:gs.length=n*k)
 (hgo: ∀v∈gs,v.oneCell'=true)(hk:0<k)(hz:zero.size=k)(hb:(l+n)*bytes≤70368744177664)(hm:l+n≤1000000000000){K:Option Addr→Nat→Nat→Heap→Prop}
 (hK: ∀p' c' H',St H0 H' (σ.set i (.sl p' (l+n) c' el k (fs++gs)))→K p' (l+n) c' H'):appQ k bytes zero H p l c q n el K:=
 (hs.fs i hi).app2 hrow hgl hgo hk (Nat.zero_le _) hz hb hm fun p' c' H' h1 h2 h3=>hK p' c' H' (hs.slSet hi h1 h2 h3)
theorem St.appC(hs:St H0 H σ)(i m:Nat){p:Option Addr}{b l c n k bytes:Nat}{el ty:TypeId}{zero cs:Array Value}{fs:List Value}(hi:σ[i]?=some (.sl p l c el k fs))(hm':σ[m]?=some (.cell b cs ty))(hgl:cs.size=n*k)
 (hgo: ∀v∈cs.toList,v.oneCell'=true)(hk:0<k)(hz:zero.size=k)(hb:(l+n)*bytes≤70368744177664)(hm:l+n≤1000000000000){K:Option Addr→Nat→Nat→Heap→Prop}
 (hK: ∀p' c' H',St H0 H' (σ.set i (.sl p' (l+n) c' el k (fs++cs.toList)))→K p' (l+n) c' H'):appQ k bytes zero H p l c (some ⟨b,0,none⟩) n el K:=
 hs.appS i hi (gs:=cs.toList) (show Go.Sh.rowOf H (Option.some ⟨b,0,none⟩) (n*k) cs.toList.toArray from⟨by simpa using hgl,by simpa using rowIn_whole (hs.block m hm')⟩) (by simpa using hgl) hgo hk hz hb hm hK
theorem IS.rowOf{H:Heap}{p:Option Addr}{l:Nat}{fs:List Value}(h:IS H p l fs):Go.Sh.rowOf H p (l*1) fs.toArray:=by
 cases p with
 |none=>
  have:fs=[]:=List.eq_nil_iff_forall_not_mem.2 fun v hv=>by
   obtain⟨i,hi⟩:=List.getElem?_of_mem hv
   obtain⟨a,h1,_⟩:=h.get i v hi
   cases h1
  subst this;rfl
 |some a=>
  refine⟨by simp[h.len],fun j v hv=>?_⟩
  obtain⟨a',h1,h2⟩:=h.get j v (by simpa using hv)
  cases h1;exact h2
theorem St.appI(hs:St H0 H σ)(i:Nat){p q:Option Addr}{l c n bytes:Nat}{el:TypeId}{zero:Array Value}{fs gs:List Value}(hi:σ[i]?=some (.sl p l c el 1 fs))(hr:IS H q n gs)(ho: ∀v∈gs,v.oneCell'=true)(hz:zero.size=1)
 (hb:(l+n)*bytes≤70368744177664)(hm:l+n≤1000000000000){K:Option Addr→Nat→Nat→Heap→Prop}
 (hK: ∀p' c' H',St H0 H' (σ.set i (.sl p' (l+n) c' el 1 (fs++gs)))→K p' (l+n) c' H'):appQ 1 bytes zero H p l c q n el K:=
 hs.appS i hi hr.rowOf (by simp[hr.len]) ho (by decide) hz hb hm hK
theorem St.slPut(hs:St H0 H σ)(i:Nat){b l c k j:Nat}{el:TypeId}{fs:List Value}{v:Value}{f:Heap→Prop}(hi:σ[i]?=some (.sl (some ⟨b,0,none⟩) l c el k fs))(hj:j<fs.length)(ho:v.oneCell'=true)
 (hK: ∀H',St H0 H' (σ.set i (.sl (some ⟨b,0,none⟩) l c el k (fs.set j v)))→f H'):stAt H ⟨b,j,none⟩ [v] f:=
 (hs.fs i hi).set hj ho fun H' h1 h2 h3=>hK H' (hs.slSet hi h1 (fun b' o ho hne=>h2 b' o ho fun he=>hne (by rw[he])) (.inl rfl))
theorem St.slSome(hs:St H0 H σ)(i:Nat){p:Option Addr}{l c k j:Nat}{el:TypeId}{fs:List Value}(hi:σ[i]?=some (.sl p l c el k fs))(hj:j<fs.length): ∃b,p=some ⟨b,0,none⟩:=by
 obtain⟨b,h,_⟩:=(hs.rs i hi).cell (List.getElem?_eq_getElem hj)
 exact⟨b,h⟩
def kints(k:IntKind)(l:List Int):List Value:=l.map (Value.int k)
theorem kints_get{k:IntKind}{l:List Int}{i:Nat}{v:Int}(h:l[i]?=some v):(kints k l)[i]?=some (Value.int k v):=by simp[kints,h]
theorem kints_len(k:IntKind)(l:List Int):(kints k l).length=l.length:=by simp[kints]
theorem kints_append(k:IntKind)(a b:List Int):kints k (a++b)=kints k a++kints k b:=by simp[kints]
theorem kints_set(k:IntKind)(l:List Int)(i:Nat)(v:Int):(kints k l).set i (.int k v)=kints k (l.set i v):=by simp[kints]
theorem kints_one(k:IntKind)(l:List Int): ∀v∈kints k l,v.oneCell'=true:=fun v hv=>by
 obtain⟨x,_,rfl⟩:=List.mem_map.1 hv;rfl
theorem IS.rd{H:Heap}{p:Option Addr}{l:Nat}{k:IntKind}{ls:List Int}(h:IS H p l (kints k ls)){i x:Int}(h0:0≤i)(h1:i<l)(hx:ls[i.toNat]?=some x){K:Int→Prop}(hK:K x):
 ∃a:Addr,p=some a∧0≤i∧i<((l:Nat):Int)∧ ∃v:Int,Sh.cell H (Addr.add a (Int.toNat i*1))=some (.int k v)∧K v:=by
 obtain⟨a,hp,hc⟩:=h.get _ _ (kints_get hx)
 exact⟨a,hp,h0,h1,x,by simpa using hc,hK⟩
theorem IS.length{H:Heap}{p:Option Addr}{l:Nat}{k:IntKind}{ls:List Int}(h:IS H p l (kints k ls)):ls.length=l:=by have:=h.len;rwa [kints_len] at this
theorem add_add(a:Addr)(i j:Nat):(a.add i).add j=a.add (i+j):=by
 obtain⟨b,o,s⟩:=a
 unfold Addr.add
 cases s<;>simp<;>split<;>split<;>simp_all<;>omega
theorem IS.part{H:Heap}{a:Addr}{l:Nat}{fs:List Value}(h:IS H (some a) l fs){i n:Nat}(hi:i+n≤l):IS H (some (a.add i)) n ((fs.drop i).take n):=by
 refine⟨by have:=h.len;simp;omega,fun j v hv=>?_⟩
 rw[List.getElem?_take] at hv
 split at hv
 ·rw[List.getElem?_drop] at hv
  obtain⟨a',h1,h2⟩:=h.get _ _ hv
  cases h1
  refine⟨_,rfl,?_⟩
  rw[show(a.add i).add j=a.add (i+j) from add_add a i j]
  exact h2
 ·cases hv
theorem upto{n:Nat}{Q:Nat→Prop}(h: ∀i,i≤n→(i<n→Q (i+1))→Q i): ∀i,i≤n→Q i:=by
 have: ∀m i,n-i=m→i≤n→Q i:=by
  intro m
  induction m with
  |zero=>intro i hm hi;exact h i hi fun hlt=>by omega
  |succ m ih=>intro i hm hi;exact h i hi fun hlt=>ih (i+1) (by omega) (by omega)
 exact fun i hi=>this (n-i) i rfl hi
end Go.Sh
namespace Go.Sh
variable {H0 H:Heap} {σ:List Rs}
theorem zeroA(n:Nat):Array.replicate n (Value.int .i64 0)=(ints (List.replicate n 0)).toArray:=by simp[ints]
theorem intsA_size(l:List Int):(ints l).toArray.size=l.length:=by simp[ints]
theorem oneV{v:Value}(h:v.oneCell'=true): ∀u∈[v],u.oneCell'=true:=fun u hu=>by rw[List.mem_singleton.1 hu];exact h
theorem St.rdA(hs:St H0 H σ)(i:Nat){b j:Nat}{l:List Int}{ty:TypeId}{x:Int}(hi:σ[i]?=some (.cell b (ints l).toArray ty))(hx:l[j]?=some x):Sh.cell H ⟨b,j,none⟩=some (.int .i64 x):=
 hs.get i hi (by rw[List.getElem?_toArray];exact ints_get hx)
theorem St.putA(hs:St H0 H σ)(i:Nat){b j:Nat}{l:List Int}{ty:TypeId}{x:Int}{f:Heap→Prop}(hi:σ[i]?=some (.cell b (ints l).toArray ty))(hj:j<l.length)
 (hK: ∀H',St H0 H' (σ.set i (.cell b (ints (l.set j x)).toArray ty))→f H'):stAt H ⟨b,j,none⟩ [.int .i64 x] f:=
 hs.put i hi (by rw[intsA_size];exact hj) rfl fun H' hs'=>hK H' (by
  have e:(ints l).toArray.setIfInBounds j (Value.int .i64 x)=(ints (l.set j x)).toArray:=by rw[←ints_set];simp
  rw[←e];exact hs')
theorem St.putAllA(hs:St H0 H σ)(i:Nat){b:Nat}{cs:Array Value}{l:List Int}{ty:TypeId}{f:Heap→Prop}(hi:σ[i]?=some (.cell b cs ty))(hl:l.length=cs.size)
 (hK: ∀H',St H0 H' (σ.set i (.cell b (ints l).toArray ty))→f H'):stAt H ⟨b,0,none⟩ (Array.toList (ints l).toArray) f:=
 hs.putAll i hi (by simpa[ints] using hl) (fun v hv=>ints_one l v (by simpa using hv)) fun H' hs'=>hK H' (by simpa using hs')
theorem reps_rep(v:Value): ∀n,reps n [v]=List.replicate n v
 |0=>rfl
 |n+1=>by rw[reps,reps_rep v n,List.replicate_succ];rfl
theorem repsA(n:Nat):(reps n (Array.toList #[Value.int .i64 0])).toArray=(ints (List.replicate n 0)).toArray:=by
 show(reps n [Value.int .i64 0]).toArray=_
 rw[reps_rep];simp[ints]
theorem St.isA(hs:St H0 H σ)(i:Nat){b n:Nat}{l:List Int}{ty:TypeId}(hi:σ[i]?=some (.cell b (ints l).toArray ty))(hn:l.length=n):IS H (some ⟨b,0,none⟩) n (ints l):=
 ⟨by rw[ints_len];exact hn,fun j v hv=>⟨_,rfl,by rw[add_none,Nat.zero_add];exact hs.get i hi (by rw[List.getElem?_toArray];exact hv)⟩⟩
theorem St.rowA(hs:St H0 H σ)(i:Nat){b j n:Nat}{l xs:List Int}{ty:TypeId}(hi:σ[i]?=some (.cell b (ints l).toArray ty))(hx:xs=(l.drop j).take n)(hn:j+n≤l.length):rowOf H (some ⟨b,j,none⟩) n (ints xs).toArray:=by
 subst hx
 refine⟨by rw[intsA_size];simp;omega,fun k v hv=>?_⟩
 rw[add_none]
 rw[List.getElem?_toArray] at hv
 have hk:=(List.getElem?_eq_some_iff.1 hv).1
 rw[ints_len,List.length_take,List.length_drop] at hk
 refine hs.get i hi ?_
 rw[List.getElem?_toArray]
 simp only[ints,List.getElem?_map] at hv ⊢
 rw[List.getElem?_take_of_lt (by omega),List.getElem?_drop] at hv
 exact hv
theorem St.putRowA(hs:St H0 H σ)(i:Nat){b j:Nat}{l xs:List Int}{ty:TypeId}{f:Heap→Prop}(hi:σ[i]?=some (.cell b (ints l).toArray ty))(hj:j+xs.length≤l.length)
 (hK: ∀H',St H0 H' (σ.set i (.cell b (ints (l.take j++xs++l.drop (j+xs.length))).toArray ty))→f H'):stAt H ⟨b,j,none⟩ (Array.toList (ints xs).toArray) f:=
 hs.putRow i hi (by rw[intsA_size];simp only[ints_len];exact hj) (fun v hv=>ints_one xs v (by simpa using hv)) fun H' hs'=>hK H' (by
  have e:setL (ints l).toArray.toList j (Array.toList (ints xs).toArray)=ints (l.take j++xs++l.drop (j+xs.length)):=by simp[setL,ints]
  rw[e] at hs';exact hs')
theorem getD_some{α:Type}(a:List α)(d:α){i:Nat}(h:i<a.length):a[i]?=some (a.getD i d):=by rw[List.getD_eq_getElem?_getD,List.getElem?_eq_getElem h];rfl
def fillA(L:List Int)(s:Nat):List Int:=L.take s++List.replicate (L.length-s) 0
theorem fillA_len{L:List Int}{s:Nat}(h:s≤L.length):(fillA L s).length=L.length:=by unfold fillA;simp;omega
theorem fillA_zero(L:List Int):fillA L 0=List.replicate L.length 0:=by simp[fillA]
theorem fillA_all(L:List Int):fillA L L.length=L:=by simp[fillA]
theorem fillA_set{L:List Int}{s:Nat}(h:s<L.length):(fillA L s).set s (L.getD s 0)=fillA L (s+1):=by
 unfold fillA
 have ht:L.take (s+1)=L.take s++[L.getD s 0]:=by rw[List.take_add_one,getD_some L 0 h];rfl
 rw[ht,List.set_append_right _ _ (by rw[List.length_take];omega),List.length_take,Nat.min_eq_left (by omega),Nat.sub_self,show L.length-s=(L.length-(s+1))+1 from by omega,List.replicate_succ,List.set_cons_zero,List.append_assoc]
 rfl
theorem fillA_at{L:List Int}{s:Nat}(h:s<L.length):(fillA L s)[s]?=some 0:=by
 unfold fillA
 rw[List.getElem?_append_right (by rw[List.length_take];omega),List.length_take,Nat.min_eq_left (by omega),Nat.sub_self,show L.length-s=(L.length-(s+1))+1 from by omega,List.replicate_succ]
 rfl
theorem fillA_set0{L:List Int}{s:Nat}(h:s<L.length):(fillA L s).set s 0=fillA L s:=by
 have h1:=fillA_at h
 obtain⟨h2,h3⟩:=List.getElem?_eq_some_iff.1 h1
 rw[←h3,List.set_getElem_self]
theorem tab_getD{n:Nat}{f:Nat→Int}{i:Nat}(h:i<n):((List.range n).map f).getD i 0=f i:=by simp[List.getD_eq_getElem?_getD,h]
theorem tab_get{n:Nat}{f:Nat→Int}{i:Nat}(h:i<n):((List.range n).map f)[i]?=some (f i):=by simp[h]
theorem tab_len(n:Nat)(f:Nat→Int):((List.range n).map f).length=n:=by simp
def sumN:Nat→(Nat→Int)→Int
 |0,_=>0
 |n+1,f=>sumN n f+f n
theorem sumN_bd{f:Nat→Int}{B:Int}(n:Nat)(h: ∀i,i<n→ -B≤f i∧f i≤B): -((n:Int)*B)≤sumN n f∧sumN n f≤(n:Int)*B:=by
 induction n with
 |zero=>simp[sumN]
 |succ n ih=>
  have h1:=ih fun i hi=>h i (by omega)
  have h2:=h n (by omega)
  rw[sumN,show((n+1:Nat):Int)*B=(n:Int)*B+B from by rw[Int.natCast_add,Int.add_mul];simp]
  omega
theorem mul_bd{x y A B:Int}(hx: -A≤x∧x≤A)(hy: -B≤y∧y≤B): -(A*B)≤x*y∧x*y≤A*B:=by
 have h1:x.natAbs≤A.toNat:=by omega
 have h2:y.natAbs≤B.toNat:=by omega
 have h3:=Nat.mul_le_mul h1 h2
 rw[←Int.natAbs_mul] at h3
 have h4:((A.toNat*B.toNat:Nat):Int)=A*B:=by
  rw[Int.natCast_mul,Int.toNat_of_nonneg (by omega),Int.toNat_of_nonneg (by omega)]
 omega
theorem sumN_mul(n:Nat)(f:Nat→Int)(c:Int):sumN n f*c=sumN n fun i=>f i*c:=by
 induction n with
 |zero=>simp[sumN]
 |succ n ih=>rw[sumN,sumN,Int.add_mul,ih]
theorem sumN_congr{n:Nat}{f g:Nat→Int}(h: ∀i,i<n→f i=g i):sumN n f=sumN n g:=by
 induction n with
 |zero=>rfl
 |succ n ih=>rw[sumN,sumN,ih fun i hi=>h i (by omega),h n (by omega)]
theorem sumN_add(m n:Nat)(f:Nat→Int):sumN (m+n) f=sumN m f+sumN n fun i=>f (m+i):=by
 induction n with
 |zero=>simp[sumN]
 |succ n ih=>rw[←Nat.add_assoc,sumN,ih,sumN];omega
theorem sumN_rows(k m:Nat)(f:Nat→Int):sumN (k*m) f=sumN m fun y=>sumN k fun x=>f (k*y+x):=by
 induction m with
 |zero=>rfl
 |succ m ih=>rw[Nat.mul_succ,sumN_add,ih,sumN]
end Go.Sh
