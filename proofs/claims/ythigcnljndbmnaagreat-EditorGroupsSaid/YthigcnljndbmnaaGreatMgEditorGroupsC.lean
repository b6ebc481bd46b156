/-
  OWN WORK. Several texts in one: GFunF, GFunG, GFunH, GFunI, GFunJ, GFun, TileM, TileC, TileN, TileO, TileD, TileE, TileP, TileF.
-/
import Derived.Test.YthigcnljndbmnaaGreatMgEditorGroupsB

set_option linter.unusedVariables false
set_option maxRecDepth 100000
set_option linter.unusedSimpArgs false
namespace Go.Proofs
open Go.Sh Go.Sh.Plan
open Go.IntKind (wrap)
open Int (toNat)
def Tryz.S126(m1:AV)(H:Heap)(R:Kv):Prop:=
 alc H (.cells m1 38) fun b2 H3=>alc H3 (.cells #[.int .i64 0,.int .i64 0,.int .i64 0,.int .i64 0,.int .i64 0,.int .i64 0] 38) fun b4 H5=> ∃v6,v6.size=6∧rowIn H5 ⟨b2,0,none⟩ v6∧Tryz.C 167 #[.agg v6] H5 fun r7 H8=> ∃r9,r7= .bool r9∧br (!r9)
 (#[Value.int .i64 0,Value.int .i64 0,Value.int .i64 0,Value.int .i64 0,Value.int .i64 0,Value.int .i64 0].size=6∧stAt H8 ⟨b4,0,none⟩ (Array.toList #[.int .i64 0,.int .i64 0,.int .i64 0,.int .i64 0,.int .i64 0,.int .i64 0]) fun H10=> ∃re11,re11.size=6∧rowIn H10 ⟨b4,0,none⟩ re11∧R (.tuple #[.agg re11,.int .i64 31]) H10)
 (0≤(0:Int)∧(0:Int)<((6:Nat):Int)∧ ∃v12,cell H8 (.add ⟨b2,0,none⟩ (toNat (0:Int)*1))=some (.int .i64 v12)∧0≤(3:Int)∧(3:Int)<((6:Nat):Int)∧ ∃v13,cell H8 (.add ⟨b2,0,none⟩ (toNat (3:Int)*1))=some (.int .i64 v13)∧0≤(1:Int)∧(1:Int)<((6:Nat):Int)∧ ∃v14,cell H8 (.add ⟨b2,0,none⟩ (toNat (1:Int)*1))=some (.int .i64 v14)∧0≤(2:Int)∧(2:Int)<((6:Nat):Int)∧ ∃v15,cell H8 (.add ⟨b2,0,none⟩ (toNat (2:Int)*1))=some (.int .i64 v15)∧br (((wrap .i64 ((wrap .i64 (v12*v13))-(wrap .i64 (v14*v15)))):Int)==0) (#[Value.int .i64 0,Value.int .i64 0,Value.int .i64 0,Value.int .i64 0,Value.int .i64 0,Value.int .i64 0].size=6∧stAt H8 ⟨b4,0,none⟩ (Array.toList #[.int .i64 0,.int .i64 0,.int .i64 0,.int .i64 0,.int .i64 0,.int .i64 0]) fun H16=> ∃re17,re17.size=6∧rowIn H16 ⟨b4,0,none⟩ re17∧R (.tuple #[.agg re17,.int .i64 33]) H16) (∀J18:Kl,(∀(ou19:Addr) H20,(∃v21,v21.size=6∧rowIn H20 ou19 v21∧Tryz.C 167 #[.agg v21] H20 fun r22 H23=> ∃r24,r22= .bool r24∧br (!r24) (#[Value.int .i64 0,Value.int .i64 0,Value.int .i64 0,Value.int .i64 0,Value.int .i64 0,Value.int .i64 0].size=6∧stAt H23 ⟨b4,0,none⟩ (Array.toList #[.int .i64 0,.int .i64 0,.int .i64 0,.int .i64 0,.int .i64 0,.int .i64 0]) fun H25=> ∃re26,re26.size=6∧rowIn H25 ⟨b4,0,none⟩ re26∧R (.tuple #[.agg re26,.int .i64 33]) H25) (0≤(0:Int)∧(0:Int)<((6:Nat):Int)∧ ∃v27,cell H23 (.add ou19 (toNat (0:Int)*1))=some (.int .i64 v27)∧0≤(4:Int)∧(4:Int)<((6:Nat):Int)∧ ∃v28,cell H23 (.add ⟨b2,0,none⟩ (toNat (4:Int)*1))=some (.int .i64 v28)∧0≤(1:Int)∧(1:Int)<((6:Nat):Int)∧ ∃v29,cell H23 (.add ou19 (toNat (1:Int)*1))=some (.int .i64 v29)∧0≤(5:Int)∧(5:Int)<((6:Nat):Int)∧ ∃v30,cell H23 (.add ⟨b2,0,none⟩ (toNat (5:Int)*1))=some (.int .i64 v30)∧Tryz.C 169 #[.int .i64 (wrap .i64 (0-(wrap .i64 ((wrap .i64 (v27*v28))+(wrap .i64 (v29*v30))))))] H23 fun r31 H32=> ∃r33,r31= .int .i64 r33∧0≤(4:Int)∧(4:Int)<((6:Nat):Int)∧stAt H32 (.add ou19 (toNat (4:Int)*1)) [.int .i64 r33] fun H34=>0≤(2:Int)∧(2:Int)<((6:Nat):Int)∧ ∃v35,cell H34 (.add ou19 (toNat (2:Int)*1))=some (.int .i64 v35)∧0≤(4:Int)∧(4:Int)<((6:Nat):Int)∧ ∃v36,cell H34 (.add ⟨b2,0,none⟩ (toNat (4:Int)*1))=some (.int .i64 v36)∧0≤(3:Int)∧(3:Int)<((6:Nat):Int)∧ ∃v37,cell H34 (.add ou19 (toNat (3:Int)*1))=some (.int .i64 v37)∧0≤(5:Int)∧(5:Int)<((6:Nat):Int)∧ ∃v38,cell H34 (.add ⟨b2,0,none⟩ (toNat (5:Int)*1))=some (.int .i64 v38)∧Tryz.C 169 #[.int .i64 (wrap .i64 (0-(wrap .i64 ((wrap .i64 (v35*v36))+(wrap .i64 (v37*v38))))))] H34 fun r39 H40=> ∃r41,r39= .int .i64 r41∧0≤(5:Int)∧(5:Int)<((6:Nat):Int)∧stAt H40 (.add ou19 (toNat (5:Int)*1)) [.int .i64 r41] fun H42=> ∃v43,v43.size=6∧rowIn H42 ou19 v43∧Tryz.C 167 #[.agg v43] H42 fun r44 H45=> ∃r46,r44= .bool r46∧br (!r46) (#[Value.int .i64 0,Value.int .i64 0,Value.int .i64 0,Value.int .i64 0,Value.int .i64 0,Value.int .i64 0].size=6∧stAt H45 ⟨b4,0,none⟩ (Array.toList #[.int .i64 0,.int .i64 0,.int .i64 0,.int .i64 0,.int .i64 0,.int .i64 0]) fun H47=> ∃re48,re48.size=6∧rowIn H47 ⟨b4,0,none⟩ re48∧R (.tuple #[.agg re48,.int .i64 33]) H47) (∃v49,v49.size=6∧rowIn H45 ou19 v49∧v49.size=6∧stAt H45 ⟨b4,0,none⟩ v49.toList fun H50=> ∃re51,re51.size=6∧rowIn H50 ⟨b4,0,none⟩ re51∧R (.tuple #[.agg re51,.int .i64 0]) H50)))→J18 [.pointer (some ou19)] H20)→0≤(3:Int)∧(3:Int)<((6:Nat):Int)∧ ∃v52,cell H8 (.add ⟨b2,0,none⟩ (toNat (3:Int)*1))=some (.int .i64 v52)∧0≤(32:Int)∧0≤(1:Int)∧(1:Int)<((6:Nat):Int)∧ ∃v53,cell H8 (.add ⟨b2,0,none⟩ (toNat (1:Int)*1))=some (.int .i64 v53)∧0≤(32:Int)∧0≤(2:Int)∧(2:Int)<((6:Nat):Int)∧ ∃v54,cell H8 (.add ⟨b2,0,none⟩ (toNat (2:Int)*1))=some (.int .i64 v54)∧0≤(32:Int)∧0≤(0:Int)∧(0:Int)<((6:Nat):Int)∧ ∃v55,cell H8 (.add ⟨b2,0,none⟩ (toNat (0:Int)*1))=some (.int .i64 v55)∧0≤(32:Int)∧(Tryz.C 168 #[.int .i64 (shlI .i64 v52 32),.int .i64 (wrap .i64 ((wrap .i64 (v12*v13))-(wrap .i64 (v14*v15))))] H8 fun r56 H57=> ∃r58,r56= .int .i64 r58∧(Ext H8 H57∨(∃v111,cell H57 (.add ⟨b2,0,none⟩ (toNat (0:Int)*1))=some (.int .i64 v111)∧Value.int .i64 v111= .int .i64 v55)∧(∃v112,cell H57 (.add ⟨b2,0,none⟩ (toNat (2:Int)*1))=some (.int .i64 v112)∧Value.int .i64 v112= .int .i64 v54)∧(∃v113,cell H57 (.add ⟨b2,0,none⟩ (toNat (1:Int)*1))=some (.int .i64 v113)∧Value.int .i64 v113= .int .i64 v53))∧(Tryz.C 168 #[.int .i64 (shlI .i64 (wrap .i64 (0-v53)) 32),.int .i64 (wrap .i64 ((wrap .i64 (v12*v13))-(wrap .i64 (v14*v15))))] H57 fun r59 H60=> ∃r61,r59= .int .i64 r61∧(Ext H57 H60∨(∃v91,cell H60 (.add ⟨b2,0,none⟩ (toNat (0:Int)*1))=some (.int .i64 v91)∧Value.int .i64 v91= .int .i64 v55)∧(∃v92,cell H60 (.add ⟨b2,0,none⟩ (toNat (2:Int)*1))=some (.int .i64 v92)∧Value.int .i64 v92= .int .i64 v54))∧(Tryz.C 168 #[.int .i64 (shlI .i64 (wrap .i64 (0-v54)) 32),.int .i64 (wrap .i64 ((wrap .i64 (v12*v13))-(wrap .i64 (v14*v15))))] H60 fun r62 H63=> ∃r64,r62= .int .i64 r64∧(Ext H60 H63∨(∃v78,cell H63 (.add ⟨b2,0,none⟩ (toNat (0:Int)*1))=some (.int .i64 v78)∧Value.int .i64 v78= .int .i64 v55))∧(Tryz.C 168 #[.int .i64 (shlI .i64 v55 32),.int .i64 (wrap .i64 ((wrap .i64 (v12*v13))-(wrap .i64 (v14*v15))))] H63 fun r65 H66=> ∃r67,r65= .int .i64 r67∧alc H66 (.cells #[.int .i64 0,.int .i64 0,.int .i64 0,.int .i64 0,.int .i64 0,.int .i64 0] 38) fun b68 H69=>#[Value.int .i64 r58,Value.int .i64 r61,Value.int .i64 r64,Value.int .i64 r67,Value.int .i64 0,Value.int .i64 0].size=6∧stAt H69 ⟨b68,0,none⟩ (Array.toList #[.int .i64 r58,.int .i64 r61,.int .i64 r64,.int .i64 r67,.int .i64 0,.int .i64 0]) fun H70=>J18 [.pointer (some ⟨b68,0,none⟩)] H70)∧(alc H63 (.cells #[.int .i64 0,.int .i64 0,.int .i64 0,.int .i64 0,.int .i64 0,.int .i64 0] 38) fun b71 H72=>(Ext H63 H72∨(∃v77,cell H72 (.add ⟨b2,0,none⟩ (toNat (0:Int)*1))=some (.int .i64 v77)∧Value.int .i64 v77= .int .i64 v55))∧Tryz.C 168 #[.int .i64 (shlI .i64 v55 32),.int .i64 (wrap .i64 ((wrap .i64 (v12*v13))-(wrap .i64 (v14*v15))))] H72 fun r73 H74=> ∃r75,r73= .int .i64 r75∧#[Value.int .i64 r58,Value.int .i64 r61,Value.int .i64 r64,Value.int .i64 r75,Value.int .i64 0,Value.int .i64 0].size=6∧stAt H74 ⟨b71,0,none⟩ (Array.toList #[.int .i64 r58,.int .i64 r61,.int .i64 r64,.int .i64 r75,.int .i64 0,.int .i64 0]) fun H76=>J18 [.pointer (some ⟨b71,0,none⟩)] H76))∧(alc H60 (.cells #[.int .i64 0,.int .i64 0,.int .i64 0,.int .i64 0,.int .i64 0,.int .i64 0] 38) fun b79 H80=>(Ext H60 H80∨(∃v89,cell H80 (.add ⟨b2,0,none⟩ (toNat (0:Int)*1))=some (.int .i64 v89)∧Value.int .i64 v89= .int .i64 v55)∧(∃v90,cell H80 (.add ⟨b2,0,none⟩ (toNat (2:Int)*1))=some (.int .i64 v90)∧Value.int .i64 v90= .int .i64 v54))∧Tryz.C 168 #[.int .i64 (shlI .i64 (wrap .i64 (0-v54)) 32),.int .i64 (wrap .i64 ((wrap .i64 (v12*v13))-(wrap .i64 (v14*v15))))] H80 fun r81 H82=> ∃r83,r81= .int .i64 r83∧(Ext H80 H82∨(∃v88,cell H82 (.add ⟨b2,0,none⟩ (toNat (0:Int)*1))=some (.int .i64 v88)∧Value.int .i64 v88= .int .i64 v55))∧Tryz.C 168 #[.int .i64 (shlI .i64 v55 32),.int .i64 (wrap .i64 ((wrap .i64 (v12*v13))-(wrap .i64 (v14*v15))))] H82 fun r84 H85=> ∃r86,r84= .int .i64 r86∧#[Value.int .i64 r58,Value.int .i64 r61,Value.int .i64 r83,Value.int .i64 r86,Value.int .i64 0,Value.int .i64 0].size=6∧stAt H85 ⟨b79,0,none⟩ (Array.toList #[.int .i64 r58,.int .i64 r61,.int .i64 r83,.int .i64 r86,.int .i64 0,.int .i64 0]) fun H87=>J18 [.pointer (some ⟨b79,0,none⟩)] H87))∧(alc H57 (.cells #[.int .i64 0,.int .i64 0,.int .i64 0,.int .i64 0,.int .i64 0,.int .i64 0] 38) fun b93 H94=>(Ext H57 H94∨(∃v108,cell H94 (.add ⟨b2,0,none⟩ (toNat (0:Int)*1))=some (.int .i64 v108)∧Value.int .i64 v108= .int .i64 v55)∧(∃v109,cell H94 (.add ⟨b2,0,none⟩ (toNat (2:Int)*1))=some (.int .i64 v109)∧Value.int .i64 v109= .int .i64 v54)∧(∃v110,cell H94 (.add ⟨b2,0,none⟩ (toNat (1:Int)*1))=some (.int .i64 v110)∧Value.int .i64 v110= .int .i64 v53))∧Tryz.C 168 #[.int .i64 (shlI .i64 (wrap .i64 (0-v53)) 32),.int .i64 (wrap .i64 ((wrap .i64 (v12*v13))-(wrap .i64 (v14*v15))))] H94 fun r95 H96=> ∃r97,r95= .int .i64 r97∧(Ext H94 H96∨(∃v106,cell H96 (.add ⟨b2,0,none⟩ (toNat (0:Int)*1))=some (.int .i64 v106)∧Value.int .i64 v106= .int .i64 v55)∧(∃v107,cell H96 (.add ⟨b2,0,none⟩ (toNat (2:Int)*1))=some (.int .i64 v107)∧Value.int .i64 v107= .int .i64 v54))∧Tryz.C 168 #[.int .i64 (shlI .i64 (wrap .i64 (0-v54)) 32),.int .i64 (wrap .i64 ((wrap .i64 (v12*v13))-(wrap .i64 (v14*v15))))] H96 fun r98 H99=> ∃r100,r98= .int .i64 r100∧(Ext H96 H99∨(∃v105,cell H99 (.add ⟨b2,0,none⟩ (toNat (0:Int)*1))=some (.int .i64 v105)∧Value.int .i64 v105= .int .i64 v55))∧Tryz.C 168 #[.int .i64 (shlI .i64 v55 32),.int .i64 (wrap .i64 ((wrap .i64 (v12*v13))-(wrap .i64 (v14*v15))))] H99 fun r101 H102=> ∃r103,r101= .int .i64 r103∧#[Value.int .i64 r58,Value.int .i64 r97,Value.int .i64 r100,Value.int .i64 r103,Value.int .i64 0,Value.int .i64 0].size=6∧stAt H102 ⟨b93,0,none⟩ (Array.toList #[.int .i64 r58,.int .i64 r97,.int .i64 r100,.int .i64 r103,.int .i64 0,.int .i64 0]) fun H104=>J18 [.pointer (some ⟨b93,0,none⟩)] H104))∧(alc H8 (.cells #[.int .i64 0,.int .i64 0,.int .i64 0,.int .i64 0,.int .i64 0,.int .i64 0] 38) fun b114 H115=>(Ext H8 H115∨(∃v135,cell H115 (.add ⟨b2,0,none⟩ (toNat (0:Int)*1))=some (.int .i64 v135)∧Value.int .i64 v135= .int .i64 v55)∧(∃v136,cell H115 (.add ⟨b2,0,none⟩ (toNat (2:Int)*1))=some (.int .i64 v136)∧Value.int .i64 v136= .int .i64 v54)∧(∃v137,cell H115 (.add ⟨b2,0,none⟩ (toNat (1:Int)*1))=some (.int .i64 v137)∧Value.int .i64 v137= .int .i64 v53)∧(∃v138,cell H115 (.add ⟨b2,0,none⟩ (toNat (3:Int)*1))=some (.int .i64 v138)∧Value.int .i64 v138= .int .i64 v52))∧Tryz.C 168 #[.int .i64 (shlI .i64 v52 32),.int .i64 (wrap .i64 ((wrap .i64 (v12*v13))-(wrap .i64 (v14*v15))))] H115 fun r116 H117=> ∃r118,r116= .int .i64 r118∧(Ext H115 H117∨(∃v132,cell H117 (.add ⟨b2,0,none⟩ (toNat (0:Int)*1))=some (.int .i64 v132)∧Value.int .i64 v132= .int .i64 v55)∧(∃v133,cell H117 (.add ⟨b2,0,none⟩ (toNat (2:Int)*1))=some (.int .i64 v133)∧Value.int .i64 v133= .int .i64 v54)∧(∃v134,cell H117 (.add ⟨b2,0,none⟩ (toNat (1:Int)*1))=some (.int .i64 v134)∧Value.int .i64 v134= .int .i64 v53))∧Tryz.C 168 #[.int .i64 (shlI .i64 (wrap .i64 (0-v53)) 32),.int .i64 (wrap .i64 ((wrap .i64 (v12*v13))-(wrap .i64 (v14*v15))))] H117 fun r119 H120=> ∃r121,r119= .int .i64 r121∧(Ext H117 H120∨(∃v130,cell H120 (.add ⟨b2,0,none⟩ (toNat (0:Int)*1))=some (.int .i64 v130)∧Value.int .i64 v130= .int .i64 v55)∧(∃v131,cell H120 (.add ⟨b2,0,none⟩ (toNat (2:Int)*1))=some (.int .i64 v131)∧Value.int .i64 v131= .int .i64 v54))∧Tryz.C 168 #[.int .i64 (shlI .i64 (wrap .i64 (0-v54)) 32),.int .i64 (wrap .i64 ((wrap .i64 (v12*v13))-(wrap .i64 (v14*v15))))] H120 fun r122 H123=> ∃r124,r122= .int .i64 r124∧(Ext H120 H123∨(∃v129,cell H123 (.add ⟨b2,0,none⟩ (toNat (0:Int)*1))=some (.int .i64 v129)∧Value.int .i64 v129= .int .i64 v55))∧Tryz.C 168 #[.int .i64 (shlI .i64 v55 32),.int .i64 (wrap .i64 ((wrap .i64 (v12*v13))-(wrap .i64 (v14*v15))))] H123 fun r125 H126=> ∃r127,r125= .int .i64 r127∧#[Value.int .i64 r118,Value.int .i64 r121,Value.int .i64 r124,Value.int .i64 r127,Value.int .i64 0,Value.int .i64 0].size=6∧stAt H126 ⟨b114,0,none⟩ (Array.toList #[.int .i64 r118,.int .i64 r121,.int .i64 r124,.int .i64 r127,.int .i64 0,.int .i64 0]) fun H128=>J18 [.pointer (some ⟨b114,0,none⟩)] H128)))
def Tryz.p126:Plan:=(tl (tg (tl (tg (two (join [(5,999999)] [1,2] leaf) (tg (tl (tl (tg (tl leaf))))))))))
theorem Tryz.s126{m1:AV}{H R}(h:Tryz.S126 m1 H R):Tryz.C 126 #[.agg m1] H R:=vcs Tryz.tab_ok Tryz.mixed Tryz.func126 Tryz.cal126 Tryz.p126 h (by kernel_rfl)
def Tryz.S127(ki1:Int)(pa2p:OA)(pa2l pa2c:Nat)(H:Heap)(R:Kv):Prop:=
 Tryz.C 170 #[.int .i64 ki1,.slice pa2p pa2l pa2c] H fun r3 H4=> ∃r5,r3= .bool r5∧br (!r5)
 (R (.tuple #[.slice none 0 0,.bool false]) H4)
 (br (ki1==1) (Tryz.C 171 #[.slice pa2p pa2l pa2c] H4 fun r6 H7=> ∃r8p r8l r8c,r6= .slice r8p r8l r8c∧R (.tuple #[.slice r8p r8l r8c,.bool true]) H7) (0≤(256:Int)∧(256:Int)≤(256:Int)∧((8:Nat):Int)*(256:Int)≤281474976710656∧(256:Int)≤281474976710656∧alc H4 (.cells (List.toArray (reps (toNat 256) (Array.toList #[.int .i64 0]))) 3) fun b9 H10=> ∀X11:Kl,(∀(v12:Int) H13,(br (decide (v12<(((toNat 256):Nat):Int))) (∀J14:Kl,(∀H15,(X11 [.int .i64 (wrap .i64 (v12+1))] H15)→J14 [] H15)→br (ki1==0) (∃a16,pa2p=some a16∧0≤(1:Int)∧(1:Int)<(pa2l:Int)∧ ∃v17,cell H13 (.add a16 (toNat (1:Int)*1))=some (.int .i64 v17)∧ ∃a18,pa2p=some a18∧0≤(0:Int)∧(0:Int)<(pa2l:Int)∧ ∃v19,cell H13 (.add a18 (toNat (0:Int)*1))=some (.int .i64 v19)∧ ∃a20,pa2p=some a20∧0≤(0:Int)∧(0:Int)<(pa2l:Int)∧ ∃v21,cell H13 (.add a20 (toNat (0:Int)*1))=some (.int .i64 v21)∧(2:Int)≠0∧(wrap .i64 (v17-v19))≠0∧ ∃a22,(some ⟨b9,0,none⟩)=some a22∧0≤v12∧v12<(((toNat 256):Nat):Int)∧stAt H13 (.add a22 (toNat v12*1)) [.int .i64 (min 255 (wrap .i64 (Int.tdiv (wrap .i64 ((wrap .i64 ((255:Int)*(max 0 (wrap .i64 (v12-v21)))))+(wrap .i64 (Int.tdiv (wrap .i64 (v17-v19)) 2)))) (wrap .i64 (v17-v19)))))] fun H23=>J14 [] H23) (br (ki1==2) (∃a24,(some ⟨b9,0,none⟩)=some a24∧0≤v12∧v12<(((toNat 256):Nat):Int)∧stAt H13 (.add a24 (toNat v12*1)) [.int .i64 (wrap .i64 ((255:Int)-v12))] fun H25=>J14 [] H25) (br (ki1==3) (∃a26,pa2p=some a26∧0≤(0:Int)∧(0:Int)<(pa2l:Int)∧ ∃v27,cell H13 (.add a26 (toNat (0:Int)*1))=some (.int .i64 v27)∧br (decide (v12≥v27)) (∃a28,(some ⟨b9,0,none⟩)=some a28∧0≤v12∧v12<(((toNat 256):Nat):Int)∧stAt H13 (.add a28 (toNat v12*1)) [.int .i64 255] fun H29=>J14 [] H29) (J14 [] H13)) (J14 [] H13)))) (R (.tuple #[.slice (some ⟨b9,0,none⟩) (toNat 256) (toNat 256),.bool true]) H13))→X11 [.int .i64 v12] H13)→X11 [.int .i64 0] H10))
def Tryz.p127:Plan:=(tl (tg (tg (tl (two (tl (one (loop [(20,3)] [0,1,6,19] (tl (two (tl leaf) (two (join [] [0,1,6,19,20] (one (tl (tl (one (tl (two (tl leaf) (tl (tl (tl (two (tl (tl leaf)) leaf))))))))))) leaf)))))) (tl leaf))))))
theorem Tryz.s127{ki1:Int}{pa2p:OA}{pa2l pa2c:Nat}{H R}(h:Tryz.S127 ki1 pa2p pa2l pa2c H R):Tryz.C 127 #[.int .i64 ki1,.slice pa2p pa2l pa2c] H R:=vcs Tryz.tab_ok Tryz.mixed Tryz.func127 Tryz.cal127 Tryz.p127 h (by kernel_rfl)
def Tryz.S128(s1p:OA)(s1l s1c:Nat)(H:Heap)(R:Kv):Prop:=
 br (Option.isNone s1p)
 (R (.slice none 0 0) H)
 (alc H (.cells #[] 3) fun b2 H3=>appQ 1 8 #[.int .i64 0] H3 (some ⟨b2,0,none⟩) 0 0 s1p s1l 3 fun ap4p ap4l ap4c H5=>R (.slice ap4p ap4l ap4c) H5)
def Tryz.p128:Plan:=(tl (tg (tl leaf)))
theorem Tryz.s128{s1p:OA}{s1l s1c:Nat}{H R}(h:Tryz.S128 s1p s1l s1c H R):Tryz.C 128 #[.slice s1p s1l s1c] H R:=vcs Tryz.tab_ok Tryz.mixed Tryz.func128 Tryz.cal128 Tryz.p128 h (by kernel_rfl)
def Tryz.S129(p1:OA)(x2 y3:Int)(H:Heap)(R:Kv):Prop:=
 br (decide (x2≥0)) (∃a4,p1=some a4∧ ∃w5,cell H (.add a4 1)=some (.int .i64 w5)∧br (decide (x2<w5)) (br (decide (y3≥0)) (∃a6,p1=some a6∧ ∃h7,cell H (.add a6 2)=some (.int .i64 h7)∧R (.bool (decide (y3<h7))) H) (R (.bool false) H)) (R (.bool false) H)) (R (.bool false) H)
def Tryz.p129:Plan:=(tl (tl leaf))
theorem Tryz.s129{p1:OA}{x2 y3:Int}{H R}(h:Tryz.S129 p1 x2 y3 H R):Tryz.C 129 #[.pointer p1,.int .i64 x2,.int .i64 y3] H R:=vcs Tryz.tab_ok Tryz.mixed Tryz.func129 Tryz.cal129 Tryz.p129 h (by kernel_rfl)
def Tryz.S130(v1:Int)(H:Heap)(R:Kv):Prop:=
 br (decide (v1≥0)) (R (.bool (decide (v1<4294967296))) H) (R (.bool false) H)
def Tryz.p130:Plan:=(tl (tl leaf))
theorem Tryz.s130{v1:Int}{H R}(h:Tryz.S130 v1 H R):Tryz.C 130 #[.int .i64 v1] H R:=vcs Tryz.tab_ok Tryz.mixed Tryz.func130 Tryz.cal130 Tryz.p130 h (by kernel_rfl)
def Tryz.S131(p1:OA)(x2 y3:Int)(H:Heap)(R:Kv):Prop:=
 Tryz.C 129 #[.pointer p1,.int .i64 x2,.int .i64 y3] H fun r4 H5=> ∃r6,r4= .bool r6∧br (!r6)
 (R (.int .i64 0) H5)
 (Tryz.C 132 #[.int .i64 x2,.int .i64 y3] H5 fun r7 H8=> ∃r9 r10,r7= .tuple #[.agg r9,.int .i64 r10]∧alc H8 (.cells #[.int .i64 0,.int .i64 0] 153) fun b11 H12=>r9.size=2∧stAt H12 ⟨b11,0,none⟩ r9.toList fun H13=> ∃a14,p1=some a14∧ ∃ha15,cell H13 (.add a14 3)=some (.map ha15)∧ ∃v16,v16.size=2∧rowIn H13 ⟨b11,0,none⟩ v16∧ ∃r17,ha15=some r17∧ ∃(es18:Array MapEntry) (c19:Nat),H13[r17]?=some (.map es18 c19)∧kForm (.arr 2 3) (.int .i64) (.agg v16)∧(∀e∈es18.toList,kForm (.arr 2 3) (.int .i64) e.key)∧ ∃b20,lookV (.agg v16) es18.toList (.pointer none)= .pointer b20∧br (!(Option.isNone b20)) (∃a21,b20=some a21∧0≤r10∧r10<((256:Nat):Int)∧ ∃v22,cell H13 (.add (.add a21 0) (toNat r10*1))=some (.int .u32 v22)∧R (.int .i64 (wrap .i64 v22)) H13) (R (.int .i64 0) H13))
def Tryz.p131:Plan:=(tl (tg (tl (two (tl g0) (tl leaf)))))
theorem Tryz.s131{p1:OA}{x2 y3:Int}{H R}(h:Tryz.S131 p1 x2 y3 H R):Tryz.C 131 #[.pointer p1,.int .i64 x2,.int .i64 y3] H R:=vcs Tryz.tab_ok Tryz.mixed Tryz.func131 Tryz.cal131 Tryz.p131 h (by kernel_rfl)
def Tryz.S132(x1 y2:Int)(H:Heap)(R:Kv):Prop:=
 alc H (.cells #[.int .i64 0,.int .i64 0] 153) fun b3 H4=>(16:Int)≠0∧(16:Int)≠0∧(16:Int)≠0∧(16:Int)≠0∧#[Value.int .i64 (wrap .i64 (Int.tdiv x1 16)),Value.int .i64 (wrap .i64 (Int.tdiv y2 16))].size=2∧stAt H4 ⟨b3,0,none⟩ (Array.toList #[.int .i64 (wrap .i64 (Int.tdiv x1 16)),.int .i64 (wrap .i64 (Int.tdiv y2 16))]) fun H5=> ∃re6,re6.size=2∧rowIn H5 ⟨b3,0,none⟩ re6∧R (.tuple #[.agg re6,.int .i64 (wrap .i64 ((wrap .i64 ((Int.tmod y2 16)*16))+(Int.tmod x1 16)))]) H5
def Tryz.p132:Plan:=(tl (tl leaf))
theorem Tryz.s132{x1 y2:Int}{H R}(h:Tryz.S132 x1 y2 H R):Tryz.C 132 #[.int .i64 x1,.int .i64 y2] H R:=vcs Tryz.tab_ok Tryz.mixed Tryz.func132 Tryz.cal132 Tryz.p132 h (by kernel_rfl)
def Tryz.S133(p1:OA)(ke2:AV)(H:Heap)(R:Kv):Prop:=
 alc H (.cells ke2 153) fun b3 H4=> ∃a5,p1=some a5∧ ∃ha6,cell H4 (.add a5 3)=some (.map ha6)∧ ∃v7,v7.size=2∧rowIn H4 ⟨b3,0,none⟩ v7∧ ∃r8,ha6=some r8∧ ∃(es9:Array MapEntry) (c10:Nat),H4[r8]?=some (.map es9 c10)∧kForm (.arr 2 3) (.int .i64) (.agg v7)∧(∀e∈es9.toList,kForm (.arr 2 3) (.int .i64) e.key)∧ ∃b11,lookV (.agg v7) es9.toList (.pointer none)= .pointer b11∧ ∀J12:Kl,(∀H13,(∃a14,p1=some a14∧ ∃a15,cell H13 (.add a14 0)=some (.pointer a15)∧ ∃a16,a15=some a16∧ ∃fr17,cell H13 (.add a16 0)=some (.int .i64 fr17)∧br (fr17==0) (R (.bool false) H13) (∃a18,p1=some a18∧ ∃a19,cell H13 (.add a18 0)=some (.pointer a19)∧ ∃a20,a19=some a20∧ ∃fr21,cell H13 (.add a20 0)=some (.int .i64 fr21)∧ ∃a22,a19=some a22∧stAt H13 (.add a22 0) [.int .i64 (wrap .i64 (fr21-1))] fun H23=>alc H23 (.cells (List.toArray (List.set (Array.toList ((Array.replicate 256 (Value.int .u32 0)++#[Value.int .i64 0]))) 256 (.int .i64 1))) 208) fun b24 H25=> ∀J26:Kl,(∀H27,(∃a28,p1=some a28∧ ∃ha29,cell H27 (.add a28 3)=some (.map ha29)∧ ∃v30,v30.size=2∧rowIn H27 ⟨b3,0,none⟩ v30∧updQ (.arr 2 3) (.int .i64) (.map ha29) (.agg v30) (.pointer (some ⟨b24,0,none⟩)) H27 fun H31=>R (.bool true) H31)→J26 [] H27)→br (!(Option.isNone b11)) (∃a32,b11=some a32∧ ∃pi33,pi33.size=256∧rowIn H25 (.add a32 0) pi33∧ ∃a34,(some ⟨b24,0,none⟩)=some a34∧pi33.size=256∧stAt H25 (.add a34 0) pi33.toList fun H35=> ∃a36,b11=some a36∧ ∃us37,cell H35 (.add a36 256)=some (.int .i64 us37)∧ ∃a38,b11=some a38∧stAt H35 (.add a38 256) [.int .i64 (wrap .i64 (us37-1))] fun H39=>J26 [] H39) (J26 [] H25)))→J12 [] H13)→
 br (!(Option.isNone b11)) (∃a40,b11=some a40∧ ∃us41,cell H4 (.add a40 256)=some (.int .i64 us41)∧br (us41==1) (R (.bool true) H4) (J12 [] H4)) (J12 [] H4)
def Tryz.p133:Plan:=(tl (tl (two (join [] [0,3,5] g0) (tg (tl (tl (two (join [] [0,3,6] g0) (tl (tl leaf)))))))))
theorem Tryz.s133{p1:OA}{ke2:AV}{H R}(h:Tryz.S133 p1 ke2 H R):Tryz.C 133 #[.pointer p1,.agg ke2] H R:=vcs Tryz.tab_ok Tryz.mixed Tryz.func133 Tryz.cal133 Tryz.p133 h (by kernel_rfl)
def Tryz.S134(d1:AV)(id2:Int)(H:Heap)(R:Kv):Prop:=
 alc H (.cells d1 46) fun b3 H4=>Tryz.C 67 #[.pointer (some ⟨b3,0,none⟩)] H4 fun r5 H6=> ∃r7,r5= .pointer r7∧Tryz.C 119 #[.pointer r7,.int .i64 id2] H6 fun r8 H9=> ∃r10 r11 r12,r8= .tuple #[.pointer r10,.pointer r11,.int .i64 r12]∧br (Option.isNone r10)
 (R (.tuple #[.int .i64 0,.int .i64 0,.bool false]) H9)
 (∃a13,r11=some a13∧ ∃ID14,cell H9 (.add a13 0)=some (.int .i64 ID14)∧R (.tuple #[.int .i64 ID14,.int .i64 r12,.bool true]) H9)
def Tryz.p134:Plan:=(tl (tl (tg (tl leaf))))
theorem Tryz.s134{d1:AV}{id2:Int}{H R}(h:Tryz.S134 d1 id2 H R):Tryz.C 134 #[.agg d1,.int .i64 id2] H R:=vcs Tryz.tab_ok Tryz.mixed Tryz.func134 Tryz.cal134 Tryz.p134 h (by kernel_rfl)
def Tryz.S135(d1:AV)(H:Heap)(R:Kv):Prop:=
 alc H (.cells d1 46) fun b2 H3=>alc H3 (.cells #[.int .i64 0,.int .i64 0,.int .i64 0,.slice none 0 0] 46) fun b4 H5=> ∃W6,cell H5 (.add ⟨b2,0,none⟩ 0)=some (.int .i64 W6)∧ ∃H7,cell H5 (.add ⟨b2,0,none⟩ 1)=some (.int .i64 H7)∧ ∃Ne8,cell H5 (.add ⟨b2,0,none⟩ 2)=some (.int .i64 Ne8)∧alc H5 (.cells #[.int .i64 0,.int .i64 0,.int .i64 0,.slice none 0 0] 46) fun b9 H10=>#[Value.int .i64 W6,Value.int .i64 H7,Value.int .i64 Ne8,Value.slice none 0 0].size=4∧stAt H10 ⟨b9,0,none⟩ (Array.toList #[.int .i64 W6,.int .i64 H7,.int .i64 Ne8,.slice none 0 0]) fun H11=> ∃Ki12p Ki12l Ki12c,cell H11 (.add ⟨b2,0,none⟩ 3)=some (.slice Ki12p Ki12l Ki12c)∧ ∀X13:Kl,(∀(t14:Int) H15,(br (decide (t14<(Ki12l:Int))) (∃a16,Ki12p=some a16∧0≤t14∧t14<(Ki12l:Int)∧ ∃v17,v17.size=19∧rowIn H15 (.add a16 (toNat t14*19)) v17∧alc H15 (.cells #[.int .i64 0,.int .i64 0,.bool false,.int .i64 0,.int .i64 0,.int .i64 0,.int .i64 0,.slice none 0 0,.slice none 0 0,.int .i64 0,.int .i64 0,.int .i64 0,.int .i64 0,.int .i64 0,.int .i64 0,.bool false,.int .i64 0,.slice none 0 0,.slice none 0 0] 118) fun b18 H19=>v17.size=19∧stAt H19 ⟨b18,0,none⟩ v17.toList fun H20=> ∃v21,v21.size=4∧rowIn H20 ⟨b2,0,none⟩ v21∧ ∃ID22,cell H20 (.add ⟨b18,0,none⟩ 0)=some (.int .i64 ID22)∧Tryz.C 87 #[.agg v21,.int .i64 ID22] H20 fun r23 H24=> ∃r25 r26,r23= .tuple #[.agg r25,.bool r26]∧alc H24 (.cells #[.int .i64 0,.int .i64 0,.bool false,.int .i64 0,.int .i64 0,.int .i64 0,.int .i64 0,.slice none 0 0,.slice none 0 0,.int .i64 0,.int .i64 0,.int .i64 0,.int .i64 0,.int .i64 0,.int .i64 0,.bool false,.int .i64 0,.slice none 0 0,.slice none 0 0] 118) fun b27 H28=>r25.size=19∧stAt H28 ⟨b27,0,none⟩ r25.toList fun H29=> ∃Ki30p Ki30l Ki30c,cell H29 (.add ⟨b9,0,none⟩ 3)=some (.slice Ki30p Ki30l Ki30c)∧ ∃v31,v31.size=19∧rowIn H29 ⟨b27,0,none⟩ v31∧v31.size=19∧0+19≤19∧alc H29 (.cells (List.toArray (setL [.int .i64 0,.int .i64 0,.bool false,.int .i64 0,.int .i64 0,.int .i64 0,.int .i64 0,.slice none 0 0,.slice none 0 0,.int .i64 0,.int .i64 0,.int .i64 0,.int .i64 0,.int .i64 0,.int .i64 0,.bool false,.int .i64 0,.slice none 0 0,.slice none 0 0] 0 v31.toList)) 118) fun b32 H33=>appQ 19 216 #[.int .i64 0,.int .i64 0,.bool false,.int .i64 0,.int .i64 0,.int .i64 0,.int .i64 0,.slice none 0 0,.slice none 0 0,.int .i64 0,.int .i64 0,.int .i64 0,.int .i64 0,.int .i64 0,.int .i64 0,.bool false,.int .i64 0,.slice none 0 0,.slice none 0 0] H33 Ki30p Ki30l Ki30c (some ⟨b32,0,none⟩) 1 118 fun ap34p ap34l ap34c H35=>stAt H35 (.add ⟨b9,0,none⟩ 3) [.slice ap34p ap34l ap34c] fun H36=>X13 [.int .i64 (wrap .i64 (t14+1))] H36) (∃v37,v37.size=4∧rowIn H15 ⟨b9,0,none⟩ v37∧v37.size=4∧stAt H15 ⟨b4,0,none⟩ v37.toList fun H38=> ∃re39,re39.size=4∧rowIn H38 ⟨b4,0,none⟩ re39∧R (.agg re39) H38))→X13 [.int .i64 t14] H15)→X13 [.int .i64 0] H11
def Tryz.p135:Plan:=(tl (tl (two (tl (one (loop [(18,3)] [1,2,3,16,17] (tl (two (tl leaf) (two (one (tl (tl leaf))) leaf)))))) (tl leaf))))
theorem Tryz.s135{d1:AV}{H R}(h:Tryz.S135 d1 H R):Tryz.C 135 #[.agg d1] H R:=vcs Tryz.tab_ok Tryz.mixed Tryz.func135 Tryz.cal135 Tryz.p135 h (by kernel_rfl)
def Tryz.S136(s1:OA)(H:Heap)(R:Kv):Prop:=
 alc H (.cells #[.int .i64 0,.int .i64 0,.int .i64 0,.slice none 0 0] 46) fun b2 H3=> ∃a4,s1=some a4∧ ∃li5p li5l li5c,cell H3 (.add a4 0)=some (.slice li5p li5l li5c)∧br (((li5l:Int):Int)==0)
 (#[Value.int .i64 0,Value.int .i64 0,Value.int .i64 0,Value.slice none 0 0].size=4∧stAt H3 ⟨b2,0,none⟩ (Array.toList #[.int .i64 0,.int .i64 0,.int .i64 0,.slice none 0 0]) fun H6=> ∃re7,re7.size=4∧rowIn H6 ⟨b2,0,none⟩ re7∧R (.tuple #[.agg re7,.bool false]) H6)
 (∃a8,s1=some a8∧ ∃li9p li9l li9c,cell H3 (.add a8 0)=some (.slice li9p li9l li9c)∧ ∃a10,s1=some a10∧ ∃li11p li11l li11c,cell H3 (.add a10 0)=some (.slice li11p li11l li11c)∧ ∃a12,li9p=some a12∧0≤(wrap .i64 ((li11l:Int)-1))∧(wrap .i64 ((li11l:Int)-1))<(li9l:Int)∧ ∃v13,v13.size=4∧rowIn H3 (.add a12 (toNat (wrap .i64 ((li11l:Int)-1))*4)) v13∧alc H3 (.cells #[.int .i64 0,.int .i64 0,.int .i64 0,.slice none 0 0] 46) fun b14 H15=>(Ext H3 H15∨(∃v26,v26.size=4∧rowIn H15 (.add a12 (toNat (wrap .i64 ((li11l:Int)-1))*4)) v26∧Value.agg v26= .agg v13)∧(Value.int .i64 (li11l:Int)= .int .i64 (li11l:Int))∧(∃li27p li27l li27c,cell H15 (.add a10 0)=some (.slice li27p li27l li27c)∧Value.slice li27p li27l li27c= .slice li11p li11l li11c)∧(∃li28p li28l li28c,cell H15 (.add a8 0)=some (.slice li28p li28l li28c)∧Value.slice li28p li28l li28c= .slice li9p li9l li9c))∧v13.size=4∧stAt H15 ⟨b14,0,none⟩ v13.toList fun H16=> ∃a17,s1=some a17∧ ∃li18p li18l li18c,cell H16 (.add a17 0)=some (.slice li18p li18l li18c)∧ ∃a19,s1=some a19∧ ∃li20p li20l li20c,cell H16 (.add a19 0)=some (.slice li20p li20l li20c)∧0≤(wrap .i64 ((li20l:Int)-1))∧(wrap .i64 ((li20l:Int)-1))≤(li18c:Int)∧ ∃a21,s1=some a21∧stAt H16 (.add a21 0) [.slice (if li18c=0 then li18p else Option.map (fun x=>Addr.add x (0*4)) li18p) ((toNat (wrap .i64 ((li20l:Int)-1)))-0) (li18c-0)] fun H22=> ∃v23,v23.size=4∧rowIn H22 ⟨b14,0,none⟩ v23∧v23.size=4∧stAt H22 ⟨b2,0,none⟩ v23.toList fun H24=> ∃re25,re25.size=4∧rowIn H24 ⟨b2,0,none⟩ re25∧R (.tuple #[.agg re25,.bool true]) H24)
def Tryz.p136:Plan:=(tl (tg (tl (tl (tl leaf)))))
theorem Tryz.s136{s1:OA}{H R}(h:Tryz.S136 s1 H R):Tryz.C 136 #[.pointer s1] H R:=vcs Tryz.tab_ok Tryz.mixed Tryz.func136 Tryz.cal136 Tryz.p136 h (by kernel_rfl)
end Go.Proofs
namespace Go.Proofs
open Go.Sh Go.Sh.Plan
open Go.IntKind (wrap)
open Int (toNat)
end Go.Proofs
namespace Go.Proofs
open Go.Sh Go.Sh.Plan
open Go.IntKind (wrap)
open Int (toNat)
def Tryz.S162(s1p:OA)(s1l s1c:Nat)(i2:Int)(v3p:OA)(v3l v3c:Nat)(H:Heap)(R:Kv):Prop:=
 0≤i2∧i2≤(s1l:Int)∧br (((v3l:Int):Int)==0)
 (R (.slice s1p s1l s1c) H)
 (br (i2==(s1l:Int)) (appQ 19 216 #[.int .i64 0,.int .i64 0,.bool false,.int .i64 0,.int .i64 0,.int .i64 0,.int .i64 0,.slice none 0 0,.slice none 0 0,.int .i64 0,.int .i64 0,.int .i64 0,.int .i64 0,.int .i64 0,.int .i64 0,.bool false,.int .i64 0,.slice none 0 0,.slice none 0 0] H s1p s1l s1c v3p v3l 118 fun ap4p ap4l ap4c H5=>R (.slice ap4p ap4l ap4c) H5) (br (decide (((wrap .i64 ((s1l:Int)+(v3l:Int))):Int)>(s1c:Int))) (0≤i2∧i2≤(s1c:Int)∧appZ 19 216 #[.int .i64 0,.int .i64 0,.bool false,.int .i64 0,.int .i64 0,.int .i64 0,.int .i64 0,.slice none 0 0,.slice none 0 0,.int .i64 0,.int .i64 0,.int .i64 0,.int .i64 0,.int .i64 0,.int .i64 0,.bool false,.int .i64 0,.slice none 0 0,.slice none 0 0] H (if s1c=0 then s1p else Option.map (fun x=>Addr.add x (0*19)) s1p) ((toNat i2)-0) (s1c-0) (wrap .i64 ((wrap .i64 ((s1l:Int)+(v3l:Int)))-i2)) 118 fun s26p s26l s26c H7=>0≤i2∧i2≤(s26l:Int)∧ ∃xs8,rowOf H7 v3p (min v3l (s26l-(toNat i2))*19) xs8∧copQ H7 (if s26c=(toNat i2) then s26p else Option.map (fun x=>Addr.add x ((toNat i2)*19)) s26p) xs8 fun H9=>0≤(wrap .i64 (i2+(v3l:Int)))∧(wrap .i64 (i2+(v3l:Int)))≤(s26l:Int)∧0≤i2∧i2≤(s1l:Int)∧ ∃xs10,rowOf H9 (if s1c=(toNat i2) then s1p else Option.map (fun x=>Addr.add x ((toNat i2)*19)) s1p) (min (s1l-(toNat i2)) (s26l-(toNat (wrap .i64 (i2+(v3l:Int)))))*19) xs10∧copQ H9 (if s26c=(toNat (wrap .i64 (i2+(v3l:Int)))) then s26p else Option.map (fun x=>Addr.add x ((toNat (wrap .i64 (i2+(v3l:Int))))*19)) s26p) xs10 fun H11=>R (.slice s26p s26l s26c) H11) (0≤(wrap .i64 ((s1l:Int)+(v3l:Int)))∧(wrap .i64 ((s1l:Int)+(v3l:Int)))≤(s1c:Int)∧0≤(wrap .i64 (i2+(v3l:Int)))∧(wrap .i64 (i2+(v3l:Int)))≤((((toNat (wrap .i64 ((s1l:Int)+(v3l:Int))))-0):Nat):Int)∧Tryz.C 205 #[.slice v3p v3l v3c,.slice (if (s1c-0)=(toNat (wrap .i64 (i2+(v3l:Int)))) then(if s1c=0 then s1p else Option.map (fun x=>Addr.add x (0*19)) s1p) else Option.map (fun x=>Addr.add x ((toNat (wrap .i64 (i2+(v3l:Int))))*19)) (if s1c=0 then s1p else Option.map (fun x=>Addr.add x (0*19)) s1p)) (((toNat (wrap .i64 ((s1l:Int)+(v3l:Int))))-0)-(toNat (wrap .i64 (i2+(v3l:Int))))) ((s1c-0)-(toNat (wrap .i64 (i2+(v3l:Int)))))] H fun r12 H13=> ∃r14,r12= .bool r14∧br (!r14) (0≤(wrap .i64 (i2+(v3l:Int)))∧(wrap .i64 (i2+(v3l:Int)))≤((((toNat (wrap .i64 ((s1l:Int)+(v3l:Int))))-0):Nat):Int)∧0≤i2∧i2≤((((toNat (wrap .i64 ((s1l:Int)+(v3l:Int))))-0):Nat):Int)∧ ∃xs15,rowOf H13 (if (s1c-0)=(toNat i2) then(if s1c=0 then s1p else Option.map (fun x=>Addr.add x (0*19)) s1p) else Option.map (fun x=>Addr.add x ((toNat i2)*19)) (if s1c=0 then s1p else Option.map (fun x=>Addr.add x (0*19)) s1p)) (min (((toNat (wrap .i64 ((s1l:Int)+(v3l:Int))))-0)-(toNat i2)) (((toNat (wrap .i64 ((s1l:Int)+(v3l:Int))))-0)-(toNat (wrap .i64 (i2+(v3l:Int)))))*19) xs15∧copQ H13 (if (s1c-0)=(toNat (wrap .i64 (i2+(v3l:Int)))) then(if s1c=0 then s1p else Option.map (fun x=>Addr.add x (0*19)) s1p) else Option.map (fun x=>Addr.add x ((toNat (wrap .i64 (i2+(v3l:Int))))*19)) (if s1c=0 then s1p else Option.map (fun x=>Addr.add x (0*19)) s1p)) xs15 fun H16=>0≤i2∧i2≤((((toNat (wrap .i64 ((s1l:Int)+(v3l:Int))))-0):Nat):Int)∧ ∃xs17,rowOf H16 v3p (min v3l (((toNat (wrap .i64 ((s1l:Int)+(v3l:Int))))-0)-(toNat i2))*19) xs17∧copQ H16 (if (s1c-0)=(toNat i2) then(if s1c=0 then s1p else Option.map (fun x=>Addr.add x (0*19)) s1p) else Option.map (fun x=>Addr.add x ((toNat i2)*19)) (if s1c=0 then s1p else Option.map (fun x=>Addr.add x (0*19)) s1p)) xs17 fun H18=>R (.slice (if s1c=0 then s1p else Option.map (fun x=>Addr.add x (0*19)) s1p) ((toNat (wrap .i64 ((s1l:Int)+(v3l:Int))))-0) (s1c-0)) H18) (0≤(s1l:Int)∧(s1l:Int)≤((((toNat (wrap .i64 ((s1l:Int)+(v3l:Int))))-0):Nat):Int)∧ ∃xs19,rowOf H13 v3p (min v3l (((toNat (wrap .i64 ((s1l:Int)+(v3l:Int))))-0)-(toNat (s1l:Int)))*19) xs19∧copQ H13 (if (s1c-0)=(toNat (s1l:Int)) then(if s1c=0 then s1p else Option.map (fun x=>Addr.add x (0*19)) s1p) else Option.map (fun x=>Addr.add x ((toNat (s1l:Int))*19)) (if s1c=0 then s1p else Option.map (fun x=>Addr.add x (0*19)) s1p)) xs19 fun H20=>0≤i2∧i2≤((((toNat (wrap .i64 ((s1l:Int)+(v3l:Int))))-0):Nat):Int)∧Tryz.C 206 #[.slice (if (s1c-0)=(toNat i2) then(if s1c=0 then s1p else Option.map (fun x=>Addr.add x (0*19)) s1p) else Option.map (fun x=>Addr.add x ((toNat i2)*19)) (if s1c=0 then s1p else Option.map (fun x=>Addr.add x (0*19)) s1p)) (((toNat (wrap .i64 ((s1l:Int)+(v3l:Int))))-0)-(toNat i2)) ((s1c-0)-(toNat i2)),.int .i64 (v3l:Int)] H20 fun r21 H22=>r21= .tuple #[]∧R (.slice (if s1c=0 then s1p else Option.map (fun x=>Addr.add x (0*19)) s1p) ((toNat (wrap .i64 ((s1l:Int)+(v3l:Int))))-0) (s1c-0)) H22))))
def Tryz.p162:Plan:=(tl (tl (tl (tg (tl (tg (two (tl (two (tl (tl (tl (tl leaf)))) leaf)) (tl (two (tl (two (tl (tl (tl leaf))) leaf)) (tl (tl (tl leaf))))))))))))
theorem Tryz.s162{s1p:OA}{s1l s1c:Nat}{i2:Int}{v3p:OA}{v3l v3c:Nat}{H R}(h:Tryz.S162 s1p s1l s1c i2 v3p v3l v3c H R):Tryz.C 162 #[.slice s1p s1l s1c,.int .i64 i2,.slice v3p v3l v3c] H R:=vcs Tryz.tab_ok Tryz.mixed Tryz.func162 Tryz.cal162 Tryz.p162 h (by kernel_rfl)
def Tryz.S163(li1p:OA)(li1l li1c:Nat)(H:Heap)(R:Kv):Prop:=
 ∀X2:Kl,(∀(mo3 t4:Int) H5,(br (decide (t4<(li1l:Int))) (∃a6,li1p=some a6∧0≤t4∧t4<(li1l:Int)∧ ∃v7,v7.size=19∧rowIn H5 (.add a6 (toNat t4*19)) v7∧alc H5 (.cells #[.int .i64 0,.int .i64 0,.bool false,.int .i64 0,.int .i64 0,.int .i64 0,.int .i64 0,.slice none 0 0,.slice none 0 0,.int .i64 0,.int .i64 0,.int .i64 0,.int .i64 0,.int .i64 0,.int .i64 0,.bool false,.int .i64 0,.slice none 0 0,.slice none 0 0] 118) fun b8 H9=>v7.size=19∧stAt H9 ⟨b8,0,none⟩ v7.toList fun H10=> ∃Ki11p Ki11l Ki11c,cell H10 (.add ⟨b8,0,none⟩ 18)=some (.slice Ki11p Ki11l Ki11c)∧Tryz.C 163 #[.slice Ki11p Ki11l Ki11c] H10 fun r12 H13=> ∃r14,r12= .int .i64 r14∧X2 [.int .i64 (max mo3 (wrap .i64 ((1:Int)+r14))),.int .i64 (wrap .i64 (t4+1))] H13) (R (.int .i64 mo3) H5))→X2 [.int .i64 mo3,.int .i64 t4] H5)→X2 [.int .i64 0,.int .i64 0] H
def Tryz.p163:Plan:=(tl (tl (two (tl (one (loop [(3,3),(8,3)] [6,7] (tl (two (tl leaf) (two (one (tl leaf)) leaf)))))) (tl leaf))))
theorem Tryz.s163{li1p:OA}{li1l li1c:Nat}{H R}(h:Tryz.S163 li1p li1l li1c H R):Tryz.C 163 #[.slice li1p li1l li1c] H R:=vcs Tryz.tab_ok Tryz.mixed Tryz.func163 Tryz.cal163 Tryz.p163 h (by kernel_rfl)
def Tryz.S164(s1p:OA)(s1l s1c f2g:Nat)(f2x f2y:AV)(H:Heap)(R:Kv):Prop:=
 ∀X3:Kl,(∀(i4:Int) H5,(br (decide (i4<(s1l:Int))) (∃a6,s1p=some a6∧0≤i4∧i4<(s1l:Int)∧ ∃v7,cell H5 (.add a6 (toNat i4*1))=some (.int .i64 v7)∧Tryz.C f2g (List.toArray (Array.toList f2x++[Value.int .i64 v7]++Array.toList f2y)) H5 fun r8 H9=> ∃r10,r8= .bool r10∧br r10 (R (.int .i64 i4) H9) (X3 [.int .i64 (wrap .i64 (i4+1))] H9)) (R (.int .i64 (-1:Int)) H5))→X3 [.int .i64 i4] H5)→X3 [.int .i64 0] H
def Tryz.p164:Plan:=(tl (two (tl (one (loop [(8,3)] [0,1,7] (tl (two (tl leaf) (two (one (tl g0)) leaf)))))) (tl leaf)))
theorem Tryz.s164{s1p:OA}{s1l s1c f2g:Nat}{f2x f2y:AV}{H R}(h:Tryz.S164 s1p s1l s1c f2g f2x f2y H R):Tryz.C 164 #[.slice s1p s1l s1c,.func (.func f2g) f2x f2y] H R:=vcs Tryz.tab_ok Tryz.mixed Tryz.func164 Tryz.cal164 Tryz.p164 h (by kernel_rfl)
def Tryz.S165(sh1p:OA)(sh1l sh1c:Nat)(mo2p:OA)(mo2l mo2c:Nat)(H:Heap)(R:Kv):Prop:=
 ∀J3:Kl,(∀H4,(alc H4 (.cells #[.slice sh1p sh1l sh1c,.slice mo2p mo2l mo2c] 36) fun b5 H6=> ∀X7:Kl,(∀(t8:Int) H9,(br (decide (t8<((2:Nat):Int))) (∃a10,(some ⟨b5,0,none⟩)=some a10∧0≤t8∧t8<((2:Nat):Int)∧ ∃l11p l11l l11c,cell H9 (.add a10 (toNat t8*1))=some (.slice l11p l11l l11c)∧ ∀X12:Kl,(∀(t13:Int) H14,(br (decide (t13<(l11l:Int))) (∃a15,l11p=some a15∧0≤t13∧t13<(l11l:Int)∧ ∃v16,v16.size=2∧rowIn H14 (.add a15 (toNat t13*2)) v16∧alc H14 (.cells #[.int .i64 0,.int .i64 0] 146) fun b17 H18=>v16.size=2∧stAt H18 ⟨b17,0,none⟩ v16.toList fun H19=> ∃v20,v20.size=2∧rowIn H19 ⟨b17,0,none⟩ v20∧Tryz.C 207 #[.agg v20] H19 fun r21 H22=> ∃r23,r21= .bool r23∧br (!r23) (R (.int .i64 31) H22) (X12 [.int .i64 (wrap .i64 (t13+1))] H22)) (X7 [.int .i64 (wrap .i64 (t8+1))] H14))→X12 [.int .i64 t13] H14)→X12 [.int .i64 0] H9) (R (.int .i64 0) H9))→X7 [.int .i64 t8] H9)→X7 [.int .i64 0] H6)→J3 [] H4)→
 br (decide (((sh1l:Int):Int)<3)) (R (.int .i64 31) H) (br (decide (((sh1l:Int):Int)>256)) (R (.int .i64 31) H) (J3 [] H))
def Tryz.p165:Plan:=(tl (two (join [] [0,1] g0) (two (tl (one (loop [(21,3)] [19,20] (tl (two (tl leaf) (two (one (tl (tl (one (loop [(27,3)] [19,20,21,25,26] (tl (two (tl leaf) (two (one (tl g0)) leaf)))))))) leaf)))))) (tl leaf))))
theorem Tryz.s165{sh1p:OA}{sh1l sh1c:Nat}{mo2p:OA}{mo2l mo2c:Nat}{H R}(h:Tryz.S165 sh1p sh1l sh1c mo2p mo2l mo2c H R):Tryz.C 165 #[.slice sh1p sh1l sh1c,.slice mo2p mo2l mo2c] H R:=vcs Tryz.tab_ok Tryz.mixed Tryz.func165 Tryz.cal165 Tryz.p165 h (by kernel_rfl)
def Tryz.S166(sh1p:OA)(sh1l sh1c:Nat)(x2 y3:Int)(H:Heap)(R:Kv):Prop:=
 (FloatKind.f64=FloatKind.f64∧ ∃a4,sh1p=some a4∧0≤(wrap .i64 ((sh1l:Int)-1))∧(wrap .i64 ((sh1l:Int)-1))<(sh1l:Int)∧ ∃v5,v5.size=2∧rowIn H (.add a4 (toNat (wrap .i64 ((sh1l:Int)-1))*2)) v5∧alc H (.cells #[.int .i64 0,.int .i64 0] 146) fun b6 H7=>v5.size=2∧stAt H7 ⟨b6,0,none⟩ v5.toList fun H8=> ∀X9:Kl,(∀(od10:Bool) (t11:Int) H12,(br (decide (t11<(sh1l:Int))) (∃a13,sh1p=some a13∧0≤t11∧t11<(sh1l:Int)∧ ∃v14,v14.size=2∧rowIn H12 (.add a13 (toNat t11*2)) v14∧alc H12 (.cells #[.int .i64 0,.int .i64 0] 146) fun b15 H16=>v14.size=2∧stAt H16 ⟨b15,0,none⟩ v14.toList fun H17=> ∃v18,v18.size=2∧rowIn H17 ⟨b6,0,none⟩ v18∧ ∃v19,v19.size=2∧rowIn H17 ⟨b15,0,none⟩ v19∧Tryz.C 208 #[.agg v18] H17 fun r20 H21=> ∃r22r r22i,r20= .complex .f64 r22r r22i∧(Ext H17 H21∨(∃v47,v47.size=2∧rowIn H21 ⟨b15,0,none⟩ v47∧Value.agg v47= .agg v19))∧(FloatKind.f64=FloatKind.f64∧FloatKind.f64=FloatKind.f64∧ ∃a23 im24:Nat,cMulBits (4611686018427387904:Nat) (0:Nat) r22r r22i=some (a23,im24)∧Tryz.C 208 #[.agg v19] H21 fun r25 H26=> ∃r27r r27i,r25= .complex .f64 r27r r27i∧(FloatKind.f64=FloatKind.f64∧FloatKind.f64=FloatKind.f64∧ ∃b28 im29:Nat,cMulBits (4611686018427387904:Nat) (0:Nat) r27r r27i=some (b28,im29)∧(FloatKind.f64=FloatKind.f64∧(FloatKind.f64=FloatKind.f64∧br (!((Ieee.Format.order (FloatKind.format .f64) im24 (floatOfInt .f64 (wrap .i64 ((wrap .i64 ((2:Int)*y3))+1)))==some Ordering.gt)==(Ieee.Format.order (FloatKind.format .f64) im29 (floatOfInt .f64 (wrap .i64 ((wrap .i64 ((2:Int)*y3))+1)))==some Ordering.gt))) (∀J30:Kl,(∀(a31r a31i b32r b32i:Nat) H33,((FloatKind.f64=FloatKind.f64∧ ∃re34 im35:Nat,cSumBits .sub .f64 a31r a31i b32r b32i=some (re34,im35)∧(FloatKind.f64=FloatKind.f64∧ ∃re36 im37:Nat,cSumBits .sub .f64 (floatOfInt .f64 (wrap .i64 ((wrap .i64 ((2:Int)*x2))+1))) (floatOfInt .f64 (wrap .i64 ((wrap .i64 ((2:Int)*y3))+1))) b32r b32i=some (re36,im37)∧Tryz.C 209 #[.complex .f64 re34 im35,.complex .f64 re36 im37] H33 fun r38 H39=> ∃r40,r38= .float .f64 r40∧(FloatKind.f64=FloatKind.f64∧br (Ieee.Format.order (FloatKind.format .f64) r40 (0:Nat)==some Ordering.gt) (∃v41,v41.size=2∧rowIn H39 ⟨b15,0,none⟩ v41∧v41.size=2∧stAt H39 ⟨b6,0,none⟩ v41.toList fun H42=>X9 [.bool (!od10),.int .i64 (wrap .i64 (t11+1))] H42) (∃v43,v43.size=2∧rowIn H39 ⟨b15,0,none⟩ v43∧v43.size=2∧stAt H39 ⟨b6,0,none⟩ v43.toList fun H44=>X9 [.bool od10,.int .i64 (wrap .i64 (t11+1))] H44)))))→J30 [.complex .f64 a31r a31i,.complex .f64 b32r b32i] H33)→br (Ieee.Format.order (FloatKind.format .f64) im29 (floatOfInt .f64 (wrap .i64 ((wrap .i64 ((2:Int)*y3))+1)))==some Ordering.gt) (J30 [.complex .f64 b28 im29,.complex .f64 a23 im24] H26) (J30 [.complex .f64 a23 im24,.complex .f64 b28 im29] H26)) (∃v45,v45.size=2∧rowIn H26 ⟨b15,0,none⟩ v45∧v45.size=2∧stAt H26 ⟨b6,0,none⟩ v45.toList fun H46=>X9 [.bool od10,.int .i64 (wrap .i64 (t11+1))] H46)))))) (R (.bool od10) H12))→X9 [.bool od10,.int .i64 t11] H12)→X9 [.bool false,.int .i64 0] H8)
def Tryz.p166:Plan:=(tl (tl (tl (tl (two (tl (one (loop [(8,4),(33,3)] [7,9,31,32] (tl (two (tl leaf) (two (one (tl (tl (two (tl (tl (two (two (join [(12,303),(13,303)] [7,8,9,11,31,32,33] (tl (tl leaf))) (tl (tl leaf))) leaf))) leaf)))) leaf)))))) (tl leaf))))))
theorem Tryz.s166{sh1p:OA}{sh1l sh1c:Nat}{x2 y3:Int}{H R}(h:Tryz.S166 sh1p sh1l sh1c x2 y3 H R):Tryz.C 166 #[.slice sh1p sh1l sh1c,.int .i64 x2,.int .i64 y3] H R:=vcs Tryz.tab_ok Tryz.mixed Tryz.func166 Tryz.cal166 Tryz.p166 h (by kernel_rfl)
def Tryz.S167(m1:AV)(H:Heap)(R:Kv):Prop:=
 alc H (.cells m1 38) fun b2 H3=> ∃v4,v4.size=6∧rowIn H3 ⟨b2,0,none⟩ v4∧ ∀X5:Kl,(∀(i6:Int) H7,(br (decide (i6<6)) (0≤i6∧i6<((6:Nat):Int)∧ ∃v8,v4[(toNat i6*1)]?=some (.int .i64 v8)∧ ∀J9:Kl,(∀(mo10:Int) H11,(br (decide (v8<(wrap .i64 (0-mo10)))) (R (.bool false) H11) (br (decide (v8>mo10)) (R (.bool false) H11) (X5 [.int .i64 (wrap .i64 (i6+1))] H11)))→J9 [.int .i64 mo10] H11)→br (decide (i6≥4)) (J9 [.int .i64 68719476736] H7) (J9 [.int .i64 16777216] H7)) (R (.bool true) H7))→X5 [.int .i64 i6] H7)→X5 [.int .i64 0] H3
def Tryz.p167:Plan:=(tl (two (tl (one (loop [(7,3)] [6] (tl (two (tl leaf) (two (one (tl (tl (two (join [(5,3)] [4,6,7] (tl (tl leaf))) g0)))) leaf)))))) (tl leaf)))
theorem Tryz.s167{m1:AV}{H R}(h:Tryz.S167 m1 H R):Tryz.C 167 #[.agg m1] H R:=vcs Tryz.tab_ok Tryz.mixed Tryz.func167 Tryz.cal167 Tryz.p167 h (by kernel_rfl)
def Tryz.S168(n1 m2:Int)(H:Heap)(R:Kv):Prop:=
 ∀J3:Kl,(∀(n4 m5:Int) H6,(Tryz.C 210 #[.int .i64 (wrap .i64 ((wrap .i64 ((2:Int)*n4))+m5)),.int .i64 (wrap .i64 ((2:Int)*m5))] H6 fun r7 H8=> ∃r9,r7= .int .i64 r9∧R (.int .i64 r9) H8)→J3 [.int .i64 n4,.int .i64 m5] H6)→
 br (decide (m2<0))
 (J3 [.int .i64 (wrap .i64 (0-n1)),.int .i64 (wrap .i64 (0-m2))] H)
 (J3 [.int .i64 n1,.int .i64 m2] H)
def Tryz.p168:Plan:=(tl (two (join [(0,3),(1,3)] [] (tl (tl leaf))) (tl leaf)))
theorem Tryz.s168{n1 m2:Int}{H R}(h:Tryz.S168 n1 m2 H R):Tryz.C 168 #[.int .i64 n1,.int .i64 m2] H R:=vcs Tryz.tab_ok Tryz.mixed Tryz.func168 Tryz.cal168 Tryz.p168 h (by kernel_rfl)
def Tryz.S169(n1:Int)(H:Heap)(R:Kv):Prop:=
 0≤(16:Int)∧R (.int .i64 (shrI .i64 (wrap .i64 (n1+32768)) 16)) H
def Tryz.p169:Plan:=(tl (tl leaf))
theorem Tryz.s169{n1:Int}{H R}(h:Tryz.S169 n1 H R):Tryz.C 169 #[.int .i64 n1] H R:=vcs Tryz.tab_ok Tryz.mixed Tryz.func169 Tryz.cal169 Tryz.p169 h (by kernel_rfl)
def Tryz.S170(ki1:Int)(pa2p:OA)(pa2l pa2c:Nat)(H:Heap)(R:Kv):Prop:=
 ∀X3:Kl,(∀(i4:Int) H5,(br (decide (i4<(pa2l:Int))) (∀J6:Kl,(∀H7,(X3 [.int .i64 (wrap .i64 (i4+1))] H7)→J6 [] H7)→ ∃a8,pa2p=some a8∧0≤i4∧i4<(pa2l:Int)∧ ∃p9,cell H5 (.add a8 (toNat i4*1))=some (.int .i64 p9)∧br (decide (p9<0)) (R (.bool false) H5) (br (decide (p9>255)) (R (.bool false) H5) (br (ki1==1) ((2:Int)≠0∧br (((Int.tmod i4 2):Int)==0) (br (decide (i4>0)) (∃a10,pa2p=some a10∧0≤(wrap .i64 (i4-2))∧(wrap .i64 (i4-2))<(pa2l:Int)∧ ∃v11,cell H5 (.add a10 (toNat (wrap .i64 (i4-2))*1))=some (.int .i64 v11)∧br (decide (p9≤v11)) (R (.bool false) H5) (J6 [] H5)) (J6 [] H5)) (J6 [] H5)) (J6 [] H5)))) (br (ki1==0) (br (((pa2l:Int):Int)==2) (∃a12,pa2p=some a12∧0≤(0:Int)∧(0:Int)<(pa2l:Int)∧ ∃v13,cell H5 (.add a12 (toNat (0:Int)*1))=some (.int .i64 v13)∧ ∃a14,pa2p=some a14∧0≤(1:Int)∧(1:Int)<(pa2l:Int)∧ ∃v15,cell H5 (.add a14 (toNat (1:Int)*1))=some (.int .i64 v15)∧R (.bool (decide (v13<v15))) H5) (R (.bool false) H5)) (br (ki1==1) (br (decide (((pa2l:Int):Int)≥2)) (br (decide (((pa2l:Int):Int)≤32)) ((2:Int)≠0∧R (.bool (((Int.tmod (pa2l:Int) 2):Int)==0)) H5) (R (.bool false) H5)) (R (.bool false) H5)) (br (ki1==2) (R (.bool (((pa2l:Int):Int)==0)) H5) (br (ki1==3) (R (.bool (((pa2l:Int):Int)==1)) H5) (R (.bool false) H5))))))→X3 [.int .i64 i4] H5)→X3 [.int .i64 0] H
def Tryz.p170:Plan:=(tl (tl (two (tl (one (loop [(12,3)] [0,1,5,10,11] (tl (two (tl leaf) (two (join [] [0,1,5,10,11,12] (one (tl g0))) leaf)))))) (two (tl (one (tl (two (tl leaf) (tl (two (tl leaf) (tl (two (tl leaf) g0)))))))) (tl leaf)))))
theorem Tryz.s170{ki1:Int}{pa2p:OA}{pa2l pa2c:Nat}{H R}(h:Tryz.S170 ki1 pa2p pa2l pa2c H R):Tryz.C 170 #[.int .i64 ki1,.slice pa2p pa2l pa2c] H R:=vcs Tryz.tab_ok Tryz.mixed Tryz.func170 Tryz.cal170 Tryz.p170 h (by kernel_rfl)
def Tryz.S171(pa1p:OA)(pa1l pa1c:Nat)(H:Heap)(R:Kv):Prop:=
 0≤(256:Int)∧(256:Int)≤(256:Int)∧((8:Nat):Int)*(256:Int)≤281474976710656∧(256:Int)≤281474976710656∧alc H (.cells (List.toArray (reps (toNat 256) (Array.toList #[.int .i64 0]))) 3) fun b2 H3=> ∀X4:Kl,(∀(v5:Int) H6,(br (decide (v5<(((toNat 256):Nat):Int))) (∃a7,pa1p=some a7∧0≤(0:Int)∧(0:Int)<(pa1l:Int)∧ ∃v8,cell H6 (.add a7 (toNat (0:Int)*1))=some (.int .i64 v8)∧br (decide (v5≤v8)) (∃a9,pa1p=some a9∧0≤(1:Int)∧(1:Int)<(pa1l:Int)∧ ∃v10,cell H6 (.add a9 (toNat (1:Int)*1))=some (.int .i64 v10)∧ ∃a11,(some ⟨b2,0,none⟩)=some a11∧0≤v5∧v5<(((toNat 256):Nat):Int)∧stAt H6 (.add a11 (toNat v5*1)) [.int .i64 v10] fun H12=>X4 [.int .i64 (wrap .i64 (v5+1))] H12) (∃a13,pa1p=some a13∧0≤(wrap .i64 ((pa1l:Int)-2))∧(wrap .i64 ((pa1l:Int)-2))<(pa1l:Int)∧ ∃v14,cell H6 (.add a13 (toNat (wrap .i64 ((pa1l:Int)-2))*1))=some (.int .i64 v14)∧br (decide (v5≥v14)) (∃a15,pa1p=some a15∧0≤(wrap .i64 ((pa1l:Int)-1))∧(wrap .i64 ((pa1l:Int)-1))<(pa1l:Int)∧ ∃v16,cell H6 (.add a15 (toNat (wrap .i64 ((pa1l:Int)-1))*1))=some (.int .i64 v16)∧ ∃a17,(some ⟨b2,0,none⟩)=some a17∧0≤v5∧v5<(((toNat 256):Nat):Int)∧stAt H6 (.add a17 (toNat v5*1)) [.int .i64 v16] fun H18=>X4 [.int .i64 (wrap .i64 (v5+1))] H18) (∀X19:Kl,(∀(i20:Int) H21,(∃a22,pa1p=some a22∧0≤(wrap .i64 (i20+2))∧(wrap .i64 (i20+2))<(pa1l:Int)∧ ∃v23,cell H21 (.add a22 (toNat (wrap .i64 (i20+2))*1))=some (.int .i64 v23)∧br (decide (v23≤v5)) (X19 [.int .i64 (wrap .i64 (i20+2))] H21) (∃a24,pa1p=some a24∧0≤(wrap .i64 (i20+1))∧(wrap .i64 (i20+1))<(pa1l:Int)∧ ∃v25,cell H21 (.add a24 (toNat (wrap .i64 (i20+1))*1))=some (.int .i64 v25)∧ ∃a26,pa1p=some a26∧0≤(wrap .i64 (i20+3))∧(wrap .i64 (i20+3))<(pa1l:Int)∧ ∃v27,cell H21 (.add a26 (toNat (wrap .i64 (i20+3))*1))=some (.int .i64 v27)∧ ∃a28,pa1p=some a28∧0≤(wrap .i64 (i20+1))∧(wrap .i64 (i20+1))<(pa1l:Int)∧ ∃v29,cell H21 (.add a28 (toNat (wrap .i64 (i20+1))*1))=some (.int .i64 v29)∧ ∃a30,pa1p=some a30∧0≤i20∧i20<(pa1l:Int)∧ ∃v31,cell H21 (.add a30 (toNat i20*1))=some (.int .i64 v31)∧ ∃a32,pa1p=some a32∧0≤(wrap .i64 (i20+2))∧(wrap .i64 (i20+2))<(pa1l:Int)∧ ∃v33,cell H21 (.add a32 (toNat (wrap .i64 (i20+2))*1))=some (.int .i64 v33)∧ ∃a34,pa1p=some a34∧0≤i20∧i20<(pa1l:Int)∧ ∃v35,cell H21 (.add a34 (toNat i20*1))=some (.int .i64 v35)∧(wrap .i64 (v33-v35))≠0∧ ∃a36,(some ⟨b2,0,none⟩)=some a36∧0≤v5∧v5<(((toNat 256):Nat):Int)∧stAt H21 (.add a36 (toNat v5*1)) [.int .i64 (wrap .i64 (v25+(wrap .i64 (Int.tdiv (wrap .i64 ((wrap .i64 (v27-v29))*(wrap .i64 (v5-v31)))) (wrap .i64 (v33-v35))))))] fun H37=>X4 [.int .i64 (wrap .i64 (v5+1))] H37))→X19 [.int .i64 i20] H21)→X19 [.int .i64 0] H6))) (R (.slice (some ⟨b2,0,none⟩) (toNat 256) (toNat 256)) H6))→X4 [.int .i64 v5] H6)→X4 [.int .i64 0] H3
def Tryz.p171:Plan:=(tl (tl (tl (two (tl (one (loop [(12,3)] [0,3,4,11] (tl (two (tl leaf) (two (one (tl (two (one (tl (two (tl leaf) g0))) (tl (two (one (loop [(6,3)] [0,3,4,5,11,12] (two (tl (tl leaf)) (one leaf)))) leaf))))) leaf)))))) (tl leaf)))))
theorem Tryz.s171{pa1p:OA}{pa1l pa1c:Nat}{H R}(h:Tryz.S171 pa1p pa1l pa1c H R):Tryz.C 171 #[.slice pa1p pa1l pa1c] H R:=vcs Tryz.tab_ok Tryz.mixed Tryz.func171 Tryz.cal171 Tryz.p171 h (by kernel_rfl)
end Go.Proofs
namespace Go.Proofs
open Go.Sh Go.Sh.Plan
open Go.IntKind (wrap)
open Int (toNat)
def Tryz.S207(p1:AV)(H:Heap)(R:Kv):Prop:=
 alc H (.cells p1 146) fun b2 H3=> ∃X4,cell H3 (.add ⟨b2,0,none⟩ 0)=some (.int .i64 X4)∧br (decide (X4≥(-1048576:Int))) (∃X5,cell H3 (.add ⟨b2,0,none⟩ 0)=some (.int .i64 X5)∧br (decide (X5≤1048576)) (∃Y6,cell H3 (.add ⟨b2,0,none⟩ 1)=some (.int .i64 Y6)∧br (decide (Y6≥(-1048576:Int))) (∃Y7,cell H3 (.add ⟨b2,0,none⟩ 1)=some (.int .i64 Y7)∧R (.bool (decide (Y7≤1048576))) H3) (R (.bool false) H3)) (R (.bool false) H3)) (R (.bool false) H3)
def Tryz.p207:Plan:=(tl (tl leaf))
theorem Tryz.s207{p1:AV}{H R}(h:Tryz.S207 p1 H R):Tryz.C 207 #[.agg p1] H R:=vcs Tryz.tab_ok Tryz.mixed Tryz.func207 Tryz.cal207 Tryz.p207 h (by kernel_rfl)
def Tryz.S208(p1:AV)(H:Heap)(R:Kv):Prop:=
 alc H (.cells p1 146) fun b2 H3=> ∃X4,cell H3 (.add ⟨b2,0,none⟩ 0)=some (.int .i64 X4)∧ ∃Y5,cell H3 (.add ⟨b2,0,none⟩ 1)=some (.int .i64 Y5)∧(FloatKind.f64=FloatKind.f64∧R (.complex .f64 (floatOfInt .f64 X4) (floatOfInt .f64 Y5)) H3)
def Tryz.p208:Plan:=(tl (tl leaf))
theorem Tryz.s208{p1:AV}{H R}(h:Tryz.S208 p1 H R):Tryz.C 208 #[.agg p1] H R:=vcs Tryz.tab_ok Tryz.mixed Tryz.func208 Tryz.cal208 Tryz.p208 h (by kernel_rfl)
def Tryz.S209(a1r a1i b2r b2i:Nat)(H:Heap)(R:Kv):Prop:=
 (FloatKind.f64=FloatKind.f64∧(FloatKind.f64=FloatKind.f64∧FloatKind.f64=FloatKind.f64∧ ∃re3 im4:Nat,cMulBits a1r (Op.negFloat .f64 a1i) b2r b2i=some (re3,im4)∧R (.float .f64 im4) H))
def Tryz.p209:Plan:=(tl (tl leaf))
theorem Tryz.s209{a1r a1i b2r b2i:Nat}{H R}(h:Tryz.S209 a1r a1i b2r b2i H R):Tryz.C 209 #[.complex .f64 a1r a1i,.complex .f64 b2r b2i] H R:=vcs Tryz.tab_ok Tryz.mixed Tryz.func209 Tryz.cal209 Tryz.p209 h (by kernel_rfl)
def Tryz.S210(n1 m2:Int)(H:Heap)(R:Kv):Prop:=
 m2≠0∧ ∀J3:Kl,(∀(q4:Int) H5,(R (.int .i64 q4) H5)→J3 [.int .i64 q4] H5)→
 m2≠0∧br (((Int.tmod n1 m2):Int) != 0) (br (!((decide (n1<0))==(decide (m2<0)))) (J3 [.int .i64 (wrap .i64 ((wrap .i64 (Int.tdiv n1 m2))-1))] H) (J3 [.int .i64 (wrap .i64 (Int.tdiv n1 m2))] H)) (J3 [.int .i64 (wrap .i64 (Int.tdiv n1 m2))] H)
def Tryz.p210:Plan:=(tl (tl (two (join [(5,3)] [] (tl (tl leaf))) (tl leaf))))
theorem Tryz.s210{n1 m2:Int}{H R}(h:Tryz.S210 n1 m2 H R):Tryz.C 210 #[.int .i64 n1,.int .i64 m2] H R:=vcs Tryz.tab_ok Tryz.mixed Tryz.func210 Tryz.cal210 Tryz.p210 h (by kernel_rfl)
end Go.Proofs
namespace Go.Proofs
open Go.Sh Go.Sh.Plan
open Go.IntKind (wrap)
open Int (toNat)
end Go.Proofs
namespace Go.Tile
structure En where
 x:Int
 y:Int
 t:Nat
 born:Nat
structure Pl where
 b:Nat
 m:Nat
 w:Int
 h:Int
 en:List En
 clk:Nat
structure St where
 A:Nat
 free:Int
 pls:List Pl
 ts:List (Nat×List Int)
def En.at(e:En)(x y:Int):Bool:=x==e.x&&y==e.y
def tileOf(en:List En)(x y:Int):Option Nat:=(en.find? (·.at x y)).map (·.t)
def refs:List Pl→Nat→Nat
 |[],_=>0
 |p::r,t=>p.en.countP (·.t==t)+refs r t
def pxOf(ts:List (Nat×List Int))(t:Nat):Option (List Int):=(ts.find? (·.1==t)).map (·.2)
def setEn(x y:Int)(n clk:Nat):List En→List En
 |[]=>[⟨x,y,n,clk⟩]
 |e::r=>if e.at x y then{e with t:=n}::r else e::setEn x y n clk r
def setClk(en:List En)(x y:Int)(clk:Nat):Nat:=match tileOf en x y with
 |some _=>clk
 |none=>clk+1
structure PlOk(p:Pl):Prop where
 keys:(p.en.map fun e=>(e.x,e.y)).Nodup
 born:(p.en.map (·.born)).Nodup
 clk: ∀e∈p.en,e.born<p.clk
 w0:0≤p.w
 w1:p.w≤32768
 h0:0≤p.h
 h1:p.h≤32768
structure Ok(cap:Int)(s:St):Prop where
 pl: ∀p∈s.pls,PlOk p
 bs:(s.pls.map (·.b)).Nodup
 ms:(s.pls.map (·.m)).Nodup
 ts:(s.ts.map (·.1)).Nodup
 px: ∀x∈s.ts,x.2.length=256∧ ∀v∈x.2,0≤v∧v<4294967296
 live: ∀t,0<refs s.pls t↔t∈s.ts.map (·.1)
 count:s.free+s.ts.length=cap
 free:0≤s.free
 one: ∀p∈s.pls,∀t,p.en.countP (·.t==t)≤1
 len:s.pls.length≤1000000
 capb:cap≤1048576
def Pl.has(p:Pl)(x y:Int):Bool:=decide (0≤x∧x<p.w∧0≤y∧y<p.h)
def idx(x y:Int):Nat:=(y%16*16+x%16).toNat
def pxAt(s:St)(p:Pl)(x y:Int):Int:=
 match p.has x y with
 |true=>match tileOf p.en (x/16) (y/16) with
  |some t=>match pxOf s.ts t with
   |some l=>l.getD (idx x y) 0
   |none=>0
  |none=>0
 |false=>0
theorem tileOf_mem{en:List En}{x y:Int}{t:Nat}(h:tileOf en x y=some t): ∃e∈en,e.at x y=true∧e.t=t:=by
 unfold tileOf at h
 cases hf:en.find? (·.at x y) with
 |none=>rw[hf] at h;cases h
 |some e=>
  rw[hf] at h
  cases h
  exact⟨e,List.mem_of_find?_eq_some hf,by simpa using List.find?_some hf,rfl⟩
theorem refs_ge{pls:List Pl}{p:Pl}(hp:p∈pls)(t:Nat):p.en.countP (·.t==t)≤refs pls t:=by
 induction pls with
 |nil=>cases hp
 |cons q r ih=>
  unfold refs
  rcases List.mem_cons.1 hp with rfl|hp
  ·omega
  ·have:=ih hp;omega
theorem refs_pos{pls:List Pl}{p:Pl}(hp:p∈pls){e:En}(he:e∈p.en):0<refs pls e.t:=by
 have h1:0<p.en.countP (·.t==e.t):=List.countP_pos_iff.2 ⟨e,he,by simp⟩
 have h2:=refs_ge hp e.t
 omega
theorem refs_set{pls:List Pl}{k:Nat}{p p':Pl}(hk:pls[k]?=some p)(t:Nat):refs (pls.set k p') t+p.en.countP (·.t==t)=refs pls t+p'.en.countP (·.t==t):=by
 induction pls generalizing k with
 |nil=>cases hk
 |cons q r ih=>
  cases k with
  |zero=>simp at hk;subst hk;simp only[List.set_cons_zero,refs];omega
  |succ k=>simp only[List.getElem?_cons_succ] at hk;simp only[List.set_cons_succ,refs];have:=ih hk;omega
theorem refs_append(a b:List Pl)(t:Nat):refs (a++b) t=refs a t+refs b t:=by
 induction a with
 |nil=>simp[refs]
 |cons q r ih=>simp only[List.cons_append,refs,ih];omega
theorem Ok.px_of{cap:Int}{s:St}(h:Ok cap s){p:Pl}(hp:p∈s.pls){x y:Int}{t:Nat}(ht:tileOf p.en x y=some t):
 ∃l,pxOf s.ts t=some l∧(t,l)∈s.ts∧l.length=256∧ ∀v∈l,0≤v∧v<4294967296:=by
 obtain⟨e,he,_,rfl⟩:=tileOf_mem ht
 have hl:=(h.live e.t).1 (refs_pos hp he)
 obtain⟨z,hz,hzt⟩:=List.mem_map.1 hl
 have: ∃z',s.ts.find? (·.1==e.t)=some z':=by
  cases hf:s.ts.find? (·.1==e.t) with
  |some z'=>exact⟨z',rfl⟩
  |none=>
   have:=List.find?_eq_none.1 hf z hz
   simp[hzt] at this
 obtain⟨z',hz'⟩:=this
 have hm:=List.mem_of_find?_eq_some hz'
 have hk:z'.1=e.t:=by simpa using List.find?_some hz'
 have:=h.px z' hm
 refine⟨z'.2,by simp[pxOf,hz'],?_,this.1,this.2⟩
 rw[←hk];exact hm
theorem idx_lt(x y:Int):idx x y<256:=by unfold idx;omega
theorem at_iff{e:En}{x y:Int}:e.at x y=true↔x=e.x∧y=e.y:=by simp[En.at]
theorem tileOf_cons(e:En)(r:List En)(x y:Int):tileOf (e::r) x y=if e.at x y then some e.t else tileOf r x y:=by
 unfold tileOf
 rw[List.find?_cons]
 cases e.at x y<;>rfl
theorem tileOf_set(x y:Int)(n clk:Nat)(en:List En)(x' y':Int):tileOf (setEn x y n clk en) x' y'=if x'=x∧y'=y then some n else tileOf en x' y':=by
 induction en with
 |nil=>simp only[setEn,tileOf_cons,at_iff]
 |cons e r ih=>
  unfold setEn
  by_cases he:e.at x y=true
  ·rw[if_pos he,tileOf_cons,tileOf_cons]
   have h1:=at_iff.1 he
   simp only[at_iff]
   by_cases h:x'=x∧y'=y
   ·rw[if_pos (by rw[←h1.1,←h1.2];exact h),if_pos h]
   ·rw[if_neg (by rw[←h1.1,←h1.2];exact h),if_neg h,if_neg (by rw[←h1.1,←h1.2];exact h)]
  ·rw[if_neg he,tileOf_cons,tileOf_cons,ih]
   simp only[at_iff] at he ⊢
   by_cases h:x'=x∧y'=y
   ·rw[if_neg (by rw[h.1,h.2];exact he),if_pos h,if_pos h]
   ·rw[if_neg h,if_neg h]
theorem count_set_new{x y:Int}{n clk:Nat}: ∀{en:List En},(∀e∈en,e.t≠n)→(setEn x y n clk en).countP (·.t==n)=1
 |[],_=>by simp[setEn]
 |e::r,h=>by
  have hr:r.countP (·.t==n)=0:=List.countP_eq_zero.2 fun e' he'=>by simpa using h e' (List.mem_cons_of_mem _ he')
  have he:(e.t==n)=false:=by simpa using h e List.mem_cons_self
  unfold setEn
  split
  ·simp[List.countP_cons,hr]
  ·simp only[List.countP_cons,he,count_set_new fun e' he'=>h e' (List.mem_cons_of_mem _ he')]
   rfl
theorem count_set_old{x y:Int}{n clk t:Nat}(ht:t≠n): ∀{en:List En},(setEn x y n clk en).countP (·.t==t)+(if tileOf en x y=some t then 1 else 0)=en.countP (·.t==t)
 |[]=>by
  have:(n==t)=false:=by simpa using fun h=>ht h.symm
  simp[setEn,List.countP_cons,this,tileOf]
 |e::r=>by
  have hnt:(n==t)=false:=by simpa using fun h=>ht h.symm
  unfold setEn
  rw[tileOf_cons]
  by_cases he:e.at x y=true
  ·rw[if_pos he,if_pos he]
   simp only[List.countP_cons,hnt,Option.some.injEq]
   by_cases h:e.t=t<;>simp[h]
  ·rw[if_neg he,if_neg he]
   simp only[List.countP_cons]
   have:=count_set_old ht (en:=r) (x:=x) (y:=y) (clk:=clk)
   omega
def En.sig(e:En):Int×Int×Nat:=(e.x,e.y,e.born)
theorem set_none{x y:Int}(n clk:Nat){en:List En}(h:tileOf en x y=none):setEn x y n clk en=en++[⟨x,y,n,clk⟩]:=by
 induction en with
 |nil=>rfl
 |cons e r ih=>
  rw[tileOf_cons] at h
  unfold setEn
  split at h
  ·cases h
  ·rename_i he;rw[if_neg he,ih h];rfl
theorem set_some{x y:Int}(n clk:Nat){en:List En}{t:Nat}(h:tileOf en x y=some t):(setEn x y n clk en).map En.sig=en.map En.sig:=by
 induction en with
 |nil=>cases h
 |cons e r ih=>
  rw[tileOf_cons] at h
  unfold setEn
  split at h
  ·rename_i he;rw[if_pos he];rfl
  ·rename_i he;rw[if_neg he,List.map_cons,List.map_cons,ih h]
theorem PlOk.set{p:Pl}(h:PlOk p)(x y:Int)(n:Nat):PlOk {p with en:=setEn x y n p.clk p.en,clk:=setClk p.en x y p.clk}:=by
 have e1: ∀l:List En,(l.map fun e=>(e.x,e.y))=(l.map En.sig).map fun z=>(z.1,z.2.1):=fun l=>by rw[List.map_map];rfl
 have e2: ∀l:List En,(l.map (·.born))=(l.map En.sig).map fun z=>z.2.2:=fun l=>by rw[List.map_map];rfl
 cases ht:tileOf p.en x y with
 |some t=>
  have hs:=set_some n p.clk ht
  refine⟨?_,?_,?_,h.w0,h.w1,h.h0,h.h1⟩
  ·show((setEn x y n p.clk p.en).map fun e=>(e.x,e.y)).Nodup
   rw[e1,hs,←e1];exact h.keys
  ·show((setEn x y n p.clk p.en).map (·.born)).Nodup
   rw[e2,hs,←e2];exact h.born
  ·intro e he
   have h1:e.born∈(setEn x y n p.clk p.en).map (·.born):=List.mem_map.2 ⟨e,he,rfl⟩
   rw[e2,hs,←e2] at h1
   obtain⟨f,hf,hb⟩:=List.mem_map.1 h1
   have:=h.clk f hf
   show e.born<setClk p.en x y p.clk
   simp only[setClk,ht]
   omega
 |none=>
  have hs:=set_none n p.clk ht
  have hne: ∀e∈p.en,e.at x y=false:=fun e he=>by
   unfold tileOf at ht
   simp only[Option.map_eq_none_iff] at ht
   simpa using List.find?_eq_none.1 ht e he
  refine⟨?_,?_,?_,h.w0,h.w1,h.h0,h.h1⟩
  ·show((setEn x y n p.clk p.en).map fun e=>(e.x,e.y)).Nodup
   rw[hs,List.map_append,List.nodup_append]
   refine⟨h.keys,by simp,?_⟩
   intro a ha b hb hab
   simp at hb
   subst hab
   obtain⟨e,he,heq⟩:=List.mem_map.1 ha
   have:=hne e he
   rw[hb] at heq
   simp only[Prod.mk.injEq] at heq
   simp[En.at,heq.1,heq.2] at this
  ·show((setEn x y n p.clk p.en).map (·.born)).Nodup
   rw[hs,List.map_append,List.nodup_append]
   refine⟨h.born,by simp,?_⟩
   intro a ha b hb hab
   simp at hb
   obtain⟨e,he,heq⟩:=List.mem_map.1 ha
   have:=h.clk e he
   omega
  ·intro e he
   show e.born<setClk p.en x y p.clk
   simp only[setClk,ht]
   have he':e∈setEn x y n p.clk p.en:=he
   rw[hs] at he'
   rcases List.mem_append.1 he' with he'|he'
   ·have:=h.clk e he';omega
   ·simp at he';subst he';exact Nat.lt_succ_self _
theorem refs_le{pls:List Pl}(h: ∀p∈pls,∀t,p.en.countP (·.t==t)≤1)(t:Nat):refs pls t≤pls.length:=by
 induction pls with
 |nil=>simp[refs]
 |cons q r ih=>
  unfold refs
  have h1:=h q List.mem_cons_self t
  have h2:=ih fun p hp=>h p (List.mem_cons_of_mem _ hp)
  simp only[List.length_cons]
  omega
end Go.Tile
namespace Go.Proofs
open Go.Sh Go.Tile
def tenc(e:En):MapEntry:={key:= .agg #[.int .i64 e.x,.int .i64 e.y],val:= .pointer (some ⟨e.t,0,none⟩),born:=e.born}
def tileO(px:List Int)(u:Int):Obj:= .cells (px.map (Value.int .u32)++[Value.int .i64 u]).toArray 208
def arenaO(f:Int):Obj:= .cells #[.int .i64 f] 110
def planeO(A:Nat)(p:Pl):Obj:= .cells #[.pointer (some ⟨A,0,none⟩),.int .i64 p.w,.int .i64 p.h,.map (some p.m)] 203
def tmapO(p:Pl):Obj:= .map (p.en.map tenc).toArray p.clk
structure In(H:Heap)(s:St):Prop where
 arena:H[s.A]?=some (arenaO s.free)
 plane: ∀p∈s.pls,H[p.b]?=some (planeO s.A p)
 map: ∀p∈s.pls,H[p.m]?=some (tmapO p)
 tile: ∀x∈s.ts,H[x.1]?=some (tileO x.2 (refs s.pls x.1))
theorem In.ext{H H':Heap}{s:St}(h:In H s)(he:Ext H H'):In H' s:=
 ⟨he _ _ h.arena,fun p hp=>he _ _ (h.plane p hp),fun p hp=>he _ _ (h.map p hp),fun x hx=>he _ _ (h.tile x hx)⟩
theorem kf(x y:Int):kForm (.arr 2 3) (.int .i64) (.agg #[Value.int .i64 x,Value.int .i64 y]):=⟨rfl,x,y,rfl⟩
theorem kfs(en:List En): ∀e∈(en.map tenc).toArray.toList,kForm (.arr 2 3) (.int .i64) e.key:=by
 intro e he
 simp only[List.mem_map] at he
 obtain⟨f,_,rfl⟩:=he
 exact kf _ _
theorem kEq_enc(x y:Int)(e:En):kEq (.agg #[Value.int .i64 x,Value.int .i64 y]) (tenc e).key=e.at x y:=by
 simp[kEq,tenc,En.at]
theorem lookV_enc(x y:Int)(en:List En):lookV (.agg #[Value.int .i64 x,Value.int .i64 y]) (en.map tenc).toArray.toList (.pointer none)= .pointer ((tileOf en x y).map fun t=>⟨t,0,none⟩):=by
 have key: ∀(l:List En) (i:Nat),(match findE (.agg #[Value.int .i64 x,Value.int .i64 y]) (l.map tenc) i with|some (_,v)=>v|none=> .pointer none)=Value.pointer ((tileOf l x y).map fun t=>⟨t,0,none⟩):=by
  intro l
  induction l with
  |nil=>intro i;rfl
  |cons e r ih=>
   intro i
   simp only[List.map_cons,findE,kEq_enc,tileOf,List.find?_cons]
   cases he:e.at x y with
   |true=>simp[tenc]
   |false=>exact ih (i+1)
 exact key en 0
theorem c129{H:Heap}{b:Nat}{A:Nat}{p:Pl}(hp:H[b]?=some (planeO A p))(x y:Int){R:Value→Heap→Prop}(h:R (.bool (decide (0≤x∧x<p.w∧0≤y∧y<p.h))) H):
 CallsH Tryz.prog 129 #[.pointer (some ⟨b,0,none⟩),.int .i64 x,.int .i64 y] H R:=by
 refine Tryz.s129 ?_
 unfold Tryz.S129
 have e0: ∀q:Prop,[Decidable q]→(q↔(0≤x∧x<p.w∧0≤y∧y<p.h))→R (.bool (decide q)) H:=fun q _ hq=>by
  rw[show decide q=decide (0≤x∧x<p.w∧0≤y∧y<p.h) from decide_eq_decide.2 hq];exact h
 have e1:(¬(0≤x∧x<p.w∧0≤y∧y<p.h))→R (.bool false) H:=fun hn=>by rw[←decide_eq_false hn];exact h
 refine br_dec (fun h1=>⟨_,rfl,p.w,cell_get hp rfl,br_dec (fun h2=>br_dec (fun h3=>⟨_,rfl,p.h,cell_get hp rfl,e0 _ ?_⟩) (fun h3=>e1 ?_)) (fun h2=>e1 ?_)⟩) (fun h1=>e1 ?_)<;>omega
theorem c130{H:Heap}(v:Int){R:Value→Heap→Prop}(h:R (.bool (decide (0≤v∧v<4294967296))) H):CallsH Tryz.prog 130 #[.int .i64 v] H R:=by
 refine Tryz.s130 ?_
 unfold Tryz.S130
 refine br_dec (fun h1=>?_) (fun h1=>?_)
 ·rw[show decide (v<4294967296)=decide (0≤v∧v<4294967296) from decide_eq_decide.2 (by omega)];exact h
 ·rw[←decide_eq_false (p:=0≤v∧v<4294967296) (by omega)];exact h
theorem c132{H:Heap}{x y:Int}(x0:0≤x)(x1:x≤32768)(y0:0≤y)(y1:y≤32768){R:Value→Heap→Prop}
 (h: ∀H',Ext H H'→R (.tuple #[.agg #[.int .i64 (x/16),.int .i64 (y/16)],.int .i64 (y%16*16+x%16)]) H'):CallsH Tryz.prog 132 #[.int .i64 x,.int .i64 y] H R:=by
 refine Tryz.s132 ?_
 unfold Tryz.S132
 have e1:IntKind.wrap .i64 (Int.tdiv x 16)=x/16:=by rw[Int.tdiv_eq_ediv_of_nonneg x0];exact wrap_id (by omega) (by omega)
 have e2:IntKind.wrap .i64 (Int.tdiv y 16)=y/16:=by rw[Int.tdiv_eq_ediv_of_nonneg y0];exact wrap_id (by omega) (by omega)
 have e3:Int.tmod y 16=y%16:=Int.tmod_eq_emod_of_nonneg y0
 have e4:Int.tmod x 16=x%16:=Int.tmod_eq_emod_of_nonneg x0
 rw[e1,e2,e3,e4,wrap_id (n:=y%16*16) (by omega) (by omega),wrap_id (by omega) (by omega)]
 unfold alc
 refine⟨by decide,by decide,by decide,by decide,rfl,stAt_whole (get_push_self _ _) rfl (by simp[Value.oneCell']) ?_⟩
 refine⟨_,rfl,rowIn_whole (get_set_self (get_push_self _ _)),?_⟩
 refine h _ (fun b o hb=>get_set_ne (Nat.ne_of_gt (lt_of_get hb)) (get_push hb))
theorem c24{H:Heap}{A:Nat}{f:Int}(ha:H[A]?=some (arenaO f)){R:Value→Heap→Prop}(h:R (.int .i64 f) H):CallsH Tryz.prog 24 #[.pointer (some ⟨A,0,none⟩)] H R:=
 Tryz.s24 ⟨_,rfl,f,cell_get ha rfl,h⟩
theorem tile_cell{H:Heap}{t:Nat}{px:List Int}{u:Int}(h:H[t]?=some (tileO px u))(hl:px.length=256){i:Nat}(hi:i<256):cell H ⟨t,i,none⟩=some (.int .u32 (px.getD i 0)):=by
 refine cell_get h ?_
 simp only[List.getElem?_toArray]
 rw[List.getElem?_append_left (by simp[hl,hi])]
 simp[hl,hi]
theorem tile_users{H:Heap}{t:Nat}{px:List Int}{u:Int}(h:H[t]?=some (tileO px u))(hl:px.length=256):cell H ⟨t,256,none⟩=some (.int .i64 u):=by
 refine cell_get h ?_
 simp only[List.getElem?_toArray]
 rw[List.getElem?_append_right (by simp[hl])]
 simp[hl]
theorem c131{cap:Int}{H:Heap}{s:St}(hin:In H s)(hok:Ok cap s){p:Pl}(hp:p∈s.pls)(x y:Int){R:Value→Heap→Prop}(h: ∀H',Ext H H'→R (.int .i64 (pxAt s p x y)) H'):
 CallsH Tryz.prog 131 #[.pointer (some ⟨p.b,0,none⟩),.int .i64 x,.int .i64 y] H R:=by
 have pok:=hok.pl p hp
 refine Tryz.s131 ?_
 unfold Tryz.S131
 refine c129 (hin.plane p hp) x y ⟨_,rfl,br_not (fun hn=>?_) (fun hy=>?_)⟩
 ·have:pxAt s p x y=0:=by simp[pxAt,Pl.has,hn]
  rw[←this];exact h H (Ext.refl H)
 ·have hy':=of_decide_eq_true hy
  obtain⟨_,_,_,_⟩:=pok
  refine c132 (by omega) (by omega) (by omega) (by omega) fun H1 e1=>⟨_,_,rfl,?_⟩
  unfold alc
  refine⟨rfl,stAt_whole (get_push_self _ _) rfl (by simp[Value.oneCell']) ?_⟩
  generalize hH2:Array.setIfInBounds _ _ _=H2
  have e2:Ext H H2:=by
   subst hH2
   exact e1.trans fun b o hb=>get_set_ne (Nat.ne_of_gt (lt_of_get hb)) (get_push hb)
  have hk:H2[H1.size]?=some (.cells #[Value.int .i64 (x/16),Value.int .i64 (y/16)] 153):=by
   subst hH2
   exact get_set_self (get_push_self _ _)
  have hin2:=hin.ext e2
  refine⟨_,rfl,some p.m,cell_get (hin2.plane p hp) rfl,_,rfl,rowIn_whole hk,p.m,rfl,_,_,hin2.map p hp,kf _ _,kfs _,?_⟩
  refine⟨_,lookV_enc _ _ _,?_⟩
  cases ht:tileOf p.en (x/16) (y/16) with
  |none=>
   refine br_false ?_
   have:pxAt s p x y=0:=by simp[pxAt,Pl.has,hy,ht]
   rw[←this];exact h H2 e2
  |some t=>
   refine br_true ⟨_,rfl,by omega,by omega,?_⟩
   obtain⟨l,hl,hmem,hlen,hv⟩:=hok.px_of hp ht
   have hi:=idx_lt x y
   refine⟨l.getD (idx x y) 0,?_,?_⟩
   ·simp only[add_none,Nat.zero_add,Nat.mul_one]
    exact tile_cell (hin2.tile _ hmem) hlen hi
   ·have hx:pxAt s p x y=l.getD (idx x y) 0:=by simp[pxAt,Pl.has,hy,ht,hl]
    have hb:0≤l.getD (idx x y) 0∧l.getD (idx x y) 0<4294967296:=by
     have hlt:idx x y<l.length:=by omega
     rw[List.getD_eq_getElem?_getD,List.getElem?_eq_getElem hlt]
     exact hv _ (List.getElem_mem hlt)
    rw[wrap_id (by omega) (by omega),←hx]
    exact h H2 e2
end Go.Proofs
namespace Go.Tile
def zeros:List Int:=List.replicate 256 0
def needs(s:St)(p:Pl)(x y:Int):Bool:=
 match tileOf p.en x y with
 |some t=> !(refs s.pls t==1)
 |none=>true
def oldPx(s:St)(p:Pl)(x y:Int):List Int:=
 match tileOf p.en x y with
 |some t=>(pxOf s.ts t).getD zeros
 |none=>zeros
def Pl.own(p:Pl)(x y:Int)(n:Nat):Pl:={p with en:=setEn x y n p.clk p.en,clk:=setClk p.en x y p.clk}
def ownS(s:St)(k:Nat)(p:Pl)(x y:Int)(n:Nat):St:=
 {s with free:=s.free-1,pls:=s.pls.set k (p.own x y n),ts:=(n,oldPx s p x y)::s.ts}
def wrTs(ts:List (Nat×List Int))(t i:Nat)(v:Int):List (Nat×List Int):=ts.map fun z=>if z.1=t then(z.1,z.2.set i v) else z
def wrS(s:St)(t i:Nat)(v:Int):St:={s with ts:=wrTs s.ts t i v}
theorem pxOf_cons(z:Nat×List Int)(r:List (Nat×List Int))(t:Nat):pxOf (z::r) t=if z.1=t then some z.2 else pxOf r t:=by
 unfold pxOf
 rw[List.find?_cons]
 by_cases h:z.1=t
 ·simp[h]
 ·have:(z.1==t)=false:=by simpa using h
  rw[this,if_neg h]
theorem pxOf_wr(ts:List (Nat×List Int))(t i:Nat)(v:Int)(u:Nat):pxOf (wrTs ts t i v) u=if u=t then(pxOf ts t).map (·.set i v) else pxOf ts u:=by
 induction ts with
 |nil=>simp[wrTs,pxOf]
 |cons z r ih=>
  have:wrTs (z::r) t i v=(if z.1=t then(z.1,z.2.set i v) else z)::wrTs r t i v:=rfl
  rw[this,pxOf_cons,pxOf_cons,pxOf_cons,ih]
  by_cases h1:z.1=t<;>by_cases h2:u=t
  ·subst h2;simp[h1]
  ·have h3: ¬t=u:=fun h=>h2 h.symm
   simp[h1,h2,h3]
  ·subst h2;simp[h1]
  ·simp[h1,h2]
theorem wrTs_keys(ts:List (Nat×List Int))(t i:Nat)(v:Int):(wrTs ts t i v).map (·.1)=ts.map (·.1):=by
 unfold wrTs
 rw[List.map_map]
 apply List.map_congr_left
 intro z _
 simp only[Function.comp]
 split<;>rfl
theorem oldPx_ok{cap:Int}{s:St}(h:Ok cap s){p:Pl}(hp:p∈s.pls)(x y:Int):(oldPx s p x y).length=256∧ ∀v∈oldPx s p x y,0≤v∧v<4294967296:=by
 have hz:zeros.length=256∧ ∀v∈zeros,0≤v∧v<4294967296:=by
  refine⟨List.length_replicate,fun v hv=>?_⟩
  have:=List.eq_of_mem_replicate hv
  omega
 unfold oldPx
 split
 ·rename_i t ht
  obtain⟨l,hl,_,h1,h2⟩:=h.px_of hp ht
  rw[hl]
  exact⟨h1,h2⟩
 ·exact hz
theorem refs_own{s:St}{k:Nat}{p:Pl}(hk:s.pls[k]?=some p){x y:Int}{n:Nat}(hn: ∀q∈s.pls,∀e∈q.en,e.t≠n):
 refs (ownS s k p x y n).pls n=1∧ ∀t,t≠n→refs (ownS s k p x y n).pls t+(if tileOf p.en x y=some t then 1 else 0)=refs s.pls t:=by
 have hp:p∈s.pls:=List.mem_of_getElem? hk
 have hz: ∀q∈s.pls,q.en.countP (·.t==n)=0:=fun q hq=>List.countP_eq_zero.2 fun e he=>by simpa using hn q hq e he
 have hr:refs s.pls n=0:=by
  have: ∀l:List Pl,(∀q∈l,q.en.countP (·.t==n)=0)→refs l n=0:=by
   intro l
   induction l with
   |nil=>intro _;rfl
   |cons q r ih=>intro h;unfold refs;rw[h q List.mem_cons_self,ih fun q' hq'=>h q' (List.mem_cons_of_mem _ hq')]
  exact this _ hz
 refine⟨?_,fun t ht=>?_⟩
 ·have h1:=refs_set (p':=p.own x y n) hk n
  have h2:(p.own x y n).en.countP (·.t==n)=1:=count_set_new fun e he=>hn p hp e he
  rw[hz p hp,h2,hr] at h1
  simpa[ownS] using h1
 ·have h1:=refs_set (p':=p.own x y n) hk t
  have h2:(p.own x y n).en.countP (·.t==t)+(if tileOf p.en x y=some t then 1 else 0)=p.en.countP (·.t==t):=count_set_old ht
  show refs (s.pls.set k (p.own x y n)) t+_=_
  omega
theorem refs_of_tile{cap:Int}{s:St}(h:Ok cap s){p:Pl}(hp:p∈s.pls){x y:Int}{t:Nat}(ht:tileOf p.en x y=some t):0<refs s.pls t∧t∈s.ts.map (·.1):=by
 obtain⟨e,he,_,rfl⟩:=tileOf_mem ht
 have:=refs_pos hp he
 exact⟨this,(h.live _).1 this⟩
theorem ownS_ok{cap:Int}{s:St}(h:Ok cap s){k:Nat}{p:Pl}(hk:s.pls[k]?=some p){x y:Int}(hneed:needs s p x y=true)(hfree:s.free≠0){n:Nat}(hn:n∉s.ts.map (·.1)):
 Ok cap (ownS s k p x y n):=by
 have hp:p∈s.pls:=List.mem_of_getElem? hk
 have hnt: ∀q∈s.pls,∀e∈q.en,e.t≠n:=fun q hq e he heq=>by
  have:=(h.live e.t).1 (refs_pos hq he)
  rw[heq] at this
  exact hn this
 obtain⟨r1,r2⟩:=refs_own hk (x:=x) (y:=y) hnt
 obtain⟨hlen,hpk⟩:=List.getElem?_eq_some_iff.1 hk
 refine⟨?_,?_,?_,?_,?_,?_,?_,?_,?_,?_,h.capb⟩
 ·intro q hq
  rcases List.mem_or_eq_of_mem_set hq with hq|rfl
  ·exact h.pl q hq
  ·exact(h.pl p hp).set x y n
 ·have:(s.pls.set k (p.own x y n)).map (·.b)=s.pls.map (·.b):=by
   rw[List.map_set]
   apply List.ext_getElem?
   intro i
   rw[List.getElem?_set]
   split
   ·rename_i hki;subst hki;simp[hpk,Pl.own,hlen]
   ·rfl
  show((s.pls.set k (p.own x y n)).map (·.b)).Nodup
  rw[this];exact h.bs
 ·have:(s.pls.set k (p.own x y n)).map (·.m)=s.pls.map (·.m):=by
   rw[List.map_set]
   apply List.ext_getElem?
   intro i
   rw[List.getElem?_set]
   split
   ·rename_i hki;subst hki;simp[hpk,Pl.own,hlen]
   ·rfl
  show((s.pls.set k (p.own x y n)).map (·.m)).Nodup
  rw[this];exact h.ms
 ·exact List.nodup_cons.2 ⟨hn,h.ts⟩
 ·intro z hz
  rcases List.mem_cons.1 hz with rfl|hz
  ·exact oldPx_ok h hp x y
  ·exact h.px z hz
 ·intro t
  show 0<refs (ownS s k p x y n).pls t↔t∈n::s.ts.map (·.1)
  by_cases htn:t=n
  ·subst htn;rw[r1];simp
  ·have h2:=r2 t htn
   rw[List.mem_cons]
   by_cases ht:tileOf p.en x y=some t
   ·obtain⟨h3,h4⟩:=refs_of_tile h hp ht
    have h5:refs s.pls t≠1:=by
     unfold needs at hneed
     rw[ht] at hneed
     simpa using hneed
    rw[if_pos ht] at h2
    exact⟨fun _=> .inr h4,fun _=>by omega⟩
   ·rw[if_neg ht] at h2
    rw[show refs (ownS s k p x y n).pls t=refs s.pls t by omega]
    exact⟨fun hh=> .inr ((h.live t).1 hh),fun hh=>(h.live t).2 (hh.resolve_left htn)⟩
 ·have:=h.count
  show s.free-1+((s.ts.length+1:Nat):Int)=cap
  omega
 ·have:=h.free
  show 0≤s.free-1
  omega
 ·intro q hq t
  rcases List.mem_or_eq_of_mem_set hq with hq|rfl
  ·exact h.one q hq t
  ·by_cases htn:t=n
   ·subst htn
    have:(p.own x y t).en.countP (·.t==t)=1:=count_set_new fun e he=>hnt p hp e he
    omega
   ·have h2:(p.own x y n).en.countP (·.t==t)+(if tileOf p.en x y=some t then 1 else 0)=p.en.countP (·.t==t):=count_set_old htn
    have:=h.one p hp t
    omega
 ·show(s.pls.set k (p.own x y n)).length≤1000000
  rw[List.length_set];exact h.len
theorem wrS_ok{cap:Int}{s:St}(h:Ok cap s)(t i:Nat){v:Int}(h0:0≤v)(h1:v<4294967296):Ok cap (wrS s t i v):=by
 refine⟨h.pl,h.bs,h.ms,?_,?_,?_,?_,h.free,h.one,h.len,h.capb⟩
 ·show((wrTs s.ts t i v).map (·.1)).Nodup
  rw[wrTs_keys];exact h.ts
 ·intro z hz
  obtain⟨z',hz',rfl⟩:=List.mem_map.1 hz
  have:=h.px z' hz'
  split
  ·refine⟨by simpa using this.1,fun u hu=>?_⟩
   rcases List.mem_or_eq_of_mem_set hu with hu|rfl
   ·exact this.2 u hu
   ·exact⟨h0,h1⟩
  ·exact this
 ·intro u
  show 0<refs s.pls u↔u∈(wrTs s.ts t i v).map (·.1)
  rw[wrTs_keys];exact h.live u
 ·have:(wrTs s.ts t i v).length=s.ts.length:=by simp[wrTs]
  show s.free+((wrTs s.ts t i v).length:Int)=cap
  rw[this];exact h.count
end Go.Tile
namespace Go.Tile
theorem countP_two{α:Type}{f:α→Bool}{l:List α}{a b:α}(ha:a∈l)(hb:b∈l)(hab:a≠b)(fa:f a=true)(fb:f b=true):2≤l.countP f:=by
 induction l with
 |nil=>cases ha
 |cons c r ih=>
  rw[List.countP_cons]
  rcases List.mem_cons.1 ha with rfl|ha'
  ·rcases List.mem_cons.1 hb with rfl|hb'
   ·exact absurd rfl hab
   ·have:0<r.countP f:=List.countP_pos_iff.2 ⟨b,hb',fb⟩
    rw[if_pos fa];omega
  ·rcases List.mem_cons.1 hb with rfl|hb'
   ·have:0<r.countP f:=List.countP_pos_iff.2 ⟨a,ha',fa⟩
    rw[if_pos fb];omega
   ·have:=ih ha' hb';omega
theorem refs_two{pls:List Pl}{j k:Nat}(hjk:j≠k){p q:Pl}(hp:pls[k]?=some p)(hq:pls[j]?=some q)(t:Nat):p.en.countP (·.t==t)+q.en.countP (·.t==t)≤refs pls t:=by
 induction pls generalizing j k with
 |nil=>cases hp
 |cons r l ih=>
  unfold refs
  cases k with
  |zero=>
   cases j with
   |zero=>exact absurd rfl hjk
   |succ j=>
    simp at hp hq;subst hp
    have:=refs_ge (List.mem_of_getElem? hq) t
    omega
  |succ k=>
   cases j with
   |zero=>
    simp at hp hq;subst hq
    have:=refs_ge (List.mem_of_getElem? hp) t
    omega
   |succ j=>
    simp at hp hq
    have:=ih (fun h=>hjk (by rw[h])) hp hq
    omega
theorem only_user{s:St}{t:Nat}(h1:refs s.pls t=1){j k:Nat}{p q:Pl}(hp:s.pls[k]?=some p)(hq:s.pls[j]?=some q){e f:En}(he:e∈p.en)(het:e.t=t)(hf:f∈q.en)(hft:f.t=t):
 j=k∧e=f:=by
 have fe:(e.t==t)=true:=by simp[het]
 have ff:(f.t==t)=true:=by simp[hft]
 by_cases hjk:j=k
 ·subst hjk
  rw[hp] at hq;cases hq
  refine⟨rfl,?_⟩
  by_cases hef:e=f
  ·exact hef
  ·have:=countP_two (f:=fun e:En=>e.t==t) he hf hef fe ff
   have:=refs_ge (List.mem_of_getElem? hp) t
   omega
 ·have h2:=refs_two hjk hp hq t
  have h3:0<p.en.countP (·.t==t):=List.countP_pos_iff.2 ⟨e,he,fe⟩
  have h4:0<q.en.countP (·.t==t):=List.countP_pos_iff.2 ⟨f,hf,ff⟩
  omega
theorem own_pls{s:St}{k:Nat}{p:Pl}(x y:Int)(n:Nat)(hk:s.pls[k]?=some p)(j:Nat):(ownS s k p x y n).pls[j]?=if j=k then some (p.own x y n) else s.pls[j]?:=by
 obtain⟨hlen,_⟩:=List.getElem?_eq_some_iff.1 hk
 show(s.pls.set k _)[j]?=_
 rw[List.getElem?_set]
 by_cases h:j=k
 ·subst h;simp[hlen]
 ·have: ¬k=j:=fun h'=>h h'.symm
  rw[if_neg this,if_neg h]
theorem px_own{cap:Int}{s:St}(h:Ok cap s){k:Nat}{p:Pl}(hk:s.pls[k]?=some p)(x y:Int){n:Nat}(hn:n∉s.ts.map (·.1)){q:Pl}(hq:q∈s.pls)(X Y:Int):
 pxAt (ownS s k p x y n) q X Y=pxAt s q X Y∧pxAt (ownS s k p x y n) (p.own x y n) X Y=pxAt s p X Y:=by
 have hother: ∀(q:Pl),q∈s.pls→ ∀a b t,tileOf q.en a b=some t→pxOf ((n,oldPx s p x y)::s.ts) t=pxOf s.ts t:=fun q hq a b t ht=>by
  have:=(refs_of_tile h hq ht).2
  rw[pxOf_cons,if_neg (fun heq=>hn (by rw[show n=t from heq];exact this))]
 have hp:p∈s.pls:=List.mem_of_getElem? hk
 constructor
 ·unfold pxAt
  cases q.has X Y with
  |false=>rfl
  |true=>
   cases ht:tileOf q.en (X/16) (Y/16) with
   |none=>rfl
   |some t=>
    show(match pxOf ((n,oldPx s p x y)::s.ts) t with|some l=>l.getD (idx X Y) 0|none=>0)=_
    rw[hother q hq _ _ t ht]
    all_goals rfl
 ·unfold pxAt
  have hh:(p.own x y n).has X Y=p.has X Y:=rfl
  rw[hh]
  cases p.has X Y with
  |false=>rfl
  |true=>
   have h1:tileOf (p.own x y n).en (X/16) (Y/16)=if X/16=x∧Y/16=y then some n else tileOf p.en (X/16) (Y/16):=tileOf_set _ _ _ _ _ _ _
   rw[h1]
   by_cases hxy:X/16=x∧Y/16=y
   ·rw[if_pos hxy]
    show(match pxOf ((n,oldPx s p x y)::s.ts) n with|some l=>l.getD (idx X Y) 0|none=>0)=_
    rw[pxOf_cons,if_pos rfl,hxy.1,hxy.2]
    show(oldPx s p x y).getD (idx X Y) 0=_
    unfold oldPx
    cases ht:tileOf p.en x y with
    |none=>
     show zeros.getD (idx X Y) 0=0
     rw[List.getD_eq_getElem?_getD]
     unfold zeros
     rw[List.getElem?_replicate,if_pos (idx_lt X Y)]
     rfl
    |some t=>
     obtain⟨l,hl,_⟩:=h.px_of hp ht
     simp only[hl,Option.getD_some]
   ·rw[if_neg hxy]
    cases ht:tileOf p.en (X/16) (Y/16) with
    |none=>rfl
    |some t=>
     show(match pxOf ((n,oldPx s p x y)::s.ts) t with|some l=>l.getD (idx X Y) 0|none=>0)=_
     rw[hother p hp _ _ t ht]
     all_goals rfl
theorem idx_inj{x y X Y:Int}(hx:X/16=x/16)(hy:Y/16=y/16)(hi:idx X Y=idx x y):X=x∧Y=y:=by
 unfold idx at hi
 omega
theorem px_wr{cap:Int}{s:St}(h:Ok cap s){k:Nat}{p:Pl}(hk:s.pls[k]?=some p){x y:Int}(hin:p.has x y=true){t:Nat}(ht:tileOf p.en (x/16) (y/16)=some t)(h1:refs s.pls t=1)
 (v:Int){j:Nat}{q:Pl}(hq:s.pls[j]?=some q)(X Y:Int):
 pxAt (wrS s t (idx x y) v) q X Y=if j=k∧X=x∧Y=y then v else pxAt s q X Y:=by
 obtain⟨e,he,heat,het⟩:=tileOf_mem ht
 have hp:p∈s.pls:=List.mem_of_getElem? hk
 have hqm:q∈s.pls:=List.mem_of_getElem? hq
 obtain⟨l,hl,_,hlen,_⟩:=h.px_of hp ht
 have hwr: ∀u,pxOf (wrS s t (idx x y) v).ts u=if u=t then some (l.set (idx x y) v) else pxOf s.ts u:=fun u=>by
  show pxOf (wrTs s.ts t (idx x y) v) u=_
  rw[pxOf_wr,hl];rfl
 by_cases hc:j=k∧X=x∧Y=y
 ·rw[if_pos hc]
  obtain⟨rfl,rfl,rfl⟩:=hc
  rw[hk] at hq;cases hq
  unfold pxAt
  rw[hin]
  simp only[ht,hwr,if_true]
  rw[List.getD_eq_getElem?_getD,List.getElem?_set,if_pos rfl,if_pos (by rw[hlen];exact idx_lt X Y)]
  rfl
 ·rw[if_neg hc]
  unfold pxAt
  cases hqh:q.has X Y with
  |false=>rfl
  |true=>
   simp only[]
   cases hu:tileOf q.en (X/16) (Y/16) with
   |none=>rfl
   |some u=>
    simp only[hwr]
    by_cases hut:u=t
    ·subst hut
     obtain⟨f,hf,hfat,hft⟩:=tileOf_mem hu
     obtain⟨hjk,hef⟩:=only_user h1 hk hq he het hf hft
     subst hef
     have a1:=at_iff.1 heat
     have a2:=at_iff.1 hfat
     rw[if_pos rfl,hl]
     simp only[]
     have hne:idx x y≠idx X Y:=fun hi=>hc ⟨hjk,idx_inj (by omega) (by omega) hi.symm⟩
     rw[List.getD_eq_getElem?_getD,List.getElem?_set,if_neg hne,←List.getD_eq_getElem?_getD]
    ·rw[if_neg hut]
end Go.Tile
namespace Go.Proofs
open Go.Sh Go.Tile
def owned(s:St)(b:Nat):Prop:=b=s.A∨(∃p∈s.pls,b=p.m)∨b∈s.ts.map (·.1)
structure Goes(cap:Int)(H:Heap)(s:St)(H':Heap)(s':St):Prop where
 inn:In H' s'
 ok:Ok cap s'
 fr: ∀b o,H[b]?=some o→ ¬owned s b→H'[b]?=some o
 own: ∀b,owned s' b→owned s b∨H.size≤b
 sz:H.size≤H'.size
theorem Goes.of_ext{cap:Int}{H H':Heap}{s:St}(hin:In H s)(hok:Ok cap s)(he:Ext H H'):Goes cap H s H' s:=
 ⟨hin.ext he,hok,fun b o hb _=>he b o hb,fun b hb=> .inl hb,he.size⟩
theorem Goes.trans{cap:Int}{H H' H'':Heap}{s s' s'':St}(h:Goes cap H s H' s')(h':Goes cap H' s' H'' s''):Goes cap H s H'' s'':=by
 refine⟨h'.inn,h'.ok,fun b o hb hn=>h'.fr b o (h.fr b o hb hn) fun ho=>?_,fun b hb=>?_,Nat.le_trans h.sz h'.sz⟩
 ·rcases h.own b ho with ho|ho
  ·exact hn ho
  ·exact absurd (lt_of_get hb) (Nat.not_lt.2 ho)
 ·rcases h'.own b hb with hb|hb
  ·exact h.own b hb
  ·exact .inr (Nat.le_trans h.sz hb)
theorem tile_size(px:List Int)(u:Int)(hl:px.length=256):(px.map (Value.int .u32)++[Value.int .i64 u]).toArray.size=257:=by simp[hl]
theorem stAt_users{H:Heap}{t:Nat}{px:List Int}{u v:Int}{f:Heap→Prop}(h:H[t]?=some (tileO px u))(hl:px.length=256)(hf:f (H.setIfInBounds t (tileO px v))):
 stAt H ⟨t,256,none⟩ [Value.int .i64 v] f:=by
 refine stAt_one h (by rw[tile_size px u hl];omega) rfl ?_
 have:(px.map (Value.int .u32)++[Value.int .i64 u]).toArray.setIfInBounds 256 (Value.int .i64 v)=(px.map (Value.int .u32)++[Value.int .i64 v]).toArray:=by
  apply Array.toList_inj.1
  simp only[List.setIfInBounds_toArray]
  rw[List.set_append_right _ _ (by simp[hl])]
  simp[hl]
 rw[this]
 exact hf
theorem stAt_pixel{H:Heap}{t i:Nat}{px:List Int}{u v:Int}{f:Heap→Prop}(h:H[t]?=some (tileO px u))(hl:px.length=256)(hi:i<256)(hf:f (H.setIfInBounds t (tileO (px.set i v) u))):
 stAt H ⟨t,i,none⟩ [Value.int .u32 v] f:=by
 refine stAt_one h (by rw[tile_size px u hl];omega) rfl ?_
 have:(px.map (Value.int .u32)++[Value.int .i64 u]).toArray.setIfInBounds i (Value.int .u32 v)=((px.set i v).map (Value.int .u32)++[Value.int .i64 u]).toArray:=by
  apply Array.toList_inj.1
  simp only[List.setIfInBounds_toArray]
  rw[List.set_append_left _ _ (by simp[hl,hi]),List.map_set]
 rw[this]
 exact hf
theorem stAt_copy{H:Heap}{t:Nat}{px px':List Int}{u:Int}{f:Heap→Prop}(h:H[t]?=some (tileO px u))(hl:px.length=256)(hl':px'.length=256)(hf:f (H.setIfInBounds t (tileO px' u))):
 stAt H ⟨t,0,none⟩ (px'.map (Value.int .u32)).toArray.toList f:=by
 refine⟨_,_,h,rfl,by rw[tile_size px u hl];simp[hl'],fun v hv=>?_,?_⟩
 ·simp only[List.mem_map] at hv
  obtain⟨z,_,rfl⟩:=hv
  rfl
 ·have:setL (px.map (Value.int .u32)++[Value.int .i64 u]) 0 (px'.map (Value.int .u32))=px'.map (Value.int .u32)++[Value.int .i64 u]:=by
   simp[setL,hl,hl']
  simp only[this]
  exact hf
theorem row_tile{H:Heap}{t:Nat}{px:List Int}{u:Int}(h:H[t]?=some (tileO px u)):rowIn H ⟨t,0,none⟩ (px.map (Value.int .u32)).toArray:=
 rowIn_block h fun j v hv=>by
  simp only[List.getElem?_toArray] at hv ⊢
  rw[Nat.zero_add,List.getElem?_append_left (List.getElem?_eq_some_iff.1 hv).1]
  exact hv
theorem findE_none{x y:Int}{en:List En}{i:Nat}(h:findE (.agg #[Value.int .i64 x,Value.int .i64 y]) (en.map tenc) i=none):tileOf en x y=none:=by
 induction en generalizing i with
 |nil=>rfl
 |cons e r ih=>
  simp only[List.map_cons,findE,kEq_enc] at h
  rw[tileOf_cons]
  cases he:e.at x y with
  |true=>rw[he] at h;cases h
  |false=>rw[he] at h;simpa using ih h
theorem findE_some{x y:Int}(n clk:Nat){en:List En}{i j:Nat}{u:Value}(h:findE (.agg #[Value.int .i64 x,Value.int .i64 y]) (en.map tenc) i=some (j,u)):
 i≤j∧(∃t,tileOf en x y=some t)∧(setEn x y n clk en).map tenc=(en.map tenc).modify (j-i) fun e=>{e with val:= .pointer (some ⟨n,0,none⟩)}:=by
 induction en generalizing i with
 |nil=>cases h
 |cons e r ih=>
  simp only[List.map_cons,findE,kEq_enc] at h
  rw[tileOf_cons]
  unfold setEn
  cases he:e.at x y with
  |true=>
   rw[he] at h
   simp only[if_true,Option.some.injEq,Prod.mk.injEq] at h
   obtain⟨rfl,_⟩:=h
   exact⟨Nat.le_refl _,⟨_,rfl⟩,by simp[tenc]⟩
  |false=>
   rw[he] at h
   obtain⟨h1,h2,h3⟩:=ih h
   refine⟨by omega,by simpa using h2,?_⟩
   have:j-i=(j-(i+1))+1:=by omega
   rw[this]
   simp only[Bool.false_eq_true,if_false,List.map_cons,List.modify_succ_cons,h3]
theorem updQ_enc{H:Heap}{m clk n:Nat}{en:List En}{x y:Int}{f:Heap→Prop}(h:H[m]?=some (.map (en.map tenc).toArray clk))
 (hf:f (H.setIfInBounds m (.map ((setEn x y n clk en).map tenc).toArray (setClk en x y clk)))):
 updQ (.arr 2 3) (.int .i64) (.map (some m)) (.agg #[Value.int .i64 x,Value.int .i64 y]) (.pointer (some ⟨n,0,none⟩)) H f:=by
 refine⟨m,rfl,_,_,h,kf _ _,kfs _,fun hn=>?_,fun j u hs=>?_⟩
 ·have ht:=findE_none hn
  have:((en.map tenc).toArray.push {key:= .agg #[Value.int .i64 x,Value.int .i64 y],val:= .pointer (some ⟨n,0,none⟩),born:=clk})=((setEn x y n clk en).map tenc).toArray:=by
   rw[set_none n clk ht];simp[tenc]
  rw[this]
  simpa[setClk,ht] using hf
 ·obtain⟨_,⟨t,ht⟩,h3⟩:=findE_some n clk hs
  rw[Nat.sub_zero] at h3
  have:((en.map tenc).toArray.modify j fun e=>{e with val:= .pointer (some ⟨n,0,none⟩)})=((setEn x y n clk en).map tenc).toArray:=by
   rw[h3];simp
  rw[this]
  simpa[setClk,ht] using hf
theorem in_own{cap:Int}{H H':Heap}{s:St}(hin:In H s)(hok:Ok cap s){k:Nat}{p:Pl}(hk:s.pls[k]?=some p){x y:Int}{n:Nat}(hn:H.size≤n)
 (ha:H'[s.A]?=some (arenaO (s.free-1)))(hb:H'[n]?=some (tileO (oldPx s p x y) 1))(hc: ∀t l,tileOf p.en x y=some t→(t,l)∈s.ts→H'[t]?=some (tileO l (refs s.pls t-1)))
 (hd:H'[p.m]?=some (tmapO (p.own x y n)))(he: ∀b o,H[b]?=some o→b≠s.A→b≠p.m→(∀t,tileOf p.en x y=some t→b≠t)→H'[b]?=some o):In H' (ownS s k p x y n):=by
 have hp:p∈s.pls:=List.mem_of_getElem? hk
 have hne: ∀t,t∈s.ts.map (·.1)→t≠n:=fun t ht heq=>by
  obtain⟨z,hz,rfl⟩:=List.mem_map.1 ht
  have:=lt_of_get (hin.tile z hz)
  omega
 have hnt: ∀q∈s.pls,∀e∈q.en,e.t≠n:=fun q hq e heq'=>hne _ ((hok.live _).1 (refs_pos hq heq'))
 obtain⟨r1,r2⟩:=refs_own hk (x:=x) (y:=y) hnt
 have htile: ∀t,tileOf p.en x y=some t→ ∃l,(t,l)∈s.ts∧H[t]?=some (tileO l (refs s.pls t)):=fun t ht=>by
  obtain⟨l,_,hm,_⟩:=hok.px_of hp ht
  exact⟨l,hm,hin.tile _ hm⟩
 refine⟨ha,fun q hq=>?_,fun q hq=>?_,fun z hz=>?_⟩
 ·have:H[q.b]?=some (planeO s.A q):=by
   rcases List.mem_or_eq_of_mem_set hq with hq|rfl
   ·exact hin.plane q hq
   ·exact hin.plane p hp
  refine he _ _ this (ne_of_ty this hin.arena (by decide)) (ne_of_map this (hin.map p hp)) fun t ht=>?_
  obtain⟨l,_,hl⟩:=htile t ht
  exact ne_of_ty this hl (by decide)
 ·obtain⟨j,hj⟩:=List.getElem?_of_mem hq
  rw[own_pls x y n hk] at hj
  by_cases hjk:j=k
  ·rw[if_pos hjk] at hj;cases hj;exact hd
  ·rw[if_neg hjk] at hj
   have hqm:q∈s.pls:=List.mem_of_getElem? hj
   have hm:=hin.map q hqm
   refine he _ _ hm (ne_of_map' hm hin.arena) (fun heq=>hjk ?_) fun t ht=>?_
   ·have h1:(s.pls.map (·.m))[j]?=some q.m:=by rw[List.getElem?_map,hj];rfl
    have h2:(s.pls.map (·.m))[k]?=some q.m:=by rw[List.getElem?_map,hk,heq];rfl
    exact(List.getElem?_inj (List.getElem?_eq_some_iff.1 h1).1 hok.ms).1 (by rw[h1,h2])
   ·obtain⟨l,_,hl⟩:=htile t ht
    exact ne_of_map' hm hl
 ·rcases List.mem_cons.1 hz with rfl|hz
  ·show H'[n]?=some (tileO _ ((refs (ownS s k p x y n).pls n:Nat):Int))
   rw[r1];exact hb
  ·have hzm:z.1∈s.ts.map (·.1):=List.mem_map.2 ⟨z,hz,rfl⟩
   have hzn:=hne _ hzm
   have h2:=r2 z.1 hzn
   have hpos:=(hok.live z.1).2 hzm
   show H'[z.1]?=some (tileO z.2 ((refs (ownS s k p x y n).pls z.1:Nat):Int))
   by_cases ht:tileOf p.en x y=some z.1
   ·rw[if_pos ht] at h2
    have:=hc z.1 z.2 ht hz
    rw[this]
    congr 2
    omega
   ·rw[if_neg ht] at h2
    have hzt:=hin.tile z hz
    rw[show refs (ownS s k p x y n).pls z.1=refs s.pls z.1 by omega]
    refine he _ _ hzt (ne_of_ty hzt hin.arena (by decide)) (ne_of_map hzt (hin.map p hp)) fun t ht' heq=>ht (by rw[ht',heq])
theorem own_owned{s:St}{k:Nat}{p:Pl}(hk:s.pls[k]?=some p)(x y:Int)(n:Nat)(b:Nat)(h:owned (ownS s k p x y n) b):owned s b∨b=n:=by
 rcases h with h|⟨q,hq,rfl⟩|h
 ·exact .inl (.inl h)
 ·rcases List.mem_or_eq_of_mem_set hq with hq|rfl
  ·exact .inl (.inr (.inl ⟨q,hq,rfl⟩))
  ·exact .inl (.inr (.inl ⟨p,List.mem_of_getElem? hk,rfl⟩))
 ·rcases List.mem_cons.1 h with rfl|h
  ·exact .inr rfl
  ·exact .inl (.inr (.inr h))
end Go.Proofs
namespace Go.Proofs
open Go.Sh Go.Tile
theorem zeros_len:zeros.length=256:=List.length_replicate
theorem zero_tile:Obj.cells (List.toArray (List.set (Array.toList ((Array.replicate 256 (Value.int .u32 0)++#[Value.int .i64 0]))) 256 (Value.int .i64 1))) 208=tileO zeros 1:=by
 have h:(Array.toList ((Array.replicate 256 (Value.int .u32 0)++#[Value.int .i64 0])))=zeros.map (Value.int .u32)++[Value.int .i64 0]:=by
  rw[Array.toList_append,Array.toList_replicate]
  unfold zeros
  rw[List.map_replicate]
 rw[h,List.set_append_right _ _ (by rw[List.length_map,zeros_len];exact Nat.le_refl _)]
 simp only[List.length_map,zeros_len,Nat.sub_self,List.set_cons_zero]
 rfl
set_option maxHeartbeats 1000000 in
theorem c133{cap:Int}{H:Heap}{s:St}(hin:In H s)(hok:Ok cap s){k:Nat}{p:Pl}(hk:s.pls[k]?=some p)(x y:Int){R:Value→Heap→Prop}
 (hyes:needs s p x y=false→ ∀H',Ext H H'→R (.bool true) H')(hno:needs s p x y=true→s.free=0→ ∀H',Ext H H'→R (.bool false) H')
 (hnew:needs s p x y=true→s.free≠0→ ∀H' n,H.size≤n→Goes cap H s H' (ownS s k p x y n)→R (.bool true) H'):
 CallsH Tryz.prog 133 #[.pointer (some ⟨p.b,0,none⟩),.agg #[.int .i64 x,.int .i64 y]] H R:=by
 have hp:p∈s.pls:=List.mem_of_getElem? hk
 refine Tryz.s133 ?_
 unfold Tryz.S133 alc
 generalize hH4:H.push _=H4
 have e4:Ext H H4:=by subst hH4;exact Ext.push _ _
 have hkey:H4[H.size]?=some (.cells #[Value.int .i64 x,Value.int .i64 y] 153):=by subst hH4;exact get_push_self _ _
 have s4:H4.size=H.size+1:=by subst hH4;simp
 have hin4:=hin.ext e4
 refine⟨_,rfl,some p.m,cell_get (hin4.plane p hp) rfl,_,rfl,rowIn_whole hkey,p.m,rfl,_,_,hin4.map p hp,kf _ _,kfs _,_,lookV_enc _ _ _,?_⟩
 intro J hJ
 -- behind the first test
 have hJ':needs s p x y=true→J [] H4:=by
  intro hneed
  refine hJ H4 ⟨_,rfl,_,cell_get (hin4.plane p hp) rfl,_,rfl,s.free,cell_get hin4.arena rfl,?_⟩
  refine br_eq (fun h0=>hno hneed h0 H4 e4) (fun h0=>?_)
  refine⟨_,rfl,_,cell_get (hin4.plane p hp) rfl,_,rfl,s.free,cell_get hin4.arena rfl,_,rfl,?_⟩
  have hfree:=hok.free
  have hcount:=hok.count
  have hcapb:=hok.capb
  rw[wrap_id (by omega) (by omega)]
  refine stAt_one hin4.arena (by simp) rfl ?_
  simp only[zero_tile]
  generalize hH5:H4.setIfInBounds s.A _=H5
  have s5:H5.size=H4.size:=by subst hH5;simp
  have ha5:H5[s.A]?=some (arenaO (s.free-1)):=by subst hH5;exact get_set_self hin4.arena
  have he5: ∀b o,H4[b]?=some o→b≠s.A→H5[b]?=some o:=fun b o hb hne=>by subst hH5;exact get_set_ne (Ne.symm hne) hb
  generalize hH6:H5.push (tileO zeros 1)=H6
  have hn6:H6[H5.size]?=some (tileO zeros 1):=by subst hH6;exact get_push_self _ _
  have e6:Ext H5 H6:=by subst hH6;exact Ext.push _ _
  have hn:H4.size≤H5.size:=by omega
  intro J2 hJ2
  -- the end:the map
  have fin: ∀H7:Heap,H7[s.A]?=some (arenaO (s.free-1))→H7[H5.size]?=some (tileO (oldPx s p x y) 1)→(∀t l,tileOf p.en x y=some t→(t,l)∈s.ts→H7[t]?=some (tileO l (refs s.pls t-1)))→
   (∀b o,H4[b]?=some o→b≠s.A→(∀t,tileOf p.en x y=some t→b≠t)→H7[b]?=some o)→H4.size≤H7.size→J2 [] H7:=by
   intro H7 ha7 hb7 hc7 he7 hs7
   have hnot: ∀b o,H4[b]?=some o→(∀c,o≠ .cells c 208)→ ∀t,tileOf p.en x y=some t→b≠t:=fun b o hb ho t ht=>by
    obtain⟨l,_,hm,_⟩:=hok.px_of hp ht
    have htile:=hin4.tile _ hm
    exact ne_of_get hb htile (ho _)
   have hpl:H7[p.b]?=some (planeO s.A p):=he7 _ _ (hin4.plane p hp) (ne_of_ty (hin4.plane p hp) hin4.arena (by decide)) (hnot _ _ (hin4.plane p hp) (fun c h=>by cases h))
   have hmp:H7[p.m]?=some (tmapO p):=he7 _ _ (hin4.map p hp) (ne_of_map' (hin4.map p hp) hin4.arena) (hnot _ _ (hin4.map p hp) (fun c h=>by cases h))
   have hk7:H7[H.size]?=some (.cells #[Value.int .i64 x,Value.int .i64 y] 153):=he7 _ _ hkey (ne_of_ty hkey hin4.arena (by decide)) (hnot _ _ hkey (fun c h=>by cases h))
   refine hJ2 H7 ⟨_,rfl,some p.m,cell_get hpl rfl,_,rfl,rowIn_whole hk7,updQ_enc hmp ?_⟩
   have hb8: ∀b o,H7[b]?=some o→b≠p.m→(H7.setIfInBounds p.m (tmapO (p.own x y H5.size)))[b]?=some o:=fun b o hb hne=>get_set_ne (Ne.symm hne) hb
   have hin8:=in_own (H':=H7.setIfInBounds p.m (tmapO (p.own x y H5.size))) hin4 hok hk (x:=x) (y:=y) (n:=H5.size) hn
    (hb8 _ _ ha7 (ne_of_map ha7 hmp)) (hb8 _ _ hb7 (ne_of_map hb7 hmp)) (fun t l ht hm=>hb8 _ _ (hc7 t l ht hm) (ne_of_map (hc7 t l ht hm) hmp)) (get_set_self hmp)
    (fun b o hb h1 h2 h3=>hb8 _ _ (he7 b o hb h1 h3) h2)
   have hnn:H5.size∉s.ts.map (·.1):=fun hh=>by
    obtain⟨z,hz,hzn⟩:=List.mem_map.1 hh
    have:=lt_of_get (hin4.tile z hz)
    omega
   refine hnew hneed h0 _ H5.size (by omega) ⟨hin8,ownS_ok hok hk hneed h0 hnn,fun b o hb hno=>?_,fun b hb=>?_,by simp;omega⟩
   ·refine hb8 _ _ (he7 b o (e4 _ _ hb) (fun h=>hno (.inl h)) fun t ht h=>hno (.inr (.inr ?_))) (fun h=>hno (.inr (.inl ⟨p,hp,h⟩)))
    rw[h];exact(refs_of_tile hok hp ht).2
   ·rcases own_owned hk x y _ b hb with hb|rfl
    ·exact .inl hb
    ·exact .inr (by omega)
  cases ht:tileOf p.en x y with
  |none=>
   refine br_false (fin H6 (e6 _ _ ha5) ?_ (fun t l h=>by rw[ht] at h;cases h) (fun b o hb h1 _=>e6 _ _ (he5 b o hb h1)) (by have:=e6.size;omega))
   have:oldPx s p x y=zeros:=by simp[oldPx,ht]
   rw[this];exact hn6
  |some t=>
   obtain⟨l,hl,hm,hlen,_⟩:=hok.px_of hp ht
   have htile:=hin4.tile _ hm
   have htA:t≠s.A:=ne_of_ty htile hin4.arena (by decide)
   have ht6:H6[t]?=some (tileO l (refs s.pls t)):=e6 _ _ (he5 t _ htile htA)
   have htn:t≠H5.size:=fun h=>by have:=lt_of_get htile;omega
   have hr:=refs_le hok.one t
   have hlen':=hok.len
   have hrp:=(refs_of_tile hok hp ht).1
   refine br_true ⟨_,rfl,_,by simp[hlen],row_tile ht6,_,rfl,by simp[hlen],?_⟩
   simp only[add_none,Nat.zero_add]
   refine stAt_copy hn6 zeros_len hlen ?_
   generalize hH7:H6.setIfInBounds H5.size (tileO l 1)=H7
   have ht7:H7[t]?=some (tileO l (refs s.pls t)):=by subst hH7;exact get_set_ne (Ne.symm htn) ht6
   refine⟨_,rfl,_,tile_users ht7 hlen,_,rfl,?_⟩
   rw[wrap_id (by omega) (by omega)]
   refine stAt_users ht7 hlen ?_
   have hA7:H7[s.A]?=some (arenaO (s.free-1)):=by subst hH7;exact get_set_ne (fun h=>by have:=lt_of_get ha5;omega) (e6 _ _ ha5)
   refine fin _ (get_set_ne htA hA7) ?_ (fun t' l' h hm'=>?_) (fun b o hb h1 h2=>?_) (by subst hH7;have:=e6.size;simp;omega)
   ·have:oldPx s p x y=l:=by simp[oldPx,ht,hl]
    rw[this]
    refine get_set_ne htn ?_
    subst hH7;exact get_set_self hn6
   ·rw[ht] at h;cases h
    have:l'=l:=by
     have h1:pxOf s.ts t=some l':=by
      have:=hok.ts
      obtain⟨i,hi⟩:=List.getElem?_of_mem hm
      obtain⟨j,hj⟩:=List.getElem?_of_mem hm'
      have hij:i=j:=(List.getElem?_inj (l:=s.ts.map (·.1)) (by simp;exact(List.getElem?_eq_some_iff.1 hi).1) this).1 (by simp[hi,hj])
      subst hij
      rw[hi] at hj;cases hj
      exact hl
     rw[hl] at h1;exact(Option.some.inj h1).symm
    subst this
    exact get_set_self ht7
   ·refine get_set_ne (Ne.symm (h2 t ht)) ?_
    subst hH7
    exact get_set_ne (fun h=>by have:=lt_of_get hb;omega) (e6 _ _ (he5 b o hb h1))
 cases ht:tileOf p.en x y with
 |none=>exact br_false (hJ' (by simp[needs,ht]))
 |some t=>
  obtain⟨l,hl,hm,hlen,_⟩:=hok.px_of hp ht
  refine br_true ⟨_,rfl,_,tile_users (hin4.tile _ hm) hlen,br_eq (fun h1=>?_) (fun h1=>?_)⟩
  ·refine hyes ?_ H4 e4
   have h1':((refs s.pls t:Nat):Int)=1:=h1
   have:refs s.pls t=1:=by omega
   simp[needs,ht,this]
  ·refine hJ' ?_
   have h1': ¬((refs s.pls t:Nat):Int)=1:=h1
   have: ¬refs s.pls t=1:=by omega
   simp[needs,ht,this]
end Go.Proofs
namespace Go.Tile
def Wrote(s:St)(k:Nat)(p:Pl)(x y v:Int)(s':St):Prop:=
 (needs s p (x/16) (y/16)=false∧ ∃t,tileOf p.en (x/16) (y/16)=some t∧refs s.pls t=1∧s'=wrS s t (idx x y) v)∨
 (needs s p (x/16) (y/16)=true∧s.free≠0∧ ∃n,n∉s.ts.map (·.1)∧s'=wrS (ownS s k p (x/16) (y/16) n) n (idx x y) v)
structure Like(q q':Pl):Prop where
 b:q'.b=q.b
 m:q'.m=q.m
 w:q'.w=q.w
 h:q'.h=q.h
theorem Like.refl(q:Pl):Like q q:=⟨rfl,rfl,rfl,rfl⟩
theorem Like.trans{a b c:Pl}(h:Like a b)(h':Like b c):Like a c:=⟨h'.b.trans h.b,h'.m.trans h.m,h'.w.trans h.w,h'.h.trans h.h⟩
theorem Like.has{q q':Pl}(h:Like q q')(x y:Int):q'.has x y=q.has x y:=by unfold Pl.has;rw[h.w,h.h]
structure Views(s s':St)(f:Nat→Int→Int→Int→Int):Prop where
 A:s'.A=s.A
 len:s'.pls.length=s.pls.length
 pl: ∀(j:Nat) (q:Pl),s.pls[j]?=some q→ ∃q',s'.pls[j]?=some q'∧Like q q'∧ ∀X Y,pxAt s' q' X Y=f j X Y (pxAt s q X Y)
theorem Views.refl(s:St):Views s s fun _ _ _ v=>v:=⟨rfl,rfl,fun j q hq=>⟨q,hq,Like.refl q,fun _ _=>rfl⟩⟩
theorem Views.trans{a b c:St}{f g:Nat→Int→Int→Int→Int}(h:Views a b f)(h':Views b c g):Views a c fun j X Y v=>g j X Y (f j X Y v):=by
 refine⟨h'.A.trans h.A,h'.len.trans h.len,fun j q hq=>?_⟩
 obtain⟨q1,h1,l1,v1⟩:=h.pl j q hq
 obtain⟨q2,h2,l2,v2⟩:=h'.pl j q1 h1
 exact⟨q2,h2,l1.trans l2,fun X Y=>by rw[v2,v1]⟩
theorem Views.eq{s s':St}{f g:Nat→Int→Int→Int→Int}(h:Views s s' f)(hfg: ∀j X Y v,f j X Y v=g j X Y v):Views s s' g:=
 ⟨h.A,h.len,fun j q hq=>let ⟨q',h1,h2,h3⟩:=h.pl j q hq;⟨q',h1,h2,fun X Y=>by rw[h3,hfg]⟩⟩
def put1(k:Nat)(x y v:Int)(j:Nat)(X Y w:Int):Int:=if j=k∧X=x∧Y=y then v else w
theorem wrote_views{cap:Int}{s:St}(h:Ok cap s){k:Nat}{p:Pl}(hk:s.pls[k]?=some p){x y v:Int}(hin:p.has x y=true){s':St}(hw:Wrote s k p x y v s'):Views s s' (put1 k x y v):=by
 rcases hw with ⟨_,t,ht,h1,rfl⟩|⟨hneed,hfree,n,hn,rfl⟩
 ·exact⟨rfl,rfl,fun j q hq=>⟨q,hq,Like.refl q,fun X Y=>px_wr h hk hin ht h1 v hq X Y⟩⟩
 ·have hok:=ownS_ok h hk hneed hfree hn
  have hk':(ownS s k p (x/16) (y/16) n).pls[k]?=some (p.own (x/16) (y/16) n):=by rw[own_pls _ _ _ hk,if_pos rfl]
  have ht:tileOf (p.own (x/16) (y/16) n).en (x/16) (y/16)=some n:=by
   show tileOf (setEn _ _ _ _ _) _ _=_
   rw[tileOf_set,if_pos ⟨rfl,rfl⟩]
  have hnt: ∀q∈s.pls,∀e∈q.en,e.t≠n:=fun q hq e he heq=>by
   have:=(h.live e.t).1 (refs_pos hq he)
   rw[heq] at this
   exact hn this
  have hr:=(refs_own hk (x:=x/16) (y:=y/16) hnt).1
  refine⟨rfl,?_,fun j q hq=>?_⟩
  ·show(s.pls.set k _).length=_
   rw[List.length_set]
  ·by_cases hjk:j=k
   ·subst hjk
    rw[hk] at hq;cases hq
    refine⟨p.own (x/16) (y/16) n,hk',⟨rfl,rfl,rfl,rfl⟩,fun X Y=>?_⟩
    rw[px_wr hok hk' (x:=x) (y:=y) hin ht hr v hk' X Y,(px_own h hk (x/16) (y/16) hn (List.mem_of_getElem? hk) X Y).2]
    rfl
   ·have hj':(ownS s k p (x/16) (y/16) n).pls[j]?=some q:=by rw[own_pls _ _ _ hk,if_neg hjk];exact hq
    refine⟨q,hj',Like.refl q,fun X Y=>?_⟩
    rw[px_wr hok hk' (x:=x) (y:=y) hin ht hr v hj' X Y,(px_own h hk (x/16) (y/16) hn (List.mem_of_getElem? hq) X Y).1]
    rfl
def needKeys(s:St)(p:Pl)(v:Int):List (Int×Int)→List (Int×Int)→List (Int×Int)
 |[],ks=>ks
 |c::r,ks=>needKeys s p v r (if pxAt s p c.1 c.2≠v∧needs s p (c.1/16) (c.2/16)=true then(if (c.1/16,c.2/16)∈ks then ks else ks++[(c.1/16,c.2/16)]) else ks)
inductive Paints(k:Nat)(v:Int):St→List (Int×Int)→St→Prop where
 |nil (s:St):Paints k v s [] s
 |same {s s':St} {p:Pl} {x y:Int} {r:List (Int×Int)}:s.pls[k]?=some p→p.has x y=true→pxAt s p x y=v→Paints k v s r s'→Paints k v s ((x,y)::r) s'
 |wrote {s s1 s':St} {p:Pl} {x y:Int} {r:List (Int×Int)}:s.pls[k]?=some p→p.has x y=true→pxAt s p x y≠v→Wrote s k p x y v s1→Paints k v s1 r s'→Paints k v s ((x,y)::r) s'
end Go.Tile
namespace Go.Proofs
open Go.Sh Go.Tile
theorem wr_mem{ts:List (Nat×List Int)}{t i:Nat}{v:Int}{z:Nat×List Int}(h:z∈wrTs ts t i v): ∃l,(z.1,l)∈ts∧z.2=if z.1=t then l.set i v else l:=by
 obtain⟨z',hz',rfl⟩:=List.mem_map.1 h
 by_cases hzt:z'.1=t
 ·rw[if_pos hzt];exact⟨z'.2,hz',by rw[if_pos hzt]⟩
 ·rw[if_neg hzt];exact⟨z'.2,hz',by rw[if_neg hzt]⟩
theorem ts_inj{cap:Int}{s:St}(h:Ok cap s){t:Nat}{l l':List Int}(h1:(t,l)∈s.ts)(h2:(t,l')∈s.ts):l=l':=by
 obtain⟨i,hi⟩:=List.getElem?_of_mem h1
 obtain⟨j,hj⟩:=List.getElem?_of_mem h2
 have hij:i=j:=(List.getElem?_inj (l:=s.ts.map (·.1)) (by simp;exact(List.getElem?_eq_some_iff.1 hi).1) h.ts).1 (by simp[hi,hj])
 subst hij
 rw[hi] at hj;cases hj
 rfl
theorem goes_wr{cap:Int}{H:Heap}{s:St}(hin:In H s)(hok:Ok cap s){t:Nat}{l:List Int}(hm:(t,l)∈s.ts)(i:Nat){v:Int}(h0:0≤v)(h1:v<4294967296):
 Goes cap H s (H.setIfInBounds t (tileO (l.set i v) (refs s.pls t))) (wrS s t i v):=by
 have ht:=hin.tile _ hm
 have hko:t∈s.ts.map (·.1):=List.mem_map.2 ⟨_,hm,rfl⟩
 refine⟨⟨get_set_ne (ne_of_ty ht hin.arena (by decide)) hin.arena,fun q hq=>get_set_ne (ne_of_ty ht (hin.plane q hq) (by decide)) (hin.plane q hq),fun q hq=>get_set_ne (ne_of_map ht (hin.map q hq)) (hin.map q hq),fun z hz=>?_⟩,
  wrS_ok hok t i h0 h1,fun b o hb hn=>get_set_ne (fun h=>hn (.inr (.inr (h▸hko)))) hb,fun b hb=> .inl ?_,by simp⟩
 ·obtain⟨l',hl',hz2⟩:=wr_mem hz
  show(H.setIfInBounds t _)[z.1]?=some (tileO z.2 (refs s.pls z.1))
  by_cases hzt:z.1=t
  ·rw[if_pos hzt] at hz2
   rw[hzt] at hl'
   have:=ts_inj hok hm hl'
   rw[hz2,hzt,←this]
   exact get_set_self ht
  ·rw[if_neg hzt] at hz2
   rw[hz2]
   exact get_set_ne (fun h=>hzt h.symm) (hin.tile _ hl')
 ·rcases hb with hb|hb|hb
  ·exact .inl hb
  ·exact .inr (.inl hb)
  ·exact .inr (.inr (by have:b∈(wrTs s.ts t i v).map (·.1):=hb;rwa [wrTs_keys] at this))
theorem c82{cap:Int}{H:Heap}{s:St}(hin:In H s)(hok:Ok cap s){k:Nat}{p:Pl}(hk:s.pls[k]?=some p)(x y v:Int){R:Value→Heap→Prop}
 (h12:p.has x y=false→ ∀H',Ext H H'→R (.int .i64 12) H')
 (h32:p.has x y=true→ ¬(0≤v∧v<4294967296)→ ∀H',Ext H H'→R (.int .i64 32) H')
 (hsame:p.has x y=true→(0≤v∧v<4294967296)→pxAt s p x y=v→ ∀H',Ext H H'→R (.int .i64 0) H')
 (h30:p.has x y=true→(0≤v∧v<4294967296)→pxAt s p x y≠v→needs s p (x/16) (y/16)=true→s.free=0→ ∀H',Ext H H'→R (.int .i64 30) H')
 (h0:p.has x y=true→(0≤v∧v<4294967296)→pxAt s p x y≠v→ ∀H' s',Goes cap H s H' s'→Wrote s k p x y v s'→R (.int .i64 0) H'):
 CallsH Tryz.prog 82 #[.pointer (some ⟨p.b,0,none⟩),.int .i64 x,.int .i64 y,.int .i64 v] H R:=by
 have hp:p∈s.pls:=List.mem_of_getElem? hk
 have pok:=hok.pl p hp
 refine Tryz.s82 ?_
 unfold Tryz.S82
 refine c129 (hin.plane p hp) x y ⟨_,rfl,br_not (fun hn=>h12 hn H (Ext.refl H)) (fun hy=>?_)⟩
 have hhas:p.has x y=true:=hy
 have hy':=of_decide_eq_true hy
 refine c130 v ⟨_,rfl,br_not (fun hn=>h32 hhas (of_decide_eq_false hn) H (Ext.refl H)) (fun hv=>?_)⟩
 have hv':=of_decide_eq_true hv
 refine c131 hin hok hp x y fun H1 e1=>⟨_,rfl,br_eq (fun he=>hsame hhas hv' he H1 e1) (fun hne=>?_)⟩
 obtain⟨_,_,_,w0,w1,hh0,hh1⟩:=pok
 refine c132 (by omega) (by omega) (by omega) (by omega) fun H2 e2=>⟨_,_,rfl,?_⟩
 unfold alc
 refine⟨rfl,stAt_whole (get_push_self _ _) rfl (by simp[Value.oneCell']) ?_⟩
 generalize hH3:Array.setIfInBounds _ _ _=H3
 have e3:Ext H H3:=by
  subst hH3
  exact(e1.trans e2).trans fun b o hb=>get_set_ne (Nat.ne_of_gt (lt_of_get hb)) (get_push hb)
 have hkey:H3[H2.size]?=some (.cells #[Value.int .i64 (x/16),Value.int .i64 (y/16)] 153):=by
  subst hH3
  exact get_set_self (get_push_self _ _)
 have hin3:=hin.ext e3
 refine⟨_,rfl,rowIn_whole hkey,?_⟩
 -- the end,behind own
 have fin: ∀(H4:Heap) (s4:St) (p4:Pl) (t:Nat),Goes cap H s H4 s4→s4.pls[k]?=some p4→p4.b=p.b→H4[H2.size]?=some (.cells #[Value.int .i64 (x/16),Value.int .i64 (y/16)] 153)→
  tileOf p4.en (x/16) (y/16)=some t→Wrote s k p x y v (wrS s4 t (idx x y) v)→
  (∃a25:Addr,(some ⟨p.b,0,none⟩:Option Addr)=some a25∧ ∃has26:Option Nat,cell H4 (Addr.add a25 3)=some (Value.map has26)∧ ∃v27:Array Value,v27.size=2∧rowIn H4 ⟨H2.size,0,none⟩ v27∧ ∃r28:Nat,has26=some r28∧
   ∃(es29:Array MapEntry) (c30:Nat),H4[r28]?=some (.map es29 c30)∧kForm (.arr 2 3) (.int .i64) (Value.agg v27)∧(∀e∈es29.toList,kForm (.arr 2 3) (.int .i64) e.key)∧ ∃v31:Option Addr,lookV (Value.agg v27) es29.toList (Value.pointer none)=Value.pointer v31∧
   ∃a32:Addr,v31=some a32∧0≤y%16*16+x%16∧y%16*16+x%16<((256:Nat):Int)∧stAt H4 (Addr.add (Addr.add a32 0) (Int.toNat (y%16*16+x%16)*1)) [Value.int .u32 (IntKind.wrap .u32 v)] fun H_33=>R (Value.int .i64 0) H_33):=by
  intro H4 s4 p4 t hg hk4 hb4 hkey4 ht hwr
  have hp4:p4∈s4.pls:=List.mem_of_getElem? hk4
  obtain⟨l,hl,hm,hlen,_⟩:=hg.ok.px_of hp4 ht
  refine⟨_,rfl,some p4.m,cell_get (by rw[←hb4];exact hg.inn.plane p4 hp4) rfl,_,rfl,rowIn_whole hkey4,p4.m,rfl,_,_,hg.inn.map p4 hp4,kf _ _,kfs _,_,lookV_enc _ _ _,?_⟩
  rw[ht]
  refine⟨_,rfl,by omega,by omega,?_⟩
  simp only[add_none,Nat.zero_add,Nat.mul_one]
  rw[wrap_u32 hv'.1 hv'.2]
  refine stAt_pixel (hg.inn.tile _ hm) hlen (idx_lt x y) ?_
  exact h0 hhas hv' hne _ _ (hg.trans (goes_wr hg.inn hg.ok hm (idx x y) hv'.1 hv'.2)) hwr
 refine c133 hin3 hok hk (x/16) (y/16) (fun hnd H4 e4=>⟨_,rfl,br_not (fun h=>by cases h) (fun _=>?_)⟩) (fun hnd hf H4 e4=>⟨_,rfl,br_not (fun _=>h30 hhas hv' hne hnd hf H4 (e3.trans e4)) (fun h=>by cases h)⟩)
  (fun hnd hf H4 n hn hg=>⟨_,rfl,br_not (fun h=>by cases h) (fun _=>?_)⟩)
 ·cases ht:tileOf p.en (x/16) (y/16) with
  |none=>simp[needs,ht] at hnd
  |some t=>
   have hr:refs s.pls t=1:=by simpa[needs,ht] using hnd
   exact fin H4 s p t (Goes.of_ext hin hok (e3.trans e4)) hk rfl (e4 _ _ hkey) ht (.inl ⟨hnd,t,ht,hr,rfl⟩)
 ·have hnn:n∉s.ts.map (·.1):=fun hh=>by
   obtain⟨z,hz,hzn⟩:=List.mem_map.1 hh
   have:=lt_of_get (hin3.tile z hz)
   omega
  have hgoes:Goes cap H s H4 (ownS s k p (x/16) (y/16) n):=(Goes.of_ext hin hok e3).trans hg
  refine fin H4 _ (p.own (x/16) (y/16) n) n hgoes (by rw[own_pls _ _ _ hk,if_pos rfl]) rfl ?_ ?_ (.inr ⟨hnd,hf,n,hnn,rfl⟩)
  ·refine hg.fr _ _ hkey fun ho=>?_
   rcases ho with ho|⟨q,hq,ho⟩|ho
   ·exact ne_of_ty hkey hin3.arena (by decide) ho
   ·exact ne_of_map hkey (hin3.map q hq) ho
   ·obtain⟨z,hz,hzn⟩:=List.mem_map.1 ho
    exact ne_of_ty hkey (hin3.tile z hz) (by decide) hzn.symm
  ·show tileOf (setEn _ _ _ _ _) _ _=_
   rw[tileOf_set,if_pos ⟨rfl,rfl⟩]
theorem c60{H:Heap}{c:Int}(h0:0≤c)(h1:c≤1048576){R:Value→Heap→Prop}(hR:R (.pointer (some ⟨H.size,0,none⟩)) (H.push (arenaO c))):CallsH Tryz.prog 60 #[.int .i64 c] H R:=by
 refine Tryz.s60 ?_
 unfold Tryz.S60
 exact br_dec (fun h=>by omega) (fun _=>br_dec (fun h=>by omega) (fun _=>hR))
def newPl(m b:Nat)(w h:Int):Pl:=⟨b,m,w,h,[],0⟩
theorem c81{H:Heap}{A:Nat}{w h:Int}(w0:0≤w)(w1:w≤32768)(h0:0≤h)(h1:h≤32768){R:Value→Heap→Prop}
 (hR:R (.tuple #[.pointer (some ⟨H.size+1,0,none⟩),.int .i64 0]) ((H.push (.map #[] 0)).push (planeO A (newPl H.size (H.size+1) w h)))):
 CallsH Tryz.prog 81 #[.pointer (some ⟨A,0,none⟩),.int .i64 w,.int .i64 h] H R:=by
 refine Tryz.s81 ?_
 unfold Tryz.S81
 intro J hJ
 refine br_dec (fun h=>by omega) (fun _=>br_dec (fun h=>by omega) (fun _=>br_dec (fun h=>by omega) (fun _=>br_dec (fun h=>by omega) (fun _=>hJ H ?_))))
 unfold alc
 simp only[Array.size_push]
 exact hR
end Go.Proofs
