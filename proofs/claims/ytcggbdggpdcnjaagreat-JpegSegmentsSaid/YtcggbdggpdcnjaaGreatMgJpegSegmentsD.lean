/-
  OWN WORK. Several texts in one: JpA, JpB, JpC, JpD, JpE, JpF, JpG, FlA, HuffH, HuffI, HuffJ, HuffK, HuffL, FlD.
-/
import Derived.Test.YtcggbdggpdcnjaaGreatMgJpegSegmentsC

set_option linter.unusedVariables false
set_option linter.unusedSimpArgs false
namespace Go.Proofs
open Go.Sh
variable {H0 H:Heap} {σ:List Rs} {R:Value→Heap→Prop}
def wtab:List Int:=[4096,4017,3784,3406,2896,2276,1567,799,0]
def waveM(k:Nat):Int:=if k%32≤8 then wtab.getD (k%32) 0 else if k%32≤16 then-wtab.getD (16-k%32) 0 else if 32-k%32≤8 then wtab.getD (32-k%32) 0 else-wtab.getD (16-(32-k%32)) 0
def cM(u x:Nat):Int:=if u=0 then 2896 else waveM ((2*x+1)*u)
def cT:List Int:=(List.range 64).map fun i=>cM (i/8) (i%8)
theorem wtab_rng(i:Nat): -4096≤wtab.getD i 0∧wtab.getD i 0≤4096:=by
 by_cases h:i<9
 ·have: ∀i:Fin 9,-4096≤wtab.getD i.val 0∧wtab.getD i.val 0≤4096:=by decide
  exact this ⟨i,h⟩
 ·rw[List.getD_eq_getElem?_getD,List.getElem?_eq_none (by simp[wtab];omega)];decide
theorem waveM_rng(k:Nat): -4096≤waveM k∧waveM k≤4096:=by
 unfold waveM
 have h1:=wtab_rng (k%32)
 have h2:=wtab_rng (16-k%32)
 have h3:=wtab_rng (32-k%32)
 have h4:=wtab_rng (16-(32-k%32))
 split
 ·exact h1
 ·split
  ·omega
  ·split
   ·exact h3
   ·omega
theorem cM_rng(u x:Nat): -4096≤cM u x∧cM u x≤4096:=by
 unfold cM
 split
 ·decide
 ·exact waveM_rng _
theorem tmodN(k m:Nat):Int.tmod (k:Int) (m:Int)=((k%m:Nat):Int):=by rw[Int.tmod_eq_emod_of_nonneg (by omega)];rfl
theorem tdivN(k m:Nat):Int.tdiv (k:Int) (m:Int)=((k/m:Nat):Int):=by rw[Int.tdiv_eq_ediv_of_nonneg (by omega)];rfl
theorem wN{k:Nat}(h:k≤1000000000000):IntKind.wrap .i64 (k:Int)=(k:Int):=wrap_id (by omega) (by omega)
theorem wtabA(r:Nat)(h:r≤8):(#[Value.int .i64 (4096:Int),Value.int .i64 (4017:Int),Value.int .i64 (3784:Int),Value.int .i64 (3406:Int),Value.int .i64 (2896:Int),Value.int .i64 (2276:Int),Value.int .i64 (1567:Int),Value.int .i64 (799:Int),Value.int .i64 (0:Int)]:Array Value)[r*1]?=some (.int .i64 (wtab.getD r 0)):=by
 obtain rfl|rfl|rfl|rfl|rfl|rfl|rfl|rfl|rfl:r=0∨r=1∨r=2∨r=3∨r=4∨r=5∨r=6∨r=7∨r=8:=by omega
 all_goals rfl
theorem wave8{k:Nat}(h:k%32≤8)(hR:R (.int .i64 (wtab.getD (k%32) 0)) H):CallsH Tryz.prog 112 #[.int .i64 (k:Nat)] H R:=by
 refine Tryz.s112 ⟨by decide,?_⟩
 rw[show((32:Int))=((32:Nat):Int) from rfl,tmodN]
 refine br_n (by omega) (br_n (by omega) ⟨by omega,by omega,_,?_,hR⟩)
 rw[Int.toNat_natCast];exact wtabA _ h
theorem wave16{k:Nat}(h:k%32≤16)(hR:R (.int .i64 (if k%32≤8 then wtab.getD (k%32) 0 else-wtab.getD (16-k%32) 0)) H):CallsH Tryz.prog 112 #[.int .i64 (k:Nat)] H R:=by
 by_cases h8:k%32≤8
 ·rw[if_pos h8] at hR;exact wave8 h8 hR
 rw[if_neg h8] at hR
 refine Tryz.s112 ⟨by decide,?_⟩
 rw[show((32:Int))=((32:Nat):Int) from rfl,tmodN]
 refine br_n (by omega) (br_y (by omega) ?_)
 rw[wrap_id (by omega) (by omega),show(16:Int)-((k%32:Nat):Int)=((16-k%32:Nat):Int) from by omega]
 refine wave8 (by omega) ⟨_,rfl,?_⟩
 rw[show(16-k%32)%32=16-k%32 from by omega]
 have:=wtab_rng (16-k%32)
 rw[wrap_id (by omega) (by omega),Int.zero_sub]
 exact hR
theorem c112{k:Nat}(hR:R (.int .i64 (waveM k)) H):CallsH Tryz.prog 112 #[.int .i64 (k:Nat)] H R:=by
 unfold waveM at hR
 by_cases h16:k%32≤16
 ·refine wave16 h16 ?_
  split at hR
  ·rename_i h8;rw[if_pos h8];exact hR
  ·rename_i h8;rw[if_neg h8];exact hR
 ·rw[if_neg (by omega),if_neg h16] at hR
  refine Tryz.s112 ⟨by decide,?_⟩
  rw[show((32:Int))=((32:Nat):Int) from rfl,tmodN]
  refine br_y (by omega) ?_
  rw[wrap_id (by omega) (by omega),show((32:Nat):Int)-((k%32:Nat):Int)=((32-k%32:Nat):Int) from by omega]
  refine wave16 (by omega) ⟨_,rfl,?_⟩
  rw[show(32-k%32)%32=32-k%32 from by omega]
  exact hR
theorem row_len(u:Nat):((List.range 8).map (cM u)).length=8:=by simp
theorem c103{u:Nat}(hu:u<8)(hR: ∀H',Ext H H'→R (.agg (ints ((List.range 8).map (cM u))).toArray) H'):CallsH Tryz.prog 103 #[.int .i64 (u:Nat)] H R:=by
 refine Tryz.s103 ?_
 unfold Tryz.S103
 refine(St.nil H).alc fun b H1 hs1=>?_
 have hs1:St H H1 [.cell b (ints (List.replicate 8 0)).toArray _]:=hs1
 intro X hX
 have hl:=row_len u
 have go: ∀k,k≤8→ ∀H2,St H H2 [.cell b (ints (fillA ((List.range 8).map (cM u)) k)).toArray 148]→X [.int .i64 (k:Nat)] H2:=upto fun k hk ih H2 hs2=>by
  refine hX _ H2 (br_dec (fun hlt=>?_) (fun hge=>?_))
  ·have hlt:k<8:=by omega
   have nx: ∀v H3,v=cM u k→St H H3 [.cell b (ints (fillA ((List.range 8).map (cM u)) k)).toArray 148]→0≤(k:Int)∧(k:Int)<((8:Nat):Int)∧stAt H3 (Addr.add ⟨b,0,none⟩ (Int.toNat (k:Int)*1)) [Value.int .i64 v] fun H_7=>X [.int .i64 (IntKind.wrap .i64 ((k:Int)+(1:Int)))] H_7:=fun v H3 hv hs3=>by
    refine⟨by omega,by omega,?_⟩
    rw[add_none,Nat.zero_add,Int.toNat_natCast,Nat.mul_one,wrap_id (by omega) (by omega)]
    refine hs3.putA 0 rfl (by rw[fillA_len (by omega)];omega) fun H4 hs4=>ih hlt H4 ?_
    rw[hv,←tab_getD (f:=cM u) hlt,fillA_set (by omega)] at hs4
    exact hs4
   refine br_eq (fun h0=>nx _ H2 ?_ hs2) (fun h0=>?_)
   ·have:u=0:=by omega
    subst this;rfl
   ·have hm:(2*k+1)*u≤15*7:=Nat.mul_le_mul (by omega) (by omega)
    have e:((2:Int)*(k:Nat)+1)*(u:Nat)=(((2*k+1)*u:Nat):Int):=by push_cast;rfl
    rw[wrap_id (n:=(2:Int)*(k:Nat)) (by omega) (by omega),wrap_id (n:=(2:Int)*(k:Nat)+1) (by omega) (by omega),e,wrap_id (by omega) (by omega)]
    refine c112 ⟨_,rfl,nx _ H2 ?_ hs2⟩
    unfold cM
    rw[if_neg (by omega)]
  ·have:k=8:=by omega
   subst this
   have e:=fillA_all ((List.range 8).map (cM u))
   rw[hl] at e
   rw[e] at hs2
   refine⟨_,by rw[intsA_size];exact hl,rowIn_whole (hs2.block 0 rfl),by rw[intsA_size];exact hl,?_⟩
   refine hs2.putAllA 0 rfl (by rw[intsA_size]) fun H3 hs3=>?_
   exact⟨_,by rw[intsA_size];exact hl,rowIn_whole (hs3.block 0 rfl),hR H3 hs3.ext⟩
 exact go 0 (by omega) H1 (by rw[fillA_zero,hl];exact hs1)
theorem cT_len:cT.length=64:=by simp[cT]
theorem cT_get{u x:Nat}(hu:u<8)(hx:x<8):cT[u*8+x]?=some (cM u x):=by
 unfold cT
 rw[tab_get (by omega),show(u*8+x)/8=u from by omega,show(u*8+x)%8=x from by omega]
theorem c80(hR: ∀H',Ext H H'→R (.agg (ints cT).toArray) H'):CallsH Tryz.prog 80 #[] H R:=by
 refine Tryz.s80 (_u:=()) ?_
 unfold Tryz.S80
 refine(St.nil H).alc fun b H1 hs1=>?_
 rw[zeroA] at hs1
 intro X hX
 have hl:=cT_len
 have go: ∀k,k≤8→ ∀H2,St H H2 [.cell b (ints (fillA cT (8*k))).toArray 149]→X [.int .i64 (k:Nat)] H2:=upto fun k hk ih H2 hs2=>by
  refine hX _ H2 (br_dec (fun hlt=>?_) (fun hge=>?_))
  ·have hlt:k<8:=by omega
   refine c103 hlt fun H3 e3=>⟨_,rfl,by omega,by omega,by rw[intsA_size];exact row_len k,?_⟩
   rw[add_none,Nat.zero_add,Int.toNat_natCast,wrap_id (by omega) (by omega)]
   have hs3:=hs2.step e3
   refine hs3.putRow 0 rfl (by rw[intsA_size,fillA_len (by omega),Array.length_toList,intsA_size,row_len];omega) (fun v hv=>ints_one _ v (by simpa using hv)) fun H4 hs4=>ih hlt H4 ?_
   have e:setL (ints (fillA cT (8*k))).toArray.toList (k*8) (ints ((List.range 8).map (cM k))).toArray.toList=ints (fillA cT (8*(k+1))):=by
    obtain rfl|rfl|rfl|rfl|rfl|rfl|rfl|rfl:k=0∨k=1∨k=2∨k=3∨k=4∨k=5∨k=6∨k=7:=by omega
    all_goals rfl
   rw[e] at hs4
   exact hs4
  ·have:k=8:=by omega
   subst this
   have e:=fillA_all cT
   rw[hl] at e
   rw[e] at hs2
   refine⟨_,by rw[intsA_size];exact hl,rowIn_whole (hs2.block 0 rfl),by rw[intsA_size];exact hl,?_⟩
   refine hs2.putAllA 0 rfl (by rw[intsA_size]) fun H3 hs3=>?_
   exact⟨_,by rw[intsA_size];exact hl,rowIn_whole (hs3.block 0 rfl),hR H3 hs3.ext⟩
 exact go 0 (by omega) H1 (by rw[Nat.mul_zero,fillA_zero,hl];exact hs1)
theorem c92{u x:Nat}(hu:u<8)(hx:x<8)(hR: ∀H',Ext H H'→R (.int .i64 (cM u x)) H'):CallsH Tryz.prog 92 #[.int .i64 (u:Nat),.int .i64 (x:Nat)] H R:=by
 refine Tryz.s92 (br_eq (fun h0=>?_) (fun h0=>⟨by decide,?_⟩))
 ·have:u=0:=by omega
  subst this
  exact hR H (Ext.refl _)
 unfold cM waveM at hR
 rw[if_neg (by omega)] at hR
 have hm:(2*x+1)*u≤15*7:=Nat.mul_le_mul (by omega) (by omega)
 have e:((2:Int)*(x:Nat)+1)*(u:Nat)=(((2*x+1)*u:Nat):Int):=by push_cast;rfl
 rw[wrap_id (n:=(2:Int)*(x:Nat)) (by omega) (by omega),wrap_id (n:=(2:Int)*(x:Nat)+1) (by omega) (by omega),e,wrap_id (n:=(((2*x+1)*u:Nat):Int)) (by omega) (by omega),show((32:Int))=((32:Nat):Int) from rfl,tmodN]
 generalize (2*x+1)*u=k at*
 intro J hJ
 have nx: ∀r:Nat,r≤16→(∀H',Ext H H'→R (.int .i64 (if r≤8 then wtab.getD r 0 else-wtab.getD (16-r) 0)) H')→J [.int .i64 (r:Nat)] H:=fun r hr hR=>by
  refine hJ _ H ((St.nil H).alc fun b H1 hs1=>⟨rfl,?_⟩)
  refine hs1.putAll 0 rfl rfl (by simp[Value.oneCell']) fun H2 hs2=>?_
  refine br_dec (fun h8=>?_) (fun h8=>⟨by omega,by omega,wtab.getD r 0,?_,?_⟩)
  ·rw[wrap_id (n:=(16:Int)-(r:Nat)) (by omega) (by omega),show(16:Int)-((r:Nat):Int)=((16-r:Nat):Int) from by omega]
   refine⟨by omega,by omega,wtab.getD (16-r) 0,?_,?_⟩
   ·rw[add_none,Nat.zero_add,Int.toNat_natCast]
    exact hs2.get 0 rfl (wtabA _ (by omega))
   ·have:=wtab_rng (16-r)
    rw[wrap_id (by omega) (by omega),Int.zero_sub]
    have:=hR H2 hs2.ext
    rw[if_neg (by omega)] at this
    exact this
  ·rw[add_none,Nat.zero_add,Int.toNat_natCast]
   exact hs2.get 0 rfl (wtabA _ (by omega))
  ·have:=hR H2 hs2.ext
   rw[if_pos (by omega)] at this
   exact this
 refine br_dec (fun h16=>?_) (fun h16=>nx (k%32) (by omega) ?_)
 ·rw[wrap_id (by omega) (by omega),show((32:Nat):Int)-((k%32:Nat):Int)=((32-k%32:Nat):Int) from by omega]
  rw[if_neg (by omega),if_neg (by omega)] at hR
  exact nx _ (by omega) hR
 ·intro H' e'
  have:=hR H' e'
  split at this
  ·rename_i h8;rw[if_pos h8];exact this
  ·rename_i h8;rw[if_neg h8];rw[if_pos (by omega)] at this;exact this
theorem c56(hR: ∀H',Ext H H'→R (.agg (ints cT).toArray) H'):CallsH Tryz.prog 56 #[] H R:=by
 refine Tryz.s56 (_u:=()) ?_
 unfold Tryz.S56
 refine(St.nil H).alc fun b1 H1 hs1=>hs1.alc fun b H2 hs2=>?_
 rw[zeroA] at hs2
 intro X hX
 have hl:=cT_len
 have outer: ∀u,u≤8→ ∀H3,St H H3 [.cell b (ints (fillA cT (8*u))).toArray 48,.cell b1 (ints (List.replicate 64 0)).toArray 48]→X [.int .i64 (u:Nat)] H3:=upto fun u hu ih H3 hs3=>by
  refine hX _ H3 (br_dec (fun hlt=>?_) (fun hge=>?_))
  ·have hlt:u<8:=by omega
   rw[wrap_id (n:=(u:Int)+1) (by omega) (by omega)]
   intro Y hY
   have inner: ∀x,x≤8→ ∀H4,St H H4 [.cell b (ints (fillA cT (8*u+x))).toArray 48,.cell b1 (ints (List.replicate 64 0)).toArray 48]→Y [.int .i64 (x:Nat)] H4:=upto fun x hx ihx H4 hs4=>by
    refine hY _ H4 (br_dec (fun hltx=>?_) (fun hgex=>?_))
    ·have hltx:x<8:=by omega
     refine c92 hlt hltx fun H5 e5=>⟨_,rfl,?_⟩
     rw[wrap_id (n:=(8:Int)*(u:Nat)) (by omega) (by omega),wrap_id (n:=(8:Int)*(u:Nat)+(x:Nat)) (by omega) (by omega),show(8:Int)*(u:Nat)+(x:Nat)=((8*u+x:Nat):Int) from by omega,wrap_id (n:=(x:Int)+1) (by omega) (by omega)]
     refine⟨by omega,by omega,?_⟩
     rw[add_none,Nat.zero_add,Int.toNat_natCast,Nat.mul_one]
     refine(hs4.step e5).putA 0 rfl (by rw[fillA_len (by omega)];omega) fun H6 hs6=>ihx hltx H6 ?_
     have hg:cM u x=cT.getD (8*u+x) 0:=by
      have:=cT_get hlt hltx
      rw[Nat.mul_comm] at this
      rw[List.getD_eq_getElem?_getD,this];rfl
     rw[hg,fillA_set (by omega)] at hs6
     exact hs6
    ·have:x=8:=by omega
     subst this
     exact ih hlt H4 hs4
   exact inner 0 (by omega) H3 hs3
  ·have:u=8:=by omega
   subst this
   have e:=fillA_all cT
   rw[hl] at e
   rw[e] at hs3
   refine⟨_,by rw[intsA_size];exact hl,rowIn_whole (hs3.block 0 rfl),by rw[intsA_size];exact hl,?_⟩
   refine hs3.putAllA 1 rfl (by rw[intsA_size,hl];simp) fun H4 hs4=>?_
   exact⟨_,by rw[intsA_size];exact hl,rowIn_whole (hs4.block 1 rfl),hR H4 hs4.ext⟩
 exact outer 0 (by omega) H2 (by rw[Nat.mul_zero,fillA_zero,hl];exact hs2)
theorem tdiv_down26{n:Int}:(Int.tdiv (n-(if Int.tmod n 67108864<0 then Int.tmod n 67108864+67108864 else Int.tmod n 67108864)) 67108864)=n/67108864:=by
 rcases Int.le_total 0 n with h|h
 ·rw[Int.tmod_eq_emod_of_nonneg h,if_neg (by omega),Int.tdiv_eq_ediv_of_nonneg (by omega)];omega
 ·obtain⟨a,rfl⟩: ∃a,n= -a:=⟨-n,by omega⟩
  rw[Int.neg_tmod,Int.tmod_eq_emod_of_nonneg (by omega)]
  split
  ·rw[show-a-(-(a%67108864)+67108864)= -(a-a%67108864+67108864) from by omega,Int.neg_tdiv,Int.tdiv_eq_ediv_of_nonneg (by omega)];omega
  ·rw[show-a- -(a%67108864)= -(a-a%67108864) from by omega,Int.neg_tdiv,Int.tdiv_eq_ediv_of_nonneg (by omega)];omega
theorem tdiv_down16{n:Int}:(Int.tdiv (n-(if Int.tmod n 65536<0 then Int.tmod n 65536+65536 else Int.tmod n 65536)) 65536)=n/65536:=by
 rcases Int.le_total 0 n with h|h
 ·rw[Int.tmod_eq_emod_of_nonneg h,if_neg (by omega),Int.tdiv_eq_ediv_of_nonneg (by omega)];omega
 ·obtain⟨a,rfl⟩: ∃a,n= -a:=⟨-n,by omega⟩
  rw[Int.neg_tmod,Int.tmod_eq_emod_of_nonneg (by omega)]
  split
  ·rw[show-a-(-(a%65536)+65536)= -(a-a%65536+65536) from by omega,Int.neg_tdiv,Int.tdiv_eq_ediv_of_nonneg (by omega)];omega
  ·rw[show-a- -(a%65536)= -(a-a%65536) from by omega,Int.neg_tdiv,Int.tdiv_eq_ediv_of_nonneg (by omega)];omega
theorem tmod_bd(n m:Int)(hm:0<m): -m<Int.tmod n m∧Int.tmod n m<m:=by
 rcases Int.le_total 0 n with h|h
 ·rw[Int.tmod_eq_emod_of_nonneg h]
  have:=Int.emod_nonneg n (show m≠0 by omega)
  have:=Int.emod_lt_of_pos n hm
  omega
 ·obtain⟨a,rfl⟩: ∃a,n= -a:=⟨-n,by omega⟩
  rw[Int.neg_tmod,Int.tmod_eq_emod_of_nonneg (by omega)]
  have:=Int.emod_nonneg a (show m≠0 by omega)
  have:=Int.emod_lt_of_pos a hm
  omega
theorem down26{n:Int}(h: -1000000000000000≤n∧n≤1000000000000000)(hR:R (.int .i64 (n/67108864)) H):CallsH Tryz.prog 57 #[.int .i64 n,.int .i64 (67108864:Int)] H R:=by
 have hb:=tmod_bd n 67108864 (by decide)
 have hd:=tdiv_down26 (n:=n)
 refine Tryz.s57 ⟨by decide,?_⟩
 intro J hJ
 refine br_dec (fun hlt=>hJ _ H ⟨by decide,?_⟩) (fun hge=>hJ _ H ⟨by decide,?_⟩)
 ·rw[if_pos hlt] at hd
  rw[wrap_id (n:=Int.tmod n 67108864+67108864) (by omega) (by omega),wrap_id (n:=n-_) (by omega) (by omega),hd,wrap_id (by omega) (by omega)]
  exact hR
 ·rw[if_neg hge] at hd
  rw[wrap_id (n:=n-_) (by omega) (by omega),hd,wrap_id (by omega) (by omega)]
  exact hR
theorem down16{n:Int}(h: -1000000000000000≤n∧n≤1000000000000000)(hR:R (.int .i64 (n/65536)) H):CallsH Tryz.prog 57 #[.int .i64 n,.int .i64 (65536:Int)] H R:=by
 have hb:=tmod_bd n 65536 (by decide)
 have hd:=tdiv_down16 (n:=n)
 refine Tryz.s57 ⟨by decide,?_⟩
 intro J hJ
 refine br_dec (fun hlt=>hJ _ H ⟨by decide,?_⟩) (fun hge=>hJ _ H ⟨by decide,?_⟩)
 ·rw[if_pos hlt] at hd
  rw[wrap_id (n:=Int.tmod n 65536+65536) (by omega) (by omega),wrap_id (n:=n-_) (by omega) (by omega),hd,wrap_id (by omega) (by omega)]
  exact hR
 ·rw[if_neg hge] at hd
  rw[wrap_id (n:=n-_) (by omega) (by omega),hd,wrap_id (by omega) (by omega)]
  exact hR
end Go.Proofs
namespace Go.Proofs
open Go.Sh
variable {H0 H:Heap} {σ:List Rs} {R:Value→Heap→Prop}
def halfV(s:List Int)(y u:Nat):Int:=sumN 8 fun x=>s.getD (y*8+x) 0*cM u x
def fwdV(s:List Int)(v u:Nat):Int:=sumN 8 fun y=>halfV s y u*cM v y
def nearM(n:Int):Int:=(n+33554432)/67108864
def fwdM(s:List Int):List Int:=(List.range 64).map fun i=>nearM (fwdV s (i/8) (i%8))
def Small(s:List Int):Prop:=s.length=64∧ ∀i,-255≤s.getD i 0∧s.getD i 0≤255
theorem fwdM_len(s:List Int):(fwdM s).length=64:=tab_len _ _
theorem term_bd{s:List Int}(h:Small s)(j u x:Nat): -1044480≤s.getD j 0*cM u x∧s.getD j 0*cM u x≤1044480:=by
 have:=mul_bd (h.2 j) (cM_rng u x);omega
theorem half_part{s:List Int}(h:Small s)(y u:Nat){n:Nat}(hn:n≤8): -8355840≤sumN n (fun x=>s.getD (y*8+x) 0*cM u x)∧sumN n (fun x=>s.getD (y*8+x) 0*cM u x)≤8355840:=by
 have:=sumN_bd (f:=fun x=>s.getD (y*8+x) 0*cM u x) (B:=1044480) n fun x _=>term_bd h _ _ _
 omega
theorem half_bd{s:List Int}(h:Small s)(y u:Nat): -8355840≤halfV s y u∧halfV s y u≤8355840:=half_part h y u (Nat.le_refl 8)
theorem fterm_bd{s:List Int}(h:Small s)(y u v:Nat): -34225520640≤halfV s y u*cM v y∧halfV s y u*cM v y≤34225520640:=by
 have:=mul_bd (half_bd h y u) (cM_rng v y);omega
theorem fwd_part{s:List Int}(h:Small s)(v u:Nat){n:Nat}(hn:n≤8): -273804165120≤sumN n (fun y=>halfV s y u*cM v y)∧sumN n (fun y=>halfV s y u*cM v y)≤273804165120:=by
 have:=sumN_bd (f:=fun y=>halfV s y u*cM v y) (B:=34225520640) n fun y _=>fterm_bd h _ _ _
 omega
theorem fwd_bd{s:List Int}(h:Small s)(v u:Nat): -273804165120≤fwdV s v u∧fwdV s v u≤273804165120:=fwd_part h v u (Nat.le_refl 8)
theorem near_bd{s:List Int}(h:Small s)(v u:Nat): -5000≤nearM (fwdV s v u)∧nearM (fwdV s v u)≤5000:=by
 have:=fwd_bd h v u
 unfold nearM;omega
theorem shr26(x:Int):shrI .i64 x (26:Int)=x/67108864:=by
 unfold shrI
 rw[show min (26:Int).toNat (IntKind.bits .i64)=26 from rfl]
 exact Int.fdiv_eq_ediv_of_nonneg _ (by decide)
theorem c81{n:Int}(h: -1000000000000000≤n∧n≤1000000000000000)(hR:R (.int .i64 (nearM n)) H):CallsH Tryz.prog 81 #[.int .i64 n] H R:=by
 refine Tryz.s81 ⟨by decide,?_⟩
 rw[wrap_id (by omega) (by omega),shr26]
 exact hR
theorem ix1{i x:Nat}(hi:i<64)(hx:x<8):IntKind.wrap .i64 (IntKind.wrap .i64 (IntKind.wrap .i64 (Int.tdiv (i:Int) 8)*8)+(x:Int))=((i/8*8+x:Nat):Int):=by
 rw[show(8:Int)=((8:Nat):Int) from rfl,tdivN,wN (by omega),wrap_id (n:=((i/8:Nat):Int)*((8:Nat):Int)) (by omega) (by omega),wrap_id (by omega) (by omega)];omega
theorem ix2{i y:Nat}(hi:i<64)(hy:y<8):IntKind.wrap .i64 (IntKind.wrap .i64 ((y:Int)*8)+Int.tmod (i:Int) 8)=((y*8+i%8:Nat):Int):=by
 rw[show(8:Int)=((8:Nat):Int) from rfl,tmodN,wrap_id (n:=(y:Int)*((8:Nat):Int)) (by omega) (by omega),wrap_id (by omega) (by omega)];omega
theorem ix3(i:Nat):Int.tmod (i:Int) 8=((i%8:Nat):Int):=tmodN i 8
theorem ix4{i:Nat}(hi:i<1000000):IntKind.wrap .i64 (Int.tdiv (i:Int) 8)=((i/8:Nat):Int):=by
 rw[show(8:Int)=((8:Nat):Int) from rfl,tdivN,wN (by omega)]
theorem w1{i:Nat}(hi:i<1000000000):IntKind.wrap .i64 ((i:Int)+1)=((i+1:Nat):Int):=by rw[wrap_id (by omega) (by omega)];omega
set_option maxHeartbeats 1000000 in
theorem c44{s:List Int}(h:Small s)(hR: ∀H',Ext H H'→R (.agg (ints (fwdM s)).toArray) H'):CallsH Tryz.prog 44 #[.agg (ints s).toArray] H R:=by
 have hsl:=h.1
 have hcl:=cT_len
 refine Tryz.s44 ?_
 unfold Tryz.S44
 refine(St.nil H).alc fun b2 H1 hs1=>hs1.alc fun b4 H2 hs2=>c80 fun H3 e3=>⟨_,rfl,?_⟩
 refine(hs2.step e3).alc fun b9 H4 hs4=>⟨by rw[intsA_size];exact hcl,hs4.putAllA 0 rfl (by rw[hcl];simp) fun H5 hs5=>hs5.alc fun b12 H6 hs6=>hs6.alc fun b14 H7 hs7=>?_⟩
 simp only[zeroA,List.set_cons_zero] at hs7
 clear hs1 hs2 hs4 hs5 hs6
 intro X hX
 have hl1:=tab_len 64 fun i=>halfV s (i/8) (i%8)
 generalize hL1:(List.range 64).map (fun i=>halfV s (i/8) (i%8))=L1 at hl1
 have hg1: ∀i,i<64→L1.getD i 0=halfV s (i/8) (i%8):=fun i hi=>by rw[←hL1];exact tab_getD hi
 have hlf:=fwdM_len s
 have two: ∀H8,St H H8 [.cell b14 (ints (List.replicate 64 0)).toArray 48,.cell b12 (ints L1).toArray 48,.cell b9 (ints cT).toArray 149,.cell b4 (ints (List.replicate 64 0)).toArray 48,.cell b2 (ints s).toArray 48]→X [.int .i64 ((64:Nat):Int)] H8:=fun H8 hs8=>by
  refine hX _ H8 (br_n (by omega) ?_)
  intro Y hY
  have go: ∀i,i≤64→ ∀H9,St H H9 [.cell b14 (ints (fillA (fwdM s) i)).toArray 48,.cell b12 (ints L1).toArray 48,.cell b9 (ints cT).toArray 149,.cell b4 (ints (List.replicate 64 0)).toArray 48,.cell b2 (ints s).toArray 48]→Y [.int .i64 (i:Nat)] H9:=upto fun i hi ih H9 hs9=>by
   refine hY _ H9 (br_dec (fun hlt=>?_) (fun hge=>?_))
   ·have hlt:i<64:=by omega
    rw[w1 (by omega)]
    intro Z hZ
    have inner: ∀y,y≤8→Z [.int .i64 (sumN y fun y=>halfV s y (i%8)*cM (i/8) y),.int .i64 (y:Nat)] H9:=upto fun y hy ihy=>by
     refine hZ _ _ H9 (br_dec (fun hlty=>?_) (fun hgey=>?_))
     ·have hlty:y<8:=by omega
      rw[ix2 hlt hlty,ix4 (by omega),w1 (by omega)]
      have v1:L1[y*8+i%8]?=some (halfV s y (i%8)):=by
       rw[getD_some L1 0 (by omega),hg1 _ (by omega),show(y*8+i%8)/8=y from by omega,show(y*8+i%8)%8=i%8 from by omega]
      have v2:cT[(i/8)*8+y]?=some (cM (i/8) y):=cT_get (by omega) hlty
      refine⟨by decide,by omega,by omega,halfV s y (i%8),?_,by decide,by omega,by omega,by omega,by omega,cM (i/8) y,?_,?_⟩
      ·rw[add_none,Nat.zero_add,Int.toNat_natCast,Nat.mul_one];exact hs9.rdA 1 rfl v1
      ·rw[add_none,add_none,Nat.zero_add,Int.toNat_natCast,Int.toNat_natCast,Nat.mul_one];exact hs9.rdA 2 rfl v2
      ·have t1:=fterm_bd h y (i%8) (i/8)
       have t2:=fwd_part h (i/8) (i%8) (n:=y) (by omega)
       rw[wrap_id (n:=halfV s y (i%8)*cM (i/8) y) (by omega) (by omega),wrap_id (by omega) (by omega)]
       exact ihy hlty
     ·have:y=8:=by omega
      subst this
      have t2:=fwd_bd h (i/8) (i%8)
      unfold fwdV at t2
      refine c81 (by omega) ⟨_,rfl,by omega,by omega,?_⟩
      rw[add_none,Nat.zero_add,Int.toNat_natCast,Nat.mul_one]
      refine hs9.putA 0 rfl (by rw[fillA_len (by omega)];omega) fun H10 hs10=>ih hlt H10 ?_
      have e:nearM (sumN 8 fun y=>halfV s y (i%8)*cM (i/8) y)=(fwdM s).getD i 0:=(tab_getD (f:=fun i=>nearM (fwdV s (i/8) (i%8))) hlt).symm
      rw[e,fillA_set (by omega)] at hs10
      exact hs10
    exact inner 0 (by omega)
   ·have:i=64:=by omega
    subst this
    have e:=fillA_all (fwdM s)
    rw[hlf] at e
    rw[e] at hs9
    refine⟨_,by rw[intsA_size];exact hlf,rowIn_whole (hs9.block 0 rfl),by rw[intsA_size];exact hlf,?_⟩
    refine hs9.putAllA 3 rfl (by rw[intsA_size,hlf];simp) fun H10 hs10=>?_
    exact⟨_,by rw[intsA_size];exact hlf,rowIn_whole (hs10.block 3 rfl),hR H10 hs10.ext⟩
  exact go 0 (by omega) H8 (by rw[fillA_zero,hlf];exact hs8)
 have go: ∀i,i≤64→ ∀H9,St H H9 [.cell b14 (ints (List.replicate 64 0)).toArray 48,.cell b12 (ints (fillA L1 i)).toArray 48,.cell b9 (ints cT).toArray 149,.cell b4 (ints (List.replicate 64 0)).toArray 48,.cell b2 (ints s).toArray 48]→X [.int .i64 (i:Nat)] H9:=upto fun i hi ih H9 hs9=>by
  by_cases hlt:i<64
  ·refine hX _ H9 (br_y (by omega) ?_)
   rw[w1 (by omega)]
   intro Z hZ
   have inner: ∀x,x≤8→ ∀H10,St H H10 [.cell b14 (ints (List.replicate 64 0)).toArray 48,.cell b12 (ints ((fillA L1 i).set i (sumN x fun x=>s.getD (i/8*8+x) 0*cM (i%8) x))).toArray 48,.cell b9 (ints cT).toArray 149,.cell b4 (ints (List.replicate 64 0)).toArray 48,.cell b2 (ints s).toArray 48]→Z [.int .i64 (x:Nat)] H10:=upto fun x hx ihx H10 hs10=>by
    refine hZ _ H10 (br_dec (fun hltx=>?_) (fun hgex=>?_))
    ·have hltx:x<8:=by omega
     rw[ix1 hlt hltx,ix3,w1 (by omega)]
     have v1:=getD_some s 0 (i:=i/8*8+x) (by omega)
     have v2:cT[(i%8)*8+x]?=some (cM (i%8) x):=cT_get (by omega) hltx
     have v0:((fillA L1 i).set i (sumN x fun x=>s.getD (i/8*8+x) 0*cM (i%8) x))[i]?=some (sumN x fun x=>s.getD (i/8*8+x) 0*cM (i%8) x):=List.getElem?_set_self (by rw[fillA_len (by omega)];omega)
     refine⟨by omega,by omega,(sumN x fun x=>s.getD (i/8*8+x) 0*cM (i%8) x),?_,by decide,by omega,by omega,s.getD (i/8*8+x) 0,?_,by decide,by omega,by omega,by omega,by omega,cM (i%8) x,?_,by omega,by omega,?_⟩
     ·rw[add_none,Nat.zero_add,Int.toNat_natCast,Nat.mul_one];exact hs10.rdA 1 rfl v0
     ·rw[add_none,Nat.zero_add,Int.toNat_natCast,Nat.mul_one];exact hs10.rdA 4 rfl v1
     ·rw[add_none,add_none,Nat.zero_add,Int.toNat_natCast,Int.toNat_natCast,Nat.mul_one];exact hs10.rdA 2 rfl v2
     ·have t1:=term_bd h (i/8*8+x) (i%8) x
      have t2:=half_part h (i/8) (i%8) (n:=x) (by omega)
      rw[wrap_id (n:=s.getD (i/8*8+x) 0*cM (i%8) x) (by omega) (by omega),wrap_id (by omega) (by omega),add_none,Nat.zero_add,Int.toNat_natCast,Nat.mul_one]
      refine hs10.putA 1 rfl (by rw[List.length_set,fillA_len (by omega)];omega) fun H11 hs11=>ihx hltx H11 ?_
      simp only[List.set_set,List.set_cons_succ,List.set_cons_zero] at hs11
      exact hs11
    ·have:x=8:=by omega
     subst this
     refine ih hlt H10 ?_
     have e:(sumN 8 fun x=>s.getD (i/8*8+x) 0*cM (i%8) x)=L1.getD i 0:=by rw[hg1 i hlt];rfl
     rw[e,fillA_set (by omega)] at hs10
     exact hs10
   refine inner 0 (by omega) H9 ?_
   rw[sumN,fillA_set0 (by omega)];exact hs9
  ·have:i=64:=by omega
   subst this
   have e:=fillA_all L1
   rw[hl1] at e
   rw[e] at hs9
   exact two H9 hs9
 exact go 0 (by omega) H7 (by rw[fillA_zero,hl1];exact hs7)
theorem ref_term{s:List Int}(h:Small s)(u v i:Nat):(-1044480≤s.getD i 0*cM u (i%8)∧s.getD i 0*cM u (i%8)≤1044480)∧ -4278190080≤s.getD i 0*cM u (i%8)*cM v (i/8)∧s.getD i 0*cM u (i%8)*cM v (i/8)≤4278190080:=by
 have h1:=term_bd h i u (i%8)
 have h2:=mul_bd h1 (cM_rng v (i/8))
 exact⟨h1,by omega⟩
theorem ref_sum(s:List Int)(u v:Nat):sumN 64 (fun i=>s.getD i 0*cM u (i%8)*cM v (i/8))=fwdV s v u:=by
 rw[show(64:Nat)=8*8 from rfl,sumN_rows]
 unfold fwdV halfV
 refine sumN_congr fun y hy=>?_
 rw[sumN_mul]
 refine sumN_congr fun x hx=>?_
 rw[show(8*y+x)%8=x from by omega,show(8*y+x)/8=y from by omega,Nat.mul_comm 8 y]
set_option maxHeartbeats 1000000 in
theorem c27{s:List Int}(h:Small s)(hR: ∀H',Ext H H'→R (.agg (ints (fwdM s)).toArray) H'):CallsH Tryz.prog 27 #[.agg (ints s).toArray] H R:=by
 have hsl:=h.1
 have hcl:=cT_len
 have hlf:=fwdM_len s
 refine Tryz.s27 ?_
 unfold Tryz.S27
 refine(St.nil H).alc fun b2 H1 hs1=>hs1.alc fun b4 H2 hs2=>c56 fun H3 e3=>⟨_,rfl,?_⟩
 refine(hs2.step e3).alc fun b9 H4 hs4=>⟨by rw[intsA_size];exact hcl,hs4.putAllA 0 rfl (by rw[hcl];simp) fun H5 hs5=>hs5.alc fun b12 H6 hs6=>?_⟩
 simp only[zeroA,List.set_cons_zero] at hs6
 clear hs1 hs2 hs4 hs5
 intro X hX
 have outer: ∀v,v≤8→ ∀H7,St H H7 [.cell b12 (ints (fillA (fwdM s) (8*v))).toArray 48,.cell b9 (ints cT).toArray 48,.cell b4 (ints (List.replicate 64 0)).toArray 48,.cell b2 (ints s).toArray 48]→X [.int .i64 (v:Nat)] H7:=upto fun v hv ihv H7 hs7=>by
  refine hX _ H7 (br_dec (fun hlt=>?_) (fun hge=>?_))
  ·have hltv:v<8:=by omega
   rw[w1 (by omega)]
   intro Y hY
   have mid: ∀u,u≤8→ ∀H8,St H H8 [.cell b12 (ints (fillA (fwdM s) (8*v+u))).toArray 48,.cell b9 (ints cT).toArray 48,.cell b4 (ints (List.replicate 64 0)).toArray 48,.cell b2 (ints s).toArray 48]→Y [.int .i64 (u:Nat)] H8:=upto fun u hu ihu H8 hs8=>by
    refine hY _ H8 (br_dec (fun hlt=>?_) (fun hge=>?_))
    ·have hltu:u<8:=by omega
     rw[w1 (i:=u) (by omega)]
     intro Z hZ
     have w8u:IntKind.wrap .i64 ((8:Int)*(u:Nat))=((8*u:Nat):Int):=by rw[wrap_id (by omega) (by omega)];omega
     have w8v:IntKind.wrap .i64 ((8:Int)*(v:Nat))=((8*v:Nat):Int):=by rw[wrap_id (by omega) (by omega)];omega
     have inner: ∀i,i≤64→Z [.int .i64 (33554432+sumN i fun i=>s.getD i 0*cM u (i%8)*cM v (i/8)),.int .i64 (i:Nat)] H8:=upto fun i hi ihi=>by
      refine hZ _ _ H8 (br_dec (fun hlt=>?_) (fun hge=>?_))
      ·have hlt:i<64:=by omega
       rw[w8u,w8v,ix3,ix4 (by omega),w1 (by omega),wrap_id (n:=((8*u:Nat):Int)+((i%8:Nat):Int)) (by omega) (by omega),wrap_id (n:=((8*v:Nat):Int)+((i/8:Nat):Int)) (by omega) (by omega),
        show((8*u:Nat):Int)+((i%8:Nat):Int)=((u*8+i%8:Nat):Int) from by omega,show((8*v:Nat):Int)+((i/8:Nat):Int)=((v*8+i/8:Nat):Int) from by omega]
       have v1:=getD_some s 0 (i:=i) (by omega)
       have v2:cT[u*8+i%8]?=some (cM u (i%8)):=cT_get hltu (by omega)
       have v3:cT[v*8+i/8]?=some (cM v (i/8)):=cT_get hltv (by omega)
       refine⟨by omega,by omega,s.getD i 0,?_,by decide,by omega,by omega,cM u (i%8),?_,by decide,by omega,by omega,cM v (i/8),?_,?_⟩
       ·rw[add_none,Nat.zero_add,Int.toNat_natCast,Nat.mul_one];exact hs8.rdA 3 rfl v1
       ·rw[add_none,Nat.zero_add,Int.toNat_natCast,Nat.mul_one];exact hs8.rdA 1 rfl v2
       ·rw[add_none,Nat.zero_add,Int.toNat_natCast,Nat.mul_one];exact hs8.rdA 1 rfl v3
       ·obtain⟨t1,t2⟩:=ref_term h u v i
        have t3:=sumN_bd (f:=fun i=>s.getD i 0*cM u (i%8)*cM v (i/8)) (B:=4278190080) i fun j _=>(ref_term h u v j).2
        rw[wrap_id (n:=s.getD i 0*cM u (i%8)) (by omega) (by omega),wrap_id (n:=s.getD i 0*cM u (i%8)*cM v (i/8)) (by omega) (by omega),wrap_id (by omega) (by omega),Int.add_assoc]
        exact ihi hlt
      ·have:i=64:=by omega
       subst this
       rw[ref_sum]
       have t:=fwd_bd h v u
       refine down26 (by omega) ⟨_,rfl,?_⟩
       rw[w8v,wrap_id (by omega) (by omega),show((8*v:Nat):Int)+(u:Nat)=((8*v+u:Nat):Int) from by omega]
       refine⟨by omega,by omega,?_⟩
       rw[add_none,Nat.zero_add,Int.toNat_natCast,Nat.mul_one]
       refine hs8.putA 0 rfl (by rw[fillA_len (by omega)];omega) fun H9 hs9=>ihu hltu H9 ?_
       have e:(33554432+fwdV s v u)/67108864=(fwdM s).getD (8*v+u) 0:=by
        rw[show(fwdM s).getD (8*v+u) 0=nearM (fwdV s ((8*v+u)/8) ((8*v+u)%8)) from tab_getD (by omega),show(8*v+u)/8=v from by omega,show(8*v+u)%8=u from by omega]
        unfold nearM;rw[Int.add_comm]
       rw[e,fillA_set (by omega)] at hs9
       exact hs9
     have:=inner 0 (by omega)
     rw[sumN,Int.add_zero] at this
     exact this
    ·have:u=8:=by omega
     subst this
     exact ihv hltv H8 hs8
   exact mid 0 (by omega) H7 hs7
  ·have:v=8:=by omega
   subst this
   have e:=fillA_all (fwdM s)
   rw[hlf] at e
   rw[e] at hs7
   refine⟨_,by rw[intsA_size];exact hlf,rowIn_whole (hs7.block 0 rfl),by rw[intsA_size];exact hlf,?_⟩
   refine hs7.putAllA 2 rfl (by rw[intsA_size,hlf];simp) fun H10 hs10=>?_
   exact⟨_,by rw[intsA_size];exact hlf,rowIn_whole (hs10.block 2 rfl),hR H10 hs10.ext⟩
 exact outer 0 (by omega) H6 (by rw[Nat.mul_zero,fillA_zero,hlf];exact hs6)
def inStepsM(f t:Int):Int:=if f<0 then-((-f+t/2)/t) else(f+t/2)/t
theorem quo_bd{n t:Int}(h0:0≤n)(ht:1≤t):0≤n/t∧n/t≤n:=⟨Int.ediv_nonneg h0 (by omega),Int.ediv_le_self _ h0⟩
theorem inPos{f t:Int}(hf:0≤f∧f≤10000)(ht:1≤t∧t≤255)(hR:R (.int .i64 ((f+t/2)/t)) H):CallsH Tryz.prog 45 #[.int .i64 f,.int .i64 t] H R:=by
 refine Tryz.s45 (br_n (by omega) ⟨by decide,by omega,?_⟩)
 have:=quo_bd (n:=f+t/2) (t:=t) (by omega) (by omega)
 rw[Int.tdiv_eq_ediv_of_nonneg (a:=t) (by omega),wrap_id (n:=t/2) (by omega) (by omega),wrap_id (n:=f+t/2) (by omega) (by omega),Int.tdiv_eq_ediv_of_nonneg (by omega),wrap_id (by omega) (by omega)]
 exact hR
theorem c45{f t:Int}(hf: -5000≤f∧f≤5000)(ht:1≤t∧t≤255)(hR:R (.int .i64 (inStepsM f t)) H):CallsH Tryz.prog 45 #[.int .i64 f,.int .i64 t] H R:=by
 unfold inStepsM at hR
 by_cases h:f<0
 ·rw[if_pos h] at hR
  refine Tryz.s45 (br_y h ?_)
  rw[wrap_id (by omega) (by omega),Int.zero_sub]
  have:=quo_bd (n:= -f+t/2) (t:=t) (by omega) (by omega)
  refine inPos (by omega) ht ⟨_,rfl,?_⟩
  rw[wrap_id (by omega) (by omega),Int.zero_sub]
  exact hR
 ·rw[if_neg h] at hR
  exact inPos (by omega) ht hR
theorem c28{f t:Int}(hf: -5000≤f∧f≤5000)(ht:1≤t∧t≤255)(hR:R (.int .i64 (inStepsM f t)) H):CallsH Tryz.prog 28 #[.int .i64 f,.int .i64 t] H R:=by
 unfold inStepsM at hR
 refine Tryz.s28 (br_dec (fun h=>⟨by decide,by omega,?_⟩) (fun h=>⟨by decide,by omega,?_⟩))
 ·rw[if_pos h] at hR
  have:=quo_bd (n:= -f+t/2) (t:=t) (by omega) (by omega)
  rw[Int.tdiv_eq_ediv_of_nonneg (a:=t) (by omega),wrap_id (n:=t/2) (by omega) (by omega),wrap_id (n:=t/2-f) (by omega) (by omega),show t/2-f= -f+t/2 from by omega,Int.tdiv_eq_ediv_of_nonneg (by omega),wrap_id (n:=(-f+t/2)/t) (by omega) (by omega),wrap_id (by omega) (by omega),Int.zero_sub]
  exact hR
 ·rw[if_neg h] at hR
  have:=quo_bd (n:=f+t/2) (t:=t) (by omega) (by omega)
  rw[Int.tdiv_eq_ediv_of_nonneg (a:=t) (by omega),wrap_id (n:=t/2) (by omega) (by omega),wrap_id (n:=f+t/2) (by omega) (by omega),Int.tdiv_eq_ediv_of_nonneg (by omega),wrap_id (by omega) (by omega)]
  exact hR
end Go.Proofs
namespace Go.Proofs
open Go.Sh
variable {H0 H:Heap} {σ:List Rs} {R:Value→Heap→Prop}
def T0:List Int:=[16,11,10,16,24,40,51,61,12,12,14,19,26,58,60,55,14,13,16,24,40,57,69,56,14,17,22,29,51,87,80,62,18,22,37,56,68,109,103,77,24,35,55,64,81,104,113,92,49,64,78,87,103,121,120,101,72,92,95,98,112,100,103,99]
def corner:List Int:=[17,18,24,47,18,21,26,66,24,26,56,99,47,66,99,99]
def tbl(v:Nat):List Int:=(List.range 64).map fun i=>if i%8<4∧i/8<v then corner.getD (i/8*4+i%8) 0 else 99
def T(d:Bool):List Int:=if d then tbl 4 else T0
def facM(q:Int):Int:=if q<50 then 5000/q else 200-2*q
def stepV(q:Int)(d:Bool)(i:Nat):Int:=min 255 (max 1 (((T d).getD i 0*facM q+50)/100))
def stepsM(q:Int)(d:Bool):List Int:=(List.range 64).map (stepV q d)
theorem stepsM_len(q:Int)(d:Bool):(stepsM q d).length=64:=tab_len _ _
theorem stepV_rng(q:Int)(d:Bool)(i:Nat):1≤stepV q d i∧stepV q d i≤255:=by unfold stepV;omega
theorem T_len(d:Bool):(T d).length=64:=by cases d<;>rfl
theorem T_rng(d:Bool)(i:Nat):0≤(T d).getD i 0∧(T d).getD i 0≤121:=by
 by_cases h:i<64
 ·have h0: ∀i:Fin 64,0≤(T false).getD i.val 0∧(T false).getD i.val 0≤121:=by decide+kernel
  have h1: ∀i:Fin 64,0≤(T true).getD i.val 0∧(T true).getD i.val 0≤121:=by decide+kernel
  cases d
  ·exact h0 ⟨i,h⟩
  ·exact h1 ⟨i,h⟩
 ·have:=T_len d
  rw[List.getD_eq_getElem?_getD,List.getElem?_eq_none (by omega)];decide
theorem fac_rng{q:Int}(h:1≤q∧q≤100):0≤facM q∧facM q≤5000:=by
 unfold facM
 split
 ·have:=quo_bd (n:=5000) (t:=q) (by omega) (by omega);omega
 ·omega
theorem tf_rng{q:Int}(h:1≤q∧q≤100)(d:Bool)(i:Nat):0≤(T d).getD i 0*facM q∧(T d).getD i 0*facM q≤605000:=by
 have h1:=T_rng d i
 have h2:=fac_rng h
 have:=mul_bd (A:=121) (B:=5000) (x:=(T d).getD i 0) (y:=facM q) (by omega) (by omega)
 exact⟨Int.mul_nonneg h1.1 h2.1,by omega⟩
theorem mul64(hR:R (.tuple #[.int .u64 0,.int .u64 64]) H):CallsH Tryz.prog 114 #[.int .u64 1,.int .u64 64] H R:=
 Tryz.s114 ⟨by decide,by decide,by decide,by decide,by decide,Eq.mp (by kernel_rfl) hR⟩
theorem rp_take{n:Nat}(h:n≤32):(((List.replicate n (99:Int)++List.replicate (64-n) 0).drop 0).take n)=List.replicate n 99:=by
 rw[List.drop_zero,List.take_append_of_le_length (by simp)];simp
theorem rp_put{n:Nat}(h:n≤32):(List.replicate n (99:Int)++List.replicate (64-n) 0).take n++List.replicate n 99++(List.replicate n (99:Int)++List.replicate (64-n) 0).drop (n+(List.replicate n (99:Int)).length)=List.replicate (2*n) 99++List.replicate (64-2*n) 0:=by
 rw[List.length_replicate,List.take_append_of_le_length (by simp),List.take_of_length_le (by simp),List.drop_append,List.drop_of_length_le (by simp),List.nil_append,List.length_replicate,List.drop_replicate,List.replicate_append_replicate]
 congr 2<;>omega
theorem repeat99{b2:Nat}{ty:TypeId}(hb:H[b2]?=some (.cells #[Value.int .i64 99] ty))(hR: ∀b H',St H H' [.cell b (ints (List.replicate 64 99)).toArray 3]→R (.slice (some ⟨b,0,none⟩) 64 64) H'):
 CallsH Tryz.prog 82 #[.slice (some ⟨b2,0,none⟩) 1 1,.int .i64 (64:Int)] H R:=by
 refine Tryz.s82 ?_
 unfold Tryz.S82
 intro J hJ
 refine br_n (by decide) (hJ H (Tryz.s104 ?_))
 rw[show IntKind.wrap .u64 (((1:Nat):Nat):Int)=1 from by decide,show IntKind.wrap .u64 (64:Int)=64 from by decide]
 refine mul64 ⟨_,_,rfl,_,_,rfl,?_⟩
 intro K hK
 refine br_n (by decide) (br_n (by decide) (hK H ?_))
 rw[show IntKind.wrap .i64 (64:Int)=64 from by decide,show Int.toNat (64:Int)=64 from rfl]
 refine⟨by decide,by decide,by decide,by decide,(St.nil H).alc fun b H1 hs1=>?_⟩
 rw[repsA] at hs1
 refine⟨(ints [99]).toArray,⟨rfl,rowIn_whole (hs1.ext _ _ hb)⟩,?_⟩
 refine hs1.putRowA 0 rfl (by simp) fun H2 hs2=>?_
 have hs2:St H H2 [.cell b (ints (List.replicate 1 99++List.replicate (64-1) 0)).toArray 3]:=hs2
 intro X hX
 have step: ∀n:Nat,1≤n→n≤32→(∀H4,St H H4 [.cell b (ints (List.replicate (2*n) 99++List.replicate (64-2*n) 0)).toArray 3]→X [.int .i64 ((2*n:Nat):Int)] H4)→ ∀H3,St H H3 [.cell b (ints (List.replicate n 99++List.replicate (64-n) 0)).toArray 3]→X [.int .i64 (n:Nat)] H3:=fun n h1 h32 nx H3 hs3=>by
  refine hX _ H3 (br_y (by omega) ⟨by omega,by omega,by omega,by omega,(ints (List.replicate n 99)).toArray,?_,?_⟩)
  ·rw[if_neg (by decide)]
   show rowOf H3 (some (Addr.add ⟨b,0,none⟩ (0*1))) _ _
   simp only[add_none,Int.toNat_natCast,Nat.mul_one,Nat.zero_add]
   rw[show min (n-0) (64-n)=n from by omega]
   exact hs3.rowA 0 rfl (rp_take h32).symm (by rw[List.length_append,List.length_replicate,List.length_replicate];omega)
  ·rw[Int.toNat_natCast,if_neg (by omega),show min (n-0) (64-n)=n from by omega,wrap_id (by omega) (by omega),show(n:Int)+(n:Nat)=((2*n:Nat):Int) from by omega]
   show stAt H3 (Addr.add ⟨b,0,none⟩ (n*1)) _ _
   rw[add_none,Nat.zero_add,Nat.mul_one]
   refine hs3.putRowA 0 rfl (by simp;omega) fun H4 hs4=>nx H4 ?_
   rw[rp_put h32] at hs4
   exact hs4
 refine step 1 (by omega) (by omega) (step 2 (by omega) (by omega) (step 4 (by omega) (by omega) (step 8 (by omega) (by omega) (step 16 (by omega) (by omega) (step 32 (by omega) (by omega) fun H4 hs4=>?_))))) H2 hs2
 exact hX _ H4 (br_n (by decide) (hR b H4 hs4))
theorem tbl_put: ∀v:Nat,v<4→(tbl v).take (8*v)++(corner.drop (4*v)).take 4++(tbl v).drop (8*v+4)=tbl (v+1):=fun v hv=>by
 obtain rfl|rfl|rfl|rfl:v=0∨v=1∨v=2∨v=3:=by omega
 all_goals decide+kernel
theorem tbl_len(v:Nat):(tbl v).length=64:=tab_len _ _
theorem c47{d:Bool}(hR: ∀b H',St H H' [.cell b (ints (T d)).toArray 3]→R (.slice (some ⟨b,0,none⟩) 64 64) H'):CallsH Tryz.prog 47 #[.bool d] H R:=by
 refine Tryz.s47 (br_i (fun hd=>?_) (fun hd=>?_))
 ·subst hd
  refine(St.nil H).alc fun b2 H1 hs1=>repeat99 (hs1.block 0 rfl) fun b H2 hs2=>⟨_,_,_,rfl,?_⟩
  refine(hs1.call hs2).alc fun b7 H3 hs3=>hs3.alc fun b9 H4 hs4=>hs4.alc fun b11 H5 hs5=>hs5.alc fun b13 H6 hs6=>hs6.alc fun b15 H7 hs7=>?_
  clear hs1 hs2 hs3 hs4 hs5 hs6
  intro X hX
  -- a row is laid
  have step: ∀(v:Nat) (bl:Nat) (i:Nat),v<4→(∀H9,St H H9 [.cell b15 #[.slice (some ⟨b7,0,none⟩) 4 4,.slice (some ⟨b9,0,none⟩) 4 4,.slice (some ⟨b11,0,none⟩) 4 4,.slice (some ⟨b13,0,none⟩) 4 4] 55,.cell b13 (ints [47,66,99,99]).toArray 3,.cell b11 (ints [24,26,56,99]).toArray 3,.cell b9 (ints [18,21,26,66]).toArray 3,.cell b7 (ints [17,18,24,47]).toArray 3,.cell b (ints (tbl (v+1))).toArray 3,.cell b2 #[Value.int .i64 99] 3]→X [.int .i64 ((v+1:Nat):Int)] H9)→
   ∀H8,St H H8 [.cell b15 #[.slice (some ⟨b7,0,none⟩) 4 4,.slice (some ⟨b9,0,none⟩) 4 4,.slice (some ⟨b11,0,none⟩) 4 4,.slice (some ⟨b13,0,none⟩) 4 4] 55,.cell b13 (ints [47,66,99,99]).toArray 3,.cell b11 (ints [24,26,56,99]).toArray 3,.cell b9 (ints [18,21,26,66]).toArray 3,.cell b7 (ints [17,18,24,47]).toArray 3,.cell b (ints (tbl v)).toArray 3,.cell b2 #[Value.int .i64 99] 3]→
   cell H8 ⟨b15,v,none⟩=some (.slice (some ⟨bl,0,none⟩) 4 4)→rowOf H8 (some ⟨bl,0,none⟩) 4 (ints ((corner.drop (4*v)).take 4)).toArray→X [.int .i64 (v:Nat)] H8:=fun v bl i hv nx H8 hs8 hc hro=>by
   have w8:IntKind.wrap .i64 ((8:Int)*(v:Nat))=((8*v:Nat):Int):=by rw[wrap_id (by omega) (by omega)];omega
   have htl:=tbl_len v
   have hcl:((corner.drop (4*v)).take 4).length=4:=by simp[corner];omega
   refine hX _ H8 (br_y (by omega) ⟨_,rfl,by omega,by omega,some ⟨bl,0,none⟩,4,4,?_,?_⟩)
   ·rw[add_none,Nat.zero_add,Int.toNat_natCast,Nat.mul_one];exact hc
   ·rw[w8,w1 (by omega)]
    refine⟨by omega,by omega,(ints ((corner.drop (4*v)).take 4)).toArray,?_,?_⟩
    ·rw[show min 4 (64-Int.toNat ((8*v:Nat):Int))*1=4 from by omega];exact hro
    ·rw[Int.toNat_natCast,if_neg (by omega)]
     show stAt H8 (Addr.add ⟨b,0,none⟩ (8*v*1)) _ _
     rw[add_none,Nat.zero_add,Nat.mul_one]
     refine hs8.putRowA 5 rfl (by omega) fun H9 hs9=>nx H9 ?_
     rw[hcl,tbl_put v hv] at hs9
     exact hs9
  have e0:(ints (List.replicate 64 99)).toArray=(ints (tbl 0)).toArray:=by rw[show(List.replicate 64 99:List Int)=tbl 0 from by decide+kernel]
  have hs7:St H H7 [.cell b15 #[.slice (some ⟨b7,0,none⟩) 4 4,.slice (some ⟨b9,0,none⟩) 4 4,.slice (some ⟨b11,0,none⟩) 4 4,.slice (some ⟨b13,0,none⟩) 4 4] 55,.cell b13 (ints [47,66,99,99]).toArray 3,.cell b11 (ints [24,26,56,99]).toArray 3,.cell b9 (ints [18,21,26,66]).toArray 3,.cell b7 (ints [17,18,24,47]).toArray 3,.cell b (ints (tbl 0)).toArray 3,.cell b2 #[Value.int .i64 99] 3]:=by rw[←e0];exact hs7
  refine step 0 b7 4 (by omega) (fun H8 hs8=>step 1 b9 3 (by omega) (fun H9 hs9=>step 2 b11 2 (by omega) (fun H10 hs10=>step 3 b13 1 (by omega) (fun H11 hs11=>?_) H10 hs10 (hs10.get 0 rfl rfl) ⟨rfl,rowIn_whole (hs10.block 1 rfl)⟩) H9 hs9 (hs9.get 0 rfl rfl) ⟨rfl,rowIn_whole (hs9.block 2 rfl)⟩) H8 hs8 (hs8.get 0 rfl rfl) ⟨rfl,rowIn_whole (hs8.block 3 rfl)⟩) H7 hs7 (hs7.get 0 rfl rfl) ⟨rfl,rowIn_whole (hs7.block 4 rfl)⟩
  exact hX _ H11 (br_n (by decide) (hR b H11 ((hs11.front 5 rfl).take 1)))
 ·subst hd
  exact(St.nil H).alc fun b H1 hs1=>hR b H1 hs1
theorem fac_eq{q:Int}(h:1≤q∧q≤100):(q<50→IntKind.wrap .i64 (Int.tdiv (5000:Int) q)=facM q)∧(¬q<50→IntKind.wrap .i64 ((200:Int)-IntKind.wrap .i64 ((2:Int)*q))=facM q):=by
 have hf:=fac_rng h
 unfold facM at*
 refine⟨fun h'=>?_,fun h'=>?_⟩
 ·rw[if_pos h'] at hf ⊢
  rw[Int.tdiv_eq_ediv_of_nonneg (by omega),wrap_id (by omega) (by omega)]
 ·rw[if_neg h'] at hf ⊢
  rw[wrap_id (n:=2*q) (by omega) (by omega),wrap_id (by omega) (by omega)]
theorem c16{q:Int}{d:Bool}(hbad: ¬(1≤q∧q≤100)→ ∀H',Ext H H'→R (.tuple #[.agg (ints (List.replicate 64 0)).toArray,.bool false]) H')
 (hR:1≤q∧q≤100→ ∀H',Ext H H'→R (.tuple #[.agg (ints (stepsM q d)).toArray,.bool true]) H'):CallsH Tryz.prog 16 #[.int .i64 q,.bool d] H R:=by
 have hsl:=stepsM_len q d
 refine Tryz.s16 ?_
 unfold Tryz.S16
 refine(St.nil H).alc fun b3 H1 hs1=>hs1.alc fun b5 H2 hs2=>?_
 simp only[zeroA] at hs2
 intro J hJ
 have hz:(List.replicate 64 (0:Int)).length=64:=by simp
 have none_: ¬(1≤q∧q≤100)→ ∃v24:Array Value,v24.size=64∧rowIn H2 ⟨b5,0,none⟩ v24∧v24.size=64∧stAt H2 ⟨b3,0,none⟩ (Array.toList v24) fun H_25=> ∃res26:Array Value,res26.size=64∧rowIn H_25 ⟨b3,0,none⟩ res26∧R (Value.tuple #[Value.agg res26,Value.bool false]) H_25:=fun hn=>by
  refine⟨_,by rw[intsA_size];exact hz,rowIn_whole (hs2.block 0 rfl),by rw[intsA_size];exact hz,?_⟩
  refine hs2.putAllA 1 rfl (by simp[ints]) fun H3 hs3=>?_
  exact⟨_,by rw[intsA_size];exact hz,rowIn_whole (hs3.block 1 rfl),hbad hn H3 hs3.ext⟩
 refine br_dec (fun h=>none_ (by omega)) (fun h1=>br_dec (fun h=>none_ (by omega)) (fun h2=>hJ H2 ?_))
 have hq:1≤q∧q≤100:=by omega
 have hR:=hR hq
 have hTl:=T_len d
 intro K hK
 have nx: ∀s,s=facM q→K [.int .i64 s] H2:=fun s hs=>by
  subst hs
  refine hK _ H2 (c47 fun b H3 hs3=>⟨_,_,_,rfl,?_⟩)
  have hs3:=hs2.call hs3
  intro X hX
  have go: ∀i,i≤64→ ∀H4,St H H4 [.cell b (ints (T d)).toArray 3,.cell b5 (ints (fillA (stepsM q d) i)).toArray 48,.cell b3 (ints (List.replicate 64 0)).toArray 48]→X [.int .i64 (i:Nat)] H4:=upto fun i hi ih H4 hs4=>by
   refine hX _ H4 (br_dec (fun hlt=>?_) (fun hge=>?_))
   ·have hlt:i<64:=by omega
    have v1:=getD_some (T d) 0 (i:=i) (by omega)
    have t1:=tf_rng hq d i
    refine⟨_,rfl,by omega,by omega,(T d).getD i 0,?_,by decide,by omega,by omega,?_⟩
    ·rw[add_none,Nat.zero_add,Int.toNat_natCast,Nat.mul_one];exact hs4.rdA 0 rfl v1
    ·rw[wrap_id (n:=(T d).getD i 0*facM q) (by omega) (by omega),wrap_id (n:=(T d).getD i 0*facM q+50) (by omega) (by omega),Int.tdiv_eq_ediv_of_nonneg (by omega),wrap_id (by omega) (by omega),add_none,Nat.zero_add,Int.toNat_natCast,Nat.mul_one,w1 (by omega)]
     refine hs4.putA 1 rfl (by rw[fillA_len (by omega)];omega) fun H5 hs5=>ih hlt H5 ?_
     have e:min 255 (max 1 (((T d).getD i 0*facM q+50)/100))=(stepsM q d).getD i 0:=(tab_getD (f:=stepV q d) hlt).symm
     rw[e,fillA_set (by omega)] at hs5
     exact hs5
   ·have:i=64:=by omega
    subst this
    have e:=fillA_all (stepsM q d)
    rw[hsl] at e
    rw[e] at hs4
    refine⟨_,by rw[intsA_size];exact hsl,rowIn_whole (hs4.block 1 rfl),by rw[intsA_size];exact hsl,?_⟩
    refine hs4.putAllA 2 rfl (by rw[intsA_size,hsl];simp) fun H5 hs5=>?_
    exact⟨_,by rw[intsA_size];exact hsl,rowIn_whole (hs5.block 2 rfl),hR H5 hs5.ext⟩
  exact go 0 (by omega) H3 (by rw[fillA_zero,hsl];exact hs3)
 refine br_dec (fun h=>⟨by omega,nx _ ((fac_eq hq).1 h)⟩) (fun h=>nx _ ((fac_eq hq).2 h))
end Go.Proofs
namespace Go.Proofs
open Go.Sh
variable {H0 H:Heap} {σ:List Rs} {R:Value→Heap→Prop}
def mixT(i:Nat):List Int:=(tbl 4).take i++T0.drop i
theorem mixT_len{i:Nat}(h:i≤64):(mixT i).length=64:=by
 have h1:=tbl_len 4
 have h2:T0.length=64:=rfl
 unfold mixT;rw[List.length_append,List.length_take,List.length_drop];omega
theorem mixT_set: ∀i:Fin 64,(mixT i.val).set i.val ((tbl 4).getD i.val 0)=mixT (i.val+1):=by decide+kernel
theorem tbl4_get: ∀i:Fin 64,(i.val%8<4∧i.val/8<4→(tbl 4).getD i.val 0=corner.getD (i.val/8*4+i.val%8) 0)∧(¬(i.val%8<4∧i.val/8<4)→(tbl 4).getD i.val 0=99):=by decide+kernel
theorem c24{q:Int}{d:Bool}(hbad: ¬(1≤q∧q≤100)→ ∀H',Ext H H'→R (.tuple #[.agg (ints (List.replicate 64 0)).toArray,.bool false]) H')
 (hR:1≤q∧q≤100→ ∀H',Ext H H'→R (.tuple #[.agg (ints (stepsM q d)).toArray,.bool true]) H'):CallsH Tryz.prog 24 #[.int .i64 q,.bool d] H R:=by
 have hsl:=stepsM_len q d
 have hTl:=T_len d
 refine Tryz.s24 ?_
 unfold Tryz.S24
 refine(St.nil H).alc fun b3 H1 hs1=>hs1.alc fun b5 H2 hs2=>⟨rfl,?_⟩
 refine hs2.putAllA 0 (l:=T0) rfl (by simp;rfl) fun H3 hs3=>?_
 simp only[zeroA,List.set_cons_zero] at hs3
 clear hs1 hs2
 intro J hJ
 -- with the table
 have rest: ∀H4,St H H4 [.cell b5 (ints (T d)).toArray 48,.cell b3 (ints (List.replicate 64 0)).toArray 48]→J [] H4:=fun H4 hs4=>by
  refine hJ H4 (hs4.alc fun b10 H5 hs5=>?_)
  simp only[zeroA] at hs5
  intro K hK
  have hz:(List.replicate 64 (0:Int)).length=64:=by simp
  have none_: ¬(1≤q∧q≤100)→ ∃v24:Array Value,v24.size=64∧rowIn H5 ⟨b10,0,none⟩ v24∧v24.size=64∧stAt H5 ⟨b3,0,none⟩ (Array.toList v24) fun H_25=> ∃res26:Array Value,res26.size=64∧rowIn H_25 ⟨b3,0,none⟩ res26∧R (Value.tuple #[Value.agg res26,Value.bool false]) H_25:=fun hn=>by
   refine⟨_,by rw[intsA_size];exact hz,rowIn_whole (hs5.block 0 rfl),by rw[intsA_size];exact hz,?_⟩
   refine hs5.putAllA 2 rfl (by simp[ints]) fun H6 hs6=>?_
   exact⟨_,by rw[intsA_size];exact hz,rowIn_whole (hs6.block 2 rfl),hbad hn H6 hs6.ext⟩
  refine br_dec (fun h=>none_ (by omega)) (fun h1=>br_dec (fun h=>none_ (by omega)) (fun h2=>hK H5 ⟨by omega,?_⟩))
  have hq:1≤q∧q≤100:=by omega
  have hR:=hR hq
  intro L hL
  have nx: ∀s,s=facM q→L [.int .i64 s] H5:=fun s hs=>by
   subst hs
   refine hL _ H5 ?_
   intro X hX
   have go: ∀i,i≤64→ ∀H4,St H H4 [.cell b10 (ints (fillA (stepsM q d) i)).toArray 48,.cell b5 (ints (T d)).toArray 48,.cell b3 (ints (List.replicate 64 0)).toArray 48]→X [.int .i64 (i:Nat)] H4:=upto fun i hi ih H4 hs4=>by
    refine hX _ H4 (br_dec (fun hlt=>?_) (fun hge=>?_))
    ·have hlt:i<64:=by omega
     have v1:=getD_some (T d) 0 (i:=i) (by omega)
     have t1:=tf_rng hq d i
     have hfl:=fillA_len (L:=stepsM q d) (s:=i) (by omega)
     have e:min 255 (max 1 (((T d).getD i 0*facM q+50)/100))=(stepsM q d).getD i 0:=(tab_getD (f:=stepV q d) hlt).symm
     refine⟨by omega,by omega,(T d).getD i 0,?_,by decide,by omega,by omega,?_⟩
     ·rw[add_none,Nat.zero_add,Int.toNat_natCast,Nat.mul_one];exact hs4.rdA 1 rfl v1
     rw[wrap_id (n:=(T d).getD i 0*facM q) (by omega) (by omega),wrap_id (n:=(T d).getD i 0*facM q+50) (by omega) (by omega),Int.tdiv_eq_ediv_of_nonneg (by omega),wrap_id (n:=((T d).getD i 0*facM q+50)/100) (by omega) (by omega),add_none,Nat.zero_add,Int.toNat_natCast,Nat.mul_one,w1 (by omega)]
     generalize ((T d).getD i 0*facM q+50)/100=x at*
     refine hs4.putA 0 rfl (by omega) fun H5 hs5=>?_
     have g0: ∀{H6:Heap} {v:Int},St H H6 [.cell b10 (ints ((fillA (stepsM q d) i).set i v)).toArray 48,.cell b5 (ints (T d)).toArray 48,.cell b3 (ints (List.replicate 64 0)).toArray 48]→cell H6 ⟨b10,i,none⟩=some (.int .i64 v):=fun hs=>hs.rdA 0 rfl (List.getElem?_set_self (by omega))
     intro M hM
     have fin: ∀v H6,min 255 v=(stepsM q d).getD i 0→St H H6 [.cell b10 (ints ((fillA (stepsM q d) i).set i v)).toArray 48,.cell b5 (ints (T d)).toArray 48,.cell b3 (ints (List.replicate 64 0)).toArray 48]→M [] H6:=fun v H6 hv hs6=>by
      refine hM H6 ⟨by omega,by omega,v,g0 hs6,br_dec (fun hgt=>⟨by omega,by omega,?_⟩) (fun hle=>ih hlt H6 ?_)⟩
      ·refine hs6.putA 0 rfl (by rw[List.length_set];omega) fun H7 hs7=>ih hlt H7 ?_
       simp only[List.set_set,List.set_cons_zero] at hs7
       rw[show(255:Int)=(stepsM q d).getD i 0 from by omega,fillA_set (by omega)] at hs7
       exact hs7
      ·rw[show v=(stepsM q d).getD i 0 from by omega,fillA_set (by omega)] at hs6
       exact hs6
     refine⟨by omega,by omega,x,g0 hs5,br_dec (fun hlt1=>⟨by omega,by omega,?_⟩) (fun hge1=>fin x H5 (by omega) hs5)⟩
     refine hs5.putA 0 rfl (by rw[List.length_set];omega) fun H6 hs6=>fin 1 H6 (by omega) ?_
     simp only[List.set_set,List.set_cons_zero] at hs6
     exact hs6
    ·have:i=64:=by omega
     subst this
     have e:=fillA_all (stepsM q d)
     rw[hsl] at e
     rw[e] at hs4
     refine⟨_,by rw[intsA_size];exact hsl,rowIn_whole (hs4.block 0 rfl),by rw[intsA_size];exact hsl,?_⟩
     refine hs4.putAllA 2 rfl (by rw[intsA_size,hsl];simp) fun H5 hs5=>?_
     exact⟨_,by rw[intsA_size];exact hsl,rowIn_whole (hs5.block 2 rfl),hR H5 hs5.ext⟩
   exact go 0 (by omega) H5 (by rw[fillA_zero,hsl];exact hs5)
  refine br_dec (fun h=>nx _ ((fac_eq hq).2 (by omega))) (fun h=>nx _ ((fac_eq hq).1 (by omega)))
 refine br_i (fun hd=>?_) (fun hd=>?_)
 ·subst hd
  refine hs3.alc fun b37 H4 hs4=>⟨rfl,?_⟩
  refine hs4.putAllA 0 (l:=corner) rfl rfl fun H5 hs5=>?_
  intro X hX
  have go: ∀i,i≤64→ ∀H4,St H H4 [.cell b37 (ints corner).toArray 133,.cell b5 (ints (mixT i)).toArray 48,.cell b3 (ints (List.replicate 64 0)).toArray 48]→X [.int .i64 (i:Nat)] H4:=upto fun i hi ih H4 hs4=>by
   have hml:=mixT_len hi
   refine hX _ H4 (br_dec (fun hlt=>?_) (fun hge=>?_))
   ·have hlt:i<64:=by omega
    rw[w1 (by omega)]
    have hset:=mixT_set ⟨i,hlt⟩
    obtain⟨c1,c2⟩:=tbl4_get ⟨i,hlt⟩
    simp only at hset c1 c2
    intro M hM
    have fin: ∀H6,St H H6 [.cell b37 (ints corner).toArray 133,.cell b5 (ints ((mixT i).set i ((tbl 4).getD i 0))).toArray 48,.cell b3 (ints (List.replicate 64 0)).toArray 48]→M [] H6:=fun H6 hs6=>hM H6 (ih hlt H6 (by rw[←hset];exact hs6))
    refine⟨by omega,by omega,?_⟩
    rw[add_none,Nat.zero_add,Int.toNat_natCast,Nat.mul_one]
    refine hs4.putA 1 rfl (by omega) fun H5 hs5=>⟨by decide,?_⟩
    rw[ix3,ix4 (by omega)]
    refine br_dec (fun h1=>⟨by decide,br_dec (fun h2=>?_) (fun h2=>fin H5 ?_)⟩) (fun h1=>fin H5 ?_)
    ·have hc:=c1 ⟨by omega,by omega⟩
     have wi:IntKind.wrap .i64 (IntKind.wrap .i64 (((i/8:Nat):Int)*4)+((i%8:Nat):Int))=((i/8*4+i%8:Nat):Int):=by rw[wrap_id (n:=((i/8:Nat):Int)*4) (by omega) (by omega),wrap_id (by omega) (by omega)];omega
     rw[wi]
     refine⟨by decide,by decide,by omega,by omega,corner.getD (i/8*4+i%8) 0,?_,by omega,by omega,?_⟩
     ·rw[add_none,Nat.zero_add,Int.toNat_natCast,Nat.mul_one]
      exact hs5.rdA 0 rfl (getD_some corner 0 (by show _<16;omega))
     ·refine hs5.putA 1 rfl (by rw[List.length_set];omega) fun H6 hs6=>fin H6 ?_
      simp only[List.set_set,List.set_cons_zero,List.set_cons_succ] at hs6
      rw[hc];exact hs6
    ·rw[c2 (by omega)];exact hs5
    ·rw[c2 (by omega)];exact hs5
   ·have:i=64:=by omega
    subst this
    refine rest H4 ?_
    have e:mixT 64=T true:=by decide+kernel
    rw[e] at hs4
    exact hs4.tail
  exact go 0 (by omega) H5 hs5
 ·subst hd
  exact rest H3 hs3
def cutM(n:Int):Int:=min 255 (max 0 n)
def brightM(r g b:Int)(k:Nat):Int:=match k with
 |0=>cutM ((19595*r+38470*g+7471*b+32768)/65536)
 |1=>cutM ((32768*b-11059*r-21709*g+32768)/65536+128)
 |_=>cutM ((32768*r-27439*g-5329*b+32768)/65536+128)
theorem cutM_rng(n:Int):0≤cutM n∧cutM n≤255:=by unfold cutM;omega
theorem brightM_rng(r g b:Int)(k:Nat):0≤brightM r g b k∧brightM r g b k≤255:=by
 unfold brightM;split<;>exact cutM_rng _
def brightL(r g b:Int):List Int:=[brightM r g b 0,brightM r g b 1,brightM r g b 2]
theorem brightL_get{r g b:Int}{k:Nat}(hk:k<3):(brightL r g b)[k]?=some (brightM r g b k):=by
 obtain rfl|rfl|rfl:k=0∨k=1∨k=2:=by omega
 all_goals rfl
theorem shr16(x:Int):shrI .i64 x (16:Int)=x/65536:=by
 unfold shrI
 rw[show min (16:Int).toNat (IntKind.bits .i64)=16 from rfl]
 exact Int.fdiv_eq_ediv_of_nonneg _ (by decide)
theorem c102{n:Int}(hR:R (.int .i64 (cutM n)) H):CallsH Tryz.prog 102 #[.int .i64 n] H R:=Tryz.s102 hR
theorem c78{r g b:Int}(hr:0≤r∧r<256)(hg:0≤g∧g<256)(hb:0≤b∧b<256)(hR: ∀H',Ext H H'→R (.agg (ints (brightL r g b)).toArray) H'):
 CallsH Tryz.prog 78 #[.agg #[.int .i64 r,.int .i64 g,.int .i64 b]] H R:=by
 refine Tryz.s78 ?_
 unfold Tryz.S78
 refine(St.nil H).alc fun b2 H1 hs1=>hs1.alc fun b4 H2 hs2=>?_
 refine⟨by decide,by decide,r,hs2.get 1 rfl rfl,by decide,by decide,g,hs2.get 1 (j:=1) rfl rfl,by decide,by decide,b,hs2.get 1 (j:=2) rfl rfl,by decide,?_⟩
 rw[wrap_id (n:=19595*r) (by omega) (by omega),wrap_id (n:=38470*g) (by omega) (by omega),wrap_id (n:=19595*r+38470*g) (by omega) (by omega),wrap_id (n:=7471*b) (by omega) (by omega),wrap_id (n:=19595*r+38470*g+7471*b) (by omega) (by omega),wrap_id (n:=19595*r+38470*g+7471*b+32768) (by omega) (by omega),shr16]
 refine c102 ⟨_,rfl,by decide,?_⟩
 rw[wrap_id (n:=32768*b) (by omega) (by omega),wrap_id (n:=11059*r) (by omega) (by omega),wrap_id (n:=32768*b-11059*r) (by omega) (by omega),wrap_id (n:=21709*g) (by omega) (by omega),wrap_id (n:=32768*b-11059*r-21709*g) (by omega) (by omega),wrap_id (n:=32768*b-11059*r-21709*g+32768) (by omega) (by omega),shr16,wrap_id (n:=(32768*b-11059*r-21709*g+32768)/65536+128) (by omega) (by omega)]
 refine c102 ⟨_,rfl,by decide,?_⟩
 rw[wrap_id (n:=32768*r) (by omega) (by omega),wrap_id (n:=27439*g) (by omega) (by omega),wrap_id (n:=32768*r-27439*g) (by omega) (by omega),wrap_id (n:=5329*b) (by omega) (by omega),wrap_id (n:=32768*r-27439*g-5329*b) (by omega) (by omega),wrap_id (n:=32768*r-27439*g-5329*b+32768) (by omega) (by omega),shr16,wrap_id (n:=(32768*r-27439*g-5329*b+32768)/65536+128) (by omega) (by omega)]
 refine c102 ⟨_,rfl,rfl,?_⟩
 refine hs2.putAllA 0 (l:=brightL r g b) rfl rfl fun H3 hs3=>?_
 exact⟨_,rfl,rowIn_whole (hs3.block 0 rfl),hR H3 hs3.ext⟩
theorem c97{n:Int}(hR:R (.int .i64 (cutM n)) H):CallsH Tryz.prog 97 #[.int .i64 n] H R:=by
 refine Tryz.s97 (br_dec (fun h=>?_) (fun h=>br_dec (fun h2=>?_) (fun h2=>?_)))
 ·rw[show cutM n=0 from by unfold cutM;omega] at hR;exact hR
 ·rw[show cutM n=255 from by unfold cutM;omega] at hR;exact hR
 ·rw[show cutM n=n from by unfold cutM;omega] at hR;exact hR
theorem c98{n:Int}(h: -1000000000000≤n∧n≤1000000000000)(hR:R (.int .i64 ((n+32768)/65536)) H):CallsH Tryz.prog 98 #[.int .i64 n] H R:=by
 refine Tryz.s98 ?_
 unfold Tryz.S98
 rw[wrap_id (by omega) (by omega)]
 exact down16 (by omega) ⟨_,rfl,hR⟩
theorem c91{r g b:Int}(hr:0≤r∧r<256)(hg:0≤g∧g<256)(hb:0≤b∧b<256)(hR: ∀H',Ext H H'→R (.agg (ints (brightL r g b)).toArray) H'):
 CallsH Tryz.prog 91 #[.int .i64 r,.int .i64 g,.int .i64 b] H R:=by
 refine Tryz.s91 ?_
 unfold Tryz.S91
 refine(St.nil H).alc fun b4 H2 hs2=>?_
 rw[wrap_id (n:=19595*r) (by omega) (by omega),wrap_id (n:=38470*g) (by omega) (by omega),wrap_id (n:=19595*r+38470*g) (by omega) (by omega),wrap_id (n:=7471*b) (by omega) (by omega),wrap_id (n:=19595*r+38470*g+7471*b) (by omega) (by omega)]
 refine c98 (by omega) ⟨_,rfl,c97 ⟨_,rfl,?_⟩⟩
 rw[wrap_id (n:=32768*b) (by omega) (by omega),wrap_id (n:=11059*r) (by omega) (by omega),wrap_id (n:=32768*b-11059*r) (by omega) (by omega),wrap_id (n:=21709*g) (by omega) (by omega),wrap_id (n:=32768*b-11059*r-21709*g) (by omega) (by omega)]
 refine c98 (by omega) ⟨_,rfl,?_⟩
 rw[wrap_id (n:=(32768*b-11059*r-21709*g+32768)/65536+128) (by omega) (by omega)]
 refine c97 ⟨_,rfl,?_⟩
 rw[wrap_id (n:=32768*r) (by omega) (by omega),wrap_id (n:=27439*g) (by omega) (by omega),wrap_id (n:=32768*r-27439*g) (by omega) (by omega),wrap_id (n:=5329*b) (by omega) (by omega),wrap_id (n:=32768*r-27439*g-5329*b) (by omega) (by omega)]
 refine c98 (by omega) ⟨_,rfl,?_⟩
 rw[wrap_id (n:=(32768*r-27439*g-5329*b+32768)/65536+128) (by omega) (by omega)]
 refine c97 ⟨_,rfl,rfl,?_⟩
 refine hs2.putAllA 0 (l:=brightL r g b) rfl rfl fun H3 hs3=>?_
 exact⟨_,rfl,rowIn_whole (hs3.block 0 rfl),hR H3 hs3.ext⟩
end Go.Proofs
namespace Go.Proofs
open Go.Sh
variable {H0 H:Heap} {σ:List Rs} {R:Value→Heap→Prop}
def atM(W Ht:Nat)(L:List Int)(x y:Nat):Int:=L.getD (min y (Ht-1)*W+min x (W-1)) 0
def planeL(n:Nat)(rgb:List Int)(k:Nat):List Int:=(List.range n).map fun i=>brightM (rgb.getD (3*i) 0) (rgb.getD (3*i+1) 0) (rgb.getD (3*i+2) 0) k
def halfV2(W Ht:Nat)(L:List Int)(x y:Nat):Int:=(atM W Ht L (2*x) (2*y)+atM W Ht L (2*x+1) (2*y)+atM W Ht L (2*x) (2*y+1)+atM W Ht L (2*x+1) (2*y+1)+2)/4
def halfL(W Ht:Nat)(L:List Int):List Int:=(List.range ((W+1)/2*((Ht+1)/2))).map fun i=>halfV2 W Ht L (i%((W+1)/2)) (i/((W+1)/2))
def Byt(L:List Int):Prop:= ∀i,0≤L.getD i 0∧L.getD i 0≤255
theorem ix_lt{W Ht X Y:Nat}(hW:1≤W)(hH:1≤Ht)(hX:X≤W-1)(hY:Y≤Ht-1):Y*W+X<W*Ht:=by
 have h1:=Nat.mul_le_mul_right W hY
 have h2:(Ht-1)*W+W=W*Ht:=by rw[Nat.mul_comm W Ht,←Nat.succ_mul];congr 1;omega
 omega
theorem le_of_area{W Ht n:Nat}(hW:1≤W)(hH:1≤Ht)(h:W*Ht≤n):W≤n∧Ht≤n:=by
 have h1:=Nat.mul_le_mul_left W hH
 have h2:=Nat.mul_le_mul_right Ht hW
 omega
theorem atM_rng{W Ht:Nat}{L:List Int}(h:Byt L)(x y:Nat):0≤atM W Ht L x y∧atM W Ht L x y≤255:=h _
theorem planeL_len(n:Nat)(rgb:List Int)(k:Nat):(planeL n rgb k).length=n:=tab_len _ _
theorem planeL_byt(n:Nat)(rgb:List Int)(k:Nat):Byt (planeL n rgb k):=fun i=>by
 by_cases h:i<n
 ·rw[show(planeL n rgb k).getD i 0=_ from tab_getD h];exact brightM_rng _ _ _ _
 ·rw[List.getD_eq_getElem?_getD,List.getElem?_eq_none (by rw[planeL_len];omega)];decide
theorem halfV2_rng{W Ht:Nat}{L:List Int}(h:Byt L)(x y:Nat):0≤halfV2 W Ht L x y∧halfV2 W Ht L x y≤255:=by
 unfold halfV2
 have h1:=atM_rng (W:=W) (Ht:=Ht) h (2*x) (2*y)
 have h2:=atM_rng (W:=W) (Ht:=Ht) h (2*x+1) (2*y)
 have h3:=atM_rng (W:=W) (Ht:=Ht) h (2*x) (2*y+1)
 have h4:=atM_rng (W:=W) (Ht:=Ht) h (2*x+1) (2*y+1)
 omega
theorem halfL_len(W Ht:Nat)(L:List Int):(halfL W Ht L).length=(W+1)/2*((Ht+1)/2):=tab_len _ _
theorem at_half{W Ht:Nat}(hW:1≤W)(hH:1≤Ht)(L:List Int)(x y:Nat):atM ((W+1)/2) ((Ht+1)/2) (halfL W Ht L) x y=halfV2 W Ht L (min x ((W-1)/2)) (min y ((Ht-1)/2)):=by
 have e1:(W+1)/2-1=(W-1)/2:=by omega
 have e2:(Ht+1)/2-1=(Ht-1)/2:=by omega
 unfold atM
 rw[e1,e2]
 generalize hX:min x ((W-1)/2)=X
 generalize hY:min y ((Ht-1)/2)=Y
 have hlt:=ix_lt (W:=(W+1)/2) (Ht:=(Ht+1)/2) (X:=X) (Y:=Y) (by omega) (by omega) (by omega) (by omega)
 rw[show(halfL W Ht L).getD (Y*((W+1)/2)+X) 0=_ from tab_getD hlt]
 have m1:(Y*((W+1)/2)+X)%((W+1)/2)=X:=by rw[Nat.mul_comm,Nat.mul_add_mod];exact Nat.mod_eq_of_lt (by omega)
 have m2:(Y*((W+1)/2)+X)/((W+1)/2)=Y:=by rw[Nat.mul_comm,Nat.mul_add_div (by omega),Nat.div_eq_of_lt (by omega)];rfl
 rw[m1,m2]
theorem c43{W Ht l c:Nat}{p:Option Addr}{L:List Int}(h:IS H p l (ints L))(hL:L.length=W*Ht)(hW:1≤W)(hH:1≤Ht)(hn:W*Ht≤1000){x y:Nat}(hx:x≤100000)(hy:y≤100000)
 (hR: ∀H',Ext H H'→R (.int .i64 (atM W Ht L x y)) H'):CallsH Tryz.prog 43 #[.agg #[.int .i64 (W:Nat),.int .i64 (Ht:Nat),.slice p l c],.int .i64 (x:Nat),.int .i64 (y:Nat)] H R:=by
 obtain⟨b1,b2⟩:=le_of_area hW hH hn
 have hll:L.length=l:=by have:=h.len;rwa [ints_len] at this
 refine Tryz.s43 ?_
 unfold Tryz.S43
 refine(St.nil H).alc fun b4 H1 hs1=>⟨_,_,_,hs1.get 0 (j:=2) rfl rfl,_,hs1.get 0 (j:=1) rfl rfl,_,hs1.get 0 (j:=0) rfl rfl,_,hs1.get 0 (j:=0) rfl rfl,?_⟩
 have e1:min (y:Int) (IntKind.wrap .i64 ((Ht:Int)-1))=((min y (Ht-1):Nat):Int):=by rw[wrap_id (by omega) (by omega)];omega
 have e2:min (x:Int) (IntKind.wrap .i64 ((W:Int)-1))=((min x (W-1):Nat):Int):=by rw[wrap_id (by omega) (by omega)];omega
 have hlt:=ix_lt (X:=min x (W-1)) (Y:=min y (Ht-1)) hW hH (by omega) (by omega)
 rw[e1,e2,←Int.natCast_mul,wN (by omega),←Int.natCast_add,wN (by omega)]
 exact(h.ext hs1.ext).rd (k:= .i64) (by omega) (by omega) (by rw[Int.toNat_natCast];exact getD_some L 0 (by omega)) (hR H1 hs1.ext)
theorem c79{W Ht l c:Nat}{p:Option Addr}{L:List Int}(h:IS H p l (ints L))(hL:L.length=W*Ht)(hB:Byt L)(hW:1≤W)(hH:1≤Ht)(hn:W*Ht≤1000)
 (hR: ∀H' q n m,St H H' [.sl q n m 3 1 (ints (halfL W Ht L))]→R (.agg #[.int .i64 ((W+1)/2:Nat),.int .i64 ((Ht+1)/2:Nat),.slice q n m]) H'):
 CallsH Tryz.prog 79 #[.agg #[.int .i64 (W:Nat),.int .i64 (Ht:Nat),.slice p l c]] H R:=by
 obtain⟨b1,b2⟩:=le_of_area hW hH hn
 refine Tryz.s79 ?_
 unfold Tryz.S79
 refine(St.nil H).alc fun pb H1 hs1=>hs1.alc fun rb H2 hs2=>⟨_,hs2.get 1 (j:=0) rfl rfl,by decide,_,hs2.get 1 (j:=1) rfl rfl,by decide,hs2.alc fun ob H3 hs3=>⟨rfl,?_⟩⟩
 have ew:IntKind.wrap .i64 (Int.tdiv (IntKind.wrap .i64 ((W:Int)+1)) 2)=(((W+1)/2:Nat):Int):=by
  rw[wrap_id (n:=(W:Int)+1) (by omega) (by omega),show(W:Int)+1=((W+1:Nat):Int) from rfl,show(2:Int)=((2:Nat):Int) from rfl,tdivN,wN (by omega)]
 have eh:IntKind.wrap .i64 (Int.tdiv (IntKind.wrap .i64 ((Ht:Int)+1)) 2)=(((Ht+1)/2:Nat):Int):=by
  rw[wrap_id (n:=(Ht:Int)+1) (by omega) (by omega),show(Ht:Int)+1=((Ht+1:Nat):Int) from rfl,show(2:Int)=((2:Nat):Int) from rfl,tdivN,wN (by omega)]
 rw[ew,eh]
 refine hs3.putAll 0 rfl rfl (by simp[Value.oneCell']) fun H4 hs4=>⟨_,hs4.get 0 (j:=0) rfl rfl,_,hs4.get 0 (j:=1) rfl rfl,?_⟩
 have hll:=halfL_len W Ht L
 have hw1:1≤(W+1)/2:=by omega
 have hh1:1≤(Ht+1)/2:=by omega
 have hw2:(W+1)/2≤1000:=by omega
 have hh2:(Ht+1)/2≤1000:=by omega
 have hN:(W+1)/2*((Ht+1)/2)≤1000*1000:=Nat.mul_le_mul (by omega) (by omega)
 have hdiv: ∀i,i<(W+1)/2*((Ht+1)/2)→i/((W+1)/2)<(Ht+1)/2:=fun i hi=>Nat.div_lt_of_lt_mul hi
 have hmod: ∀i,i%((W+1)/2)<(W+1)/2:=fun i=>Nat.mod_lt _ (by omega)
 have hget: ∀i,i<(W+1)/2*((Ht+1)/2)→(halfL W Ht L).getD i 0=halfV2 W Ht L (i%((W+1)/2)) (i/((W+1)/2)):=fun i hi=>tab_getD hi
 generalize (W+1)/2=w at*
 generalize (Ht+1)/2=g at*
 intro X hX
 have go: ∀i,i≤w*g→ ∀H5 q m,St H H5 [.sl q i m 3 1 (ints ((halfL W Ht L).take i)),.cell ob #[.int .i64 (w:Nat),.int .i64 (g:Nat),.slice q i m] 118,.cell rb #[.int .i64 0,.int .i64 0,.slice none 0 0] 118,.cell pb #[.int .i64 (W:Nat),.int .i64 (Ht:Nat),.slice p l c] 118]→X [.int .i64 (i:Nat)] H5:=upto fun i hi ih H5 q m hs5=>by
  refine hX _ H5 ?_
  rw[←Int.natCast_mul,wN (by omega)]
  refine br_dec (fun hlt=>?_) (fun hge=>?_)
  ·have hlt:i<w*g:=by omega
   have hd:=hdiv i hlt
   have hm:=hmod i
   refine⟨_,hs5.get 1 (j:=0) rfl rfl,by omega,_,hs5.get 1 (j:=0) rfl rfl,by omega,_,_,_,hs5.get 1 (j:=2) rfl rfl,_,rfl,rowIn_whole (hs5.block 3 rfl),_,rfl,rowIn_whole (hs5.block 3 rfl),_,rfl,rowIn_whole (hs5.block 3 rfl),_,rfl,rowIn_whole (hs5.block 3 rfl),?_⟩
   have hg:=hget i hlt
   rw[tmodN,tdivN,wN (k:=i/w) (by omega)]
   generalize i%w=x at*
   generalize i/w=y at*
   have ex:IntKind.wrap .i64 ((2:Int)*(x:Nat))=((2*x:Nat):Int):=by rw[wrap_id (by omega) (by omega)];omega
   have ey:IntKind.wrap .i64 ((2:Int)*(y:Nat))=((2*y:Nat):Int):=by rw[wrap_id (by omega) (by omega)];omega
   rw[ex,ey,w1 (i:=2*x) (by omega),w1 (i:=2*y) (by omega),w1 (i:=i) (by omega)]
   refine c43 (h.ext hs5.ext) hL hW hH hn (by omega) (by omega) fun H6 e6=>⟨_,rfl,.inl e6,?_⟩
   refine c43 (h.ext (hs5.step e6).ext) hL hW hH hn (by omega) (by omega) fun H7 e7=>⟨_,rfl,.inl e7,?_⟩
   refine c43 (h.ext ((hs5.step e6).step e7).ext) hL hW hH hn (by omega) (by omega) fun H8 e8=>⟨_,rfl,.inl e8,?_⟩
   refine c43 (h.ext (((hs5.step e6).step e7).step e8).ext) hL hW hH hn (by omega) (by omega) fun H9 e9=>⟨_,rfl,.inl e9,by decide,?_⟩
   have hs9:=(((hs5.step e6).step e7).step e8).step e9
   have r1:=atM_rng (W:=W) (Ht:=Ht) hB (2*x) (2*y)
   have r2:=atM_rng (W:=W) (Ht:=Ht) hB (2*x+1) (2*y)
   have r3:=atM_rng (W:=W) (Ht:=Ht) hB (2*x) (2*y+1)
   have r4:=atM_rng (W:=W) (Ht:=Ht) hB (2*x+1) (2*y+1)
   have ev:IntKind.wrap .i64 (Int.tdiv (IntKind.wrap .i64 (IntKind.wrap .i64 (IntKind.wrap .i64 (IntKind.wrap .i64 (atM W Ht L (2*x) (2*y)+atM W Ht L (2*x+1) (2*y))+atM W Ht L (2*x) (2*y+1))+atM W Ht L (2*x+1) (2*y+1))+2)) 4)=halfV2 W Ht L x y:=by
    unfold halfV2
    generalize atM W Ht L (2*x) (2*y)=a at*
    generalize atM W Ht L (2*x+1) (2*y)=b at*
    generalize atM W Ht L (2*x) (2*y+1)=cc at*
    generalize atM W Ht L (2*x+1) (2*y+1)=d at*
    rw[wrap_id (n:=a+b) (by omega) (by omega),wrap_id (n:=a+b+cc) (by omega) (by omega),wrap_id (n:=a+b+cc+d) (by omega) (by omega),wrap_id (n:=a+b+cc+d+2) (by omega) (by omega),Int.tdiv_eq_ediv_of_nonneg (by omega),wrap_id (by omega) (by omega)]
   rw[ev]
   refine hs9.alcE fun b35 H10 e10 hs10=>⟨.inl e10,?_⟩
   refine hs10.appC 1 0 (el:=3) (k:=1) rfl rfl rfl (oneV rfl) (by decide) rfl (by omega) (by omega) fun q' m' H11 hs11=>?_
   refine hs11.put 2 (j:=2) rfl (by simp) rfl fun H12 hs12=>ih hlt H12 q' m' ?_
   have e:(halfL W Ht L).take (i+1)=(halfL W Ht L).take i++[halfV2 W Ht L x y]:=by rw[List.take_add_one,getD_some _ 0 (by omega),hg];rfl
   rw[e,ints_append]
   exact hs12.tail
  ·have:i=w*g:=by omega
   subst this
   rw[List.take_of_length_le (by omega)] at hs5
   refine⟨_,rfl,rowIn_whole (hs5.block 1 rfl),rfl,?_⟩
   refine hs5.putAll 2 rfl rfl (by simp[Value.oneCell']) fun H6 hs6=>?_
   exact⟨_,rfl,rowIn_whole (hs6.block 2 rfl),hR H6 q (w*g) m (hs6.take 1)⟩
 exact go 0 (by omega) H4 none 0 (hs4.nilSl 3 1)
def hw(half:Bool)(n:Nat):Nat:=if half then(n+1)/2 else n
def partL(W Ht:Nat)(rgb:List Int)(half:Bool)(k:Nat):List Int:=if half then halfL W Ht (planeL (W*Ht) rgb k) else planeL (W*Ht) rgb k
set_option maxHeartbeats 2000000 in
theorem c42{W Ht l c:Nat}{p:Option Addr}{rgb:List Int}{half:Bool}(h:IS H p l (kints .u8 rgb))(hr: ∀x∈rgb,0≤x∧x<256)(hl:l=3*(W*Ht))(hW:1≤W)(hH:1≤Ht)(hn:W*Ht≤1000)
 (hR: ∀H' p0 c0 p1 n1 c1 p2 n2 c2,Ext H H'→IS H' p0 (W*Ht) (ints (planeL (W*Ht) rgb 0))→IS H' p1 n1 (ints (partL W Ht rgb half 1))→IS H' p2 n2 (ints (partL W Ht rgb half 2))→
  R (.agg #[.int .i64 (W:Nat),.int .i64 (Ht:Nat),.slice p0 (W*Ht) c0,.int .i64 (hw half W:Nat),.int .i64 (hw half Ht:Nat),.slice p1 n1 c1,.int .i64 (hw half W:Nat),.int .i64 (hw half Ht:Nat),.slice p2 n2 c2]) H'):
 CallsH Tryz.prog 42 #[.int .i64 (W:Nat),.int .i64 (Ht:Nat),.slice p l c,.bool half] H R:=by
 obtain⟨b1,b2⟩:=le_of_area hW hH hn
 have hrl:=h.length
 refine Tryz.s42 ?_
 unfold Tryz.S42
 refine(St.nil H).alc fun b5 H1 hs1=>hs1.alc fun b7 H2 hs2=>?_
 intro X hX
 rw[←Int.natCast_mul,wN (k:=W*Ht) (by omega),Int.toNat_natCast] at hX
 have hlen:=fun k=>planeL_len (W*Ht) rgb k
 have hget: ∀k i,i<W*Ht→(planeL (W*Ht) rgb k).getD i 0=brightM (rgb.getD (3*i) 0) (rgb.getD (3*i+1) 0) (rgb.getD (3*i+2) 0) k:=fun k i hi=>tab_getD hi
 have hpb:=fun k=>planeL_byt (W*Ht) rgb k
 generalize hN:W*Ht=n at*
 refine hX _ H2 (br_y (by decide) ⟨by omega,by omega,by omega,by omega,hs2.alc fun q0 H3 hs3=>⟨by decide,by decide,rfl,hs3.putRow 1 rfl (Nat.le_of_ble_eq_true rfl) (by simp[Value.oneCell']) fun H4 hs4=>?_⟩⟩)
 rw[show IntKind.wrap .i64 ((0:Int)+1)=1 from by decide]
 refine hX _ H4 (br_y (by decide) ⟨by omega,by omega,by omega,by omega,hs4.alc fun q1 H5 hs5=>⟨by decide,by decide,rfl,hs5.putRow 2 rfl (Nat.le_of_ble_eq_true rfl) (by simp[Value.oneCell']) fun H6 hs6=>?_⟩⟩)
 rw[show IntKind.wrap .i64 ((1:Int)+1)=2 from by decide]
 refine hX _ H6 (br_y (by decide) ⟨by omega,by omega,by omega,by omega,hs6.alc fun q2 H7 hs7=>⟨by decide,by decide,rfl,hs7.putRow 3 rfl (Nat.le_of_ble_eq_true rfl) (by simp[Value.oneCell']) fun H8 hs8=>?_⟩⟩)
 rw[show IntKind.wrap .i64 ((2:Int)+1)=3 from by decide]
 refine hX _ H8 (br_n (by decide) ?_)
 have hs8:St H H8 [.cell q2 (ints (List.replicate n 0)).toArray 3,.cell q1 (ints (List.replicate n 0)).toArray 3,.cell q0 (ints (List.replicate n 0)).toArray 3,.cell b7 #[.int .i64 (W:Nat),.int .i64 (Ht:Nat),.slice (some ⟨q0,0,none⟩) n n,.int .i64 (W:Nat),.int .i64 (Ht:Nat),.slice (some ⟨q1,0,none⟩) n n,.int .i64 (W:Nat),.int .i64 (Ht:Nat),.slice (some ⟨q2,0,none⟩) n n] 119,.cell b5 #[.int .i64 0,.int .i64 0,.slice none 0 0,.int .i64 0,.int .i64 0,.slice none 0 0,.int .i64 0,.int .i64 0,.slice none 0 0] 119]:=by
  rw[←repsA];exact hs8
 clear hs1 hs2 hs3 hs4 hs5 hs6 hs7
 intro Y hY
 have go: ∀i,i≤n→ ∀H9,St H H9 [.cell q2 (ints (fillA (planeL n rgb 2) i)).toArray 3,.cell q1 (ints (fillA (planeL n rgb 1) i)).toArray 3,.cell q0 (ints (fillA (planeL n rgb 0) i)).toArray 3,.cell b7 #[.int .i64 (W:Nat),.int .i64 (Ht:Nat),.slice (some ⟨q0,0,none⟩) n n,.int .i64 (W:Nat),.int .i64 (Ht:Nat),.slice (some ⟨q1,0,none⟩) n n,.int .i64 (W:Nat),.int .i64 (Ht:Nat),.slice (some ⟨q2,0,none⟩) n n] 119,.cell b5 #[.int .i64 0,.int .i64 0,.slice none 0 0,.int .i64 0,.int .i64 0,.slice none 0 0,.int .i64 0,.int .i64 0,.slice none 0 0] 119]→Y [.int .i64 (i:Nat)] H9:=upto fun i hi ih H9 hs9=>by
  refine hY _ H9 (br_dec (fun hlt=>?_) (fun hge=>?_))
  ·have hlt:i<n:=by omega
   have f0:=fillA_len (L:=planeL n rgb 0) (s:=i) (by rw[hlen];omega)
   have f1:=fillA_len (L:=planeL n rgb 1) (s:=i) (by rw[hlen];omega)
   have f2:=fillA_len (L:=planeL n rgb 2) (s:=i) (by rw[hlen];omega)
   rw[hlen] at f0 f1 f2
   have g0:=getD_some rgb 0 (i:=3*i) (by omega)
   have g1:=getD_some rgb 0 (i:=3*i+1) (by omega)
   have g2:=getD_some rgb 0 (i:=3*i+2) (by omega)
   have r0:=hr _ (List.mem_of_getElem? g0)
   have r1:=hr _ (List.mem_of_getElem? g1)
   have r2:=hr _ (List.mem_of_getElem? g2)
   have e0:IntKind.wrap .i64 ((3:Int)*(i:Nat))=((3*i:Nat):Int):=by rw[wrap_id (by omega) (by omega)];omega
   have e1:IntKind.wrap .i64 (((3*i:Nat):Int)+1)=((3*i+1:Nat):Int):=w1 (by omega)
   have e2:IntKind.wrap .i64 (((3*i:Nat):Int)+2)=((3*i+2:Nat):Int):=by rw[wrap_id (by omega) (by omega)];omega
   have k0:=hget 0 i hlt
   have k1:=hget 1 i hlt
   have k2:=hget 2 i hlt
   rw[e0,e1,e2,w1 (i:=i) (by omega)]
   generalize rgb.getD (3*i) 0=vr at*
   generalize rgb.getD (3*i+1) 0=vg at*
   generalize rgb.getD (3*i+2) 0=vb at*
   have his:=h.ext hs9.ext
   intro J hJ
   have nx: ∀cb H10,St H H10 (.cell cb (ints (brightL vr vg vb)).toArray 73::[.cell q2 (ints (fillA (planeL n rgb 2) i)).toArray 3,.cell q1 (ints (fillA (planeL n rgb 1) i)).toArray 3,.cell q0 (ints (fillA (planeL n rgb 0) i)).toArray 3,.cell b7 #[.int .i64 (W:Nat),.int .i64 (Ht:Nat),.slice (some ⟨q0,0,none⟩) n n,.int .i64 (W:Nat),.int .i64 (Ht:Nat),.slice (some ⟨q1,0,none⟩) n n,.int .i64 (W:Nat),.int .i64 (Ht:Nat),.slice (some ⟨q2,0,none⟩) n n] 119,.cell b5 #[.int .i64 0,.int .i64 0,.slice none 0 0,.int .i64 0,.int .i64 0,.slice none 0 0,.int .i64 0,.int .i64 0,.slice none 0 0] 119])→J [.pointer (some ⟨cb,0,none⟩)] H10:=fun cb H10 hs10=>by
    refine hJ _ H10 ?_
    intro Z hZ
    refine hZ _ H10 (br_y (by decide) ⟨by decide,by decide,_,_,_,hs10.get 4 (j:=2) rfl rfl,by decide,by decide,brightM vr vg vb 0,hs10.rdA 0 (j:=0) rfl rfl,_,rfl,by omega,by omega,?_⟩)
    rw[add_none,Nat.zero_add,Int.toNat_natCast,Nat.mul_one,show IntKind.wrap .i64 ((0:Int)+1)=1 from by decide]
    refine hs10.putA 3 rfl (by omega) fun H11 hs11=>?_
    refine hZ _ H11 (br_y (by decide) ⟨by decide,by decide,_,_,_,hs11.get 4 (j:=5) rfl rfl,by decide,by decide,brightM vr vg vb 1,hs11.rdA 0 (j:=1) rfl rfl,_,rfl,by omega,by omega,?_⟩)
    rw[add_none,Nat.zero_add,Int.toNat_natCast,Nat.mul_one,show IntKind.wrap .i64 ((1:Int)+1)=2 from by decide]
    refine hs11.putA 2 rfl (by omega) fun H12 hs12=>?_
    refine hZ _ H12 (br_y (by decide) ⟨by decide,by decide,_,_,_,hs12.get 4 (j:=8) rfl rfl,by decide,by decide,brightM vr vg vb 2,hs12.rdA 0 (j:=2) rfl rfl,_,rfl,by omega,by omega,?_⟩)
    rw[add_none,Nat.zero_add,Int.toNat_natCast,Nat.mul_one,show IntKind.wrap .i64 ((2:Int)+1)=3 from by decide]
    refine hs12.putA 1 rfl (by omega) fun H13 hs13=>?_
    refine hZ _ H13 (br_n (by decide) (ih hlt H13 ?_))
    rw[←fillA_set (L:=planeL n rgb 0) (s:=i) (by rw[hlen];omega),←fillA_set (L:=planeL n rgb 1) (s:=i) (by rw[hlen];omega),←fillA_set (L:=planeL n rgb 2) (s:=i) (by rw[hlen];omega),k0,k1,k2]
    exact hs13.tail
   obtain⟨a0,p0,q0a,q0b,x0,c0,rfl⟩:=his.rd (i:=((3*i:Nat):Int)) (by omega) (by omega) (by rw[Int.toNat_natCast];exact g0) (K:=fun y=>y=vr) rfl
   obtain⟨a1,p1,q1a,q1b,x1,c1,rfl⟩:=his.rd (i:=((3*i+1:Nat):Int)) (by omega) (by omega) (by rw[Int.toNat_natCast];exact g1) (K:=fun y=>y=vg) rfl
   obtain⟨a2,p2,q2a,q2b,x2,c2,rfl⟩:=his.rd (i:=((3*i+2:Nat):Int)) (by omega) (by omega) (by rw[Int.toNat_natCast];exact g2) (K:=fun y=>y=vb) rfl
   refine⟨a0,p0,q0a,q0b,x0,c0,a1,p1,q1a,q1b,x1,c1,a2,p2,q2a,q2b,x2,c2,?_⟩
   rw[wrap_id (n:=x0) (by omega) (by omega),wrap_id (n:=x1) (by omega) (by omega),wrap_id (n:=x2) (by omega) (by omega)]
   refine⟨c78 r0 r1 r2 fun H10 e10=>⟨_,rfl,?_⟩,hs9.alcE fun cb H10 e10 hs10=>⟨.inl e10,c78 r0 r1 r2 fun H11 e11=>⟨_,rfl,rfl,?_⟩⟩⟩
   ·refine(hs9.step e10).alc fun cb H11 hs11=>⟨rfl,hs11.putAllA 0 (l:=brightL x0 x1 x2) rfl rfl fun H12 hs12=>nx cb H12 hs12⟩
   ·exact(hs10.step e11).putAllA 0 (l:=brightL x0 x1 x2) rfl rfl fun H12 hs12=>nx cb H12 hs12
  ·have:i=n:=by omega
   subst this
   have a0:=fillA_all (planeL i rgb 0)
   have a1:=fillA_all (planeL i rgb 1)
   have a2:=fillA_all (planeL i rgb 2)
   rw[hlen] at a0 a1 a2
   rw[a0,a1,a2] at hs9
   cases half with
   |true=>
    refine br_t rfl ⟨by decide,by decide,#[.int .i64 (W:Nat),.int .i64 (Ht:Nat),.slice (some ⟨q1,0,none⟩) i i],rfl,?_,by decide,by decide,#[.int .i64 (W:Nat),.int .i64 (Ht:Nat),.slice (some ⟨q2,0,none⟩) i i],rfl,?_,?_⟩
    ·exact rowIn_block (hs9.block 3 rfl) fun j v hv=>by
      have hj:=(Array.getElem?_eq_some_iff.1 hv).1
      obtain rfl|rfl|rfl:j=0∨j=1∨j=2:=by simp at hj;omega
      all_goals exact hv
    ·exact rowIn_block (hs9.block 3 rfl) fun j v hv=>by
      have hj:=(Array.getElem?_eq_some_iff.1 hv).1
      obtain rfl|rfl|rfl:j=0∨j=1∨j=2:=by simp at hj;omega
      all_goals exact hv
    refine c79 (hs9.isA 1 rfl (hlen 1)) (by rw[hlen,hN]) (hpb 1) hW hH (by omega) fun H10 r1 m1 k1 hs10=>⟨_,rfl,.inl hs10.ext,by decide,by decide,?_⟩
    have hs10:=hs9.call hs10
    refine c79 (hs10.isA 1 rfl (hlen 2)) (by rw[hlen,hN]) (hpb 2) hW hH (by omega) fun H11 r2 m2 k2 hs11=>⟨_,rfl,rfl,?_⟩
    have hs11:=hs10.call hs11
    refine hs11.putRow 5 (j:=3) rfl (Nat.le_of_ble_eq_true rfl) (by simp[Value.oneCell']) fun H12 hs12=>⟨by decide,by decide,rfl,?_⟩
    refine hs12.putRow 5 (j:=6) rfl (Nat.le_of_ble_eq_true rfl) (by simp[Value.oneCell']) fun H13 hs13=>⟨_,rfl,rowIn_whole (hs13.block 5 rfl),rfl,?_⟩
    refine hs13.putAll 6 rfl rfl (by simp[setL,Value.oneCell']) fun H14 hs14=>⟨_,rfl,rowIn_whole (hs14.block 6 rfl),?_⟩
    have z1:=hs14.is 1 rfl
    have z2:=hs14.is 0 rfl
    exact hR H14 _ i r1 m1 k1 r2 m2 k2 hs14.ext (hs14.isA 4 rfl (hlen 0)) (by unfold partL;rw[if_pos rfl,hN];exact z1) (by unfold partL;rw[if_pos rfl,hN];exact z2)
   |false=>
    refine br_f rfl ⟨_,rfl,rowIn_whole (hs9.block 3 rfl),rfl,?_⟩
    refine hs9.putAll 4 rfl rfl (by simp[Value.oneCell']) fun H10 hs10=>⟨_,rfl,rowIn_whole (hs10.block 4 rfl),?_⟩
    exact hR H10 _ i _ i i _ i i hs10.ext (hs10.isA 2 rfl (hlen 0)) (by unfold partL;rw[if_neg (by decide),hN];exact hs10.isA 1 rfl (hlen 1)) (by unfold partL;rw[if_neg (by decide),hN];exact hs10.isA 0 rfl (hlen 2))
 exact go 0 (by omega) H8 (by rw[fillA_zero,fillA_zero,fillA_zero,hlen,hlen,hlen];exact hs8)
end Go.Proofs
namespace Go.Proofs
open Go.Sh
variable {H0 H:Heap} {σ:List Rs} {R:Value→Heap→Prop}
theorem atM_plane{W Ht:Nat}(hW:1≤W)(hH:1≤Ht)(rgb:List Int)(k x y:Nat):
 atM W Ht (planeL (W*Ht) rgb k) x y=brightM (rgb.getD (3*(min y (Ht-1)*W+min x (W-1))) 0) (rgb.getD (3*(min y (Ht-1)*W+min x (W-1))+1) 0) (rgb.getD (3*(min y (Ht-1)*W+min x (W-1))+2) 0) k:=
 tab_getD (ix_lt hW hH (by omega) (by omega))
theorem c55{W Ht l c:Nat}{p:Option Addr}{rgb:List Int}(h:IS H p l (kints .u8 rgb))(hr: ∀x∈rgb,0≤x∧x<256)(hl:l=3*(W*Ht))(hW:1≤W)(hH:1≤Ht)(hn:W*Ht≤1000){k x y:Nat}(hk:k<3)(hx:x≤100000)(hy:y≤100000)
 (hR: ∀H',Ext H H'→R (.int .i64 (atM W Ht (planeL (W*Ht) rgb k) x y)) H'):CallsH Tryz.prog 55 #[.agg #[.int .i64 (W:Nat),.int .i64 (Ht:Nat),.slice p l c],.int .i64 (k:Nat),.int .i64 (x:Nat),.int .i64 (y:Nat)] H R:=by
 obtain⟨b1,b2⟩:=le_of_area hW hH hn
 have hrl:=h.length
 refine Tryz.s55 ?_
 unfold Tryz.S55
 refine(St.nil H).alc fun pb H1 hs1=>?_
 rw[atM_plane hW hH] at hR
 have hlt:=ix_lt (X:=min x (W-1)) (Y:=min y (Ht-1)) hW hH (by omega) (by omega)
 have ex: ∀X:Nat,X=min x (W-1)→ ∀Y:Nat,Y=min y (Ht-1)→IntKind.wrap .i64 ((3:Int)*IntKind.wrap .i64 (IntKind.wrap .i64 ((Y:Int)*(W:Nat))+(X:Nat)))=((3*(Y*W+X):Nat):Int):=fun X hX Y hY=>by
  subst hX hY
  rw[←Int.natCast_mul,wN (by omega),←Int.natCast_add,wN (by omega),wrap_id (by omega) (by omega)];omega
 intro J hJ
 have goX: ∀X:Nat,X=min x (W-1)→J [.int .i64 (X:Nat)] H1:=fun X hX=>by
  refine hJ _ H1 ?_
  intro K hK
  have goY: ∀Y:Nat,Y=min y (Ht-1)→K [.int .i64 (Y:Nat)] H1:=fun Y hY=>by
   refine hK _ H1 ⟨_,hs1.get 0 (j:=0) rfl rfl,?_⟩
   rw[ex X hX Y hY]
   subst hX hY
   generalize min y (Ht-1)*W+min x (W-1)=i at*
   have e1:IntKind.wrap .i64 (((3*i:Nat):Int)+1)=((3*i+1:Nat):Int):=w1 (by omega)
   have e2:IntKind.wrap .i64 (((3*i:Nat):Int)+2)=((3*i+2:Nat):Int):=by rw[wrap_id (by omega) (by omega)];omega
   rw[e1,e2]
   have g0:=getD_some rgb 0 (i:=3*i) (by omega)
   have g1:=getD_some rgb 0 (i:=3*i+1) (by omega)
   have g2:=getD_some rgb 0 (i:=3*i+2) (by omega)
   have r0:=hr _ (List.mem_of_getElem? g0)
   have r1:=hr _ (List.mem_of_getElem? g1)
   have r2:=hr _ (List.mem_of_getElem? g2)
   have his:=h.ext hs1.ext
   obtain⟨a0,p0,q0a,q0b,x0,c0,h0⟩:=his.rd (i:=((3*i:Nat):Int)) (by omega) (by omega) (by rw[Int.toNat_natCast];exact g0) (K:=fun y=>y=rgb.getD (3*i) 0) rfl
   obtain⟨a1,p1,q1a,q1b,x1,c1,h1⟩:=his.rd (i:=((3*i+1:Nat):Int)) (by omega) (by omega) (by rw[Int.toNat_natCast];exact g1) (K:=fun y=>y=rgb.getD (3*i+1) 0) rfl
   obtain⟨a2,p2,q2a,q2b,x2,c2,h2⟩:=his.rd (i:=((3*i+2:Nat):Int)) (by omega) (by omega) (by rw[Int.toNat_natCast];exact g2) (K:=fun y=>y=rgb.getD (3*i+2) 0) rfl
   rw[←h0,←h1,←h2] at hR
   rw[←h0] at r0
   rw[←h1] at r1
   rw[←h2] at r2
   refine⟨_,_,_,hs1.get 0 (j:=2) rfl rfl,a0,p0,q0a,q0b,x0,c0,_,_,_,hs1.get 0 (j:=2) rfl rfl,a1,p1,q1a,q1b,x1,c1,_,_,_,hs1.get 0 (j:=2) rfl rfl,a2,p2,q2a,q2b,x2,c2,?_⟩
   rw[wrap_id (n:=x0) (by omega) (by omega),wrap_id (n:=x1) (by omega) (by omega),wrap_id (n:=x2) (by omega) (by omega)]
   refine c91 r0 r1 r2 fun H2 e2=>⟨_,rfl,by omega,by omega,brightM x0 x1 x2 k,?_,hR H2 (hs1.ext.trans e2)⟩
   rw[Int.toNat_natCast,Nat.mul_one,List.getElem?_toArray]
   exact ints_get (brightL_get hk)
  refine⟨_,hs1.get 0 (j:=1) rfl rfl,br_dec (fun hge=>⟨_,hs1.get 0 (j:=1) rfl rfl,?_⟩) (fun hlt=>goY y (by omega))⟩
  have:=goY (Ht-1) (by omega)
  rw[wrap_id (by omega) (by omega)]
  rw[show((Ht-1:Nat):Int)=(Ht:Int)-1 from by omega] at this
  exact this
 refine⟨_,hs1.get 0 (j:=0) rfl rfl,br_dec (fun hge=>⟨_,hs1.get 0 (j:=0) rfl rfl,?_⟩) (fun hlt=>goX x (by omega))⟩
 have:=goX (W-1) (by omega)
 rw[wrap_id (by omega) (by omega)]
 rw[show((W-1:Nat):Int)=(W:Int)-1 from by omega] at this
 exact this
def sampM(W Ht:Nat)(rgb:List Int)(half:Bool)(k x y:Nat):Int:=
 if half=true∧k≠0 then halfV2 W Ht (planeL (W*Ht) rgb k) (min x ((W-1)/2)) (min y ((Ht-1)/2)) else atM W Ht (planeL (W*Ht) rgb k) x y
theorem sampM_rng(W Ht:Nat)(rgb:List Int)(half:Bool)(k x y:Nat):0≤sampM W Ht rgb half k x y∧sampM W Ht rgb half k x y≤255:=by
 unfold sampM
 split
 ·exact halfV2_rng (planeL_byt _ _ _) _ _
 ·exact atM_rng (planeL_byt _ _ _) _ _
theorem samp_part{W Ht:Nat}(hW:1≤W)(hH:1≤Ht)(rgb:List Int)(half:Bool){k:Nat}(hk:k≠0)(x y:Nat):atM (hw half W) (hw half Ht) (partL W Ht rgb half k) x y=sampM W Ht rgb half k x y:=by
 unfold sampM partL hw
 cases half with
 |true=>simp only[if_true];rw[if_pos ⟨trivial,hk⟩];exact at_half hW hH _ _ _
 |false=>simp
theorem c26{W Ht l c:Nat}{p:Option Addr}{rgb:List Int}(h:IS H p l (kints .u8 rgb))(hr: ∀x∈rgb,0≤x∧x<256)(hl:l=3*(W*Ht))(hW:1≤W)(hH:1≤Ht)(hn:W*Ht≤1000){k x y:Nat}(hk:k<3)(hx:x≤10000)(hy:y≤10000){half:Bool}
 (hR: ∀H',Ext H H'→R (.int .i64 (sampM W Ht rgb half k x y)) H'):CallsH Tryz.prog 26 #[.agg #[.int .i64 (W:Nat),.int .i64 (Ht:Nat),.slice p l c],.int .i64 (k:Nat),.int .i64 (x:Nat),.int .i64 (y:Nat),.bool half] H R:=by
 obtain⟨b1,b2⟩:=le_of_area hW hH hn
 refine Tryz.s26 ?_
 unfold Tryz.S26
 refine(St.nil H).alc fun pb H1 hs1=>?_
 have row: ∀{H2:Heap},Ext H1 H2→rowIn H2 ⟨pb,0,none⟩ #[.int .i64 (W:Nat),.int .i64 (Ht:Nat),.slice p l c]:=fun e=>rowIn_whole (e _ _ (hs1.block 0 rfl))
 unfold sampM at hR
 intro J hJ
 have plain: ¬(half=true∧k≠0)→ ∃v42:Array Value,v42.size=3∧rowIn H1 ⟨pb,0,none⟩ v42∧CallsH Tryz.prog 55 #[Value.agg v42,Value.int .i64 (k:Nat),Value.int .i64 (x:Nat),Value.int .i64 (y:Nat)] H1 fun r43 H_44=> ∃r45:Int,r43=Value.int .i64 r45∧R (Value.int .i64 r45) H_44:=fun hn'=>by
  rw[if_neg hn'] at hR
  exact⟨_,rfl,row (Ext.refl _),c55 (h.ext hs1.ext) hr hl hW hH hn hk (by omega) (by omega) fun H2 e2=>⟨_,rfl,hR H2 (hs1.ext.trans e2)⟩⟩
 refine br_not (fun hf=>plain (by rw[hf];simp)) (fun ht=>br_eq (fun hk0=>plain (by omega)) (fun hk0=>hJ H1 ?_))
 rw[if_pos ⟨ht,by omega⟩] at hR
 intro K hK
 have hpb:=planeL_byt (W*Ht) rgb k
 have goX: ∀X:Nat,X=min x ((W-1)/2)→K [.int .i64 (X:Nat)] H1:=fun X hX=>by
  refine hK _ H1 ?_
  intro M hM
  have goY: ∀Y:Nat,Y=min y ((Ht-1)/2)→M [.int .i64 (Y:Nat)] H1:=fun Y hY=>by
   rw[←hX,←hY] at hR
   have eX:IntKind.wrap .i64 ((2:Int)*(X:Nat))=((2*X:Nat):Int):=by rw[wrap_id (by omega) (by omega)];omega
   have eY:IntKind.wrap .i64 ((2:Int)*(Y:Nat))=((2*Y:Nat):Int):=by rw[wrap_id (by omega) (by omega)];omega
   refine hM _ H1 ⟨_,rfl,row (Ext.refl _),_,rfl,row (Ext.refl _),_,rfl,row (Ext.refl _),_,rfl,row (Ext.refl _),?_⟩
   rw[eX,eY,w1 (i:=2*X) (by omega),w1 (i:=2*Y) (by omega)]
   refine c55 (h.ext hs1.ext) hr hl hW hH hn hk (by omega) (by omega) fun H6 e6=>⟨_,rfl,.inl e6,?_⟩
   have i6:=(h.ext hs1.ext).ext e6
   refine c55 i6 hr hl hW hH hn hk (by omega) (by omega) fun H7 e7=>⟨_,rfl,.inl e7,?_⟩
   refine c55 (i6.ext e7) hr hl hW hH hn hk (by omega) (by omega) fun H8 e8=>⟨_,rfl,.inl e8,?_⟩
   refine c55 ((i6.ext e7).ext e8) hr hl hW hH hn hk (by omega) (by omega) fun H9 e9=>⟨_,rfl,by decide,?_⟩
   have hR:=hR H9 (hs1.ext.trans (e6.trans (e7.trans (e8.trans e9))))
   unfold halfV2 at hR
   have r1:=atM_rng (W:=W) (Ht:=Ht) hpb (2*X) (2*Y)
   have r2:=atM_rng (W:=W) (Ht:=Ht) hpb (2*X+1) (2*Y)
   have r3:=atM_rng (W:=W) (Ht:=Ht) hpb (2*X) (2*Y+1)
   have r4:=atM_rng (W:=W) (Ht:=Ht) hpb (2*X+1) (2*Y+1)
   generalize atM W Ht (planeL (W*Ht) rgb k) (2*X) (2*Y)=a at*
   generalize atM W Ht (planeL (W*Ht) rgb k) (2*X+1) (2*Y)=b at*
   generalize atM W Ht (planeL (W*Ht) rgb k) (2*X) (2*Y+1)=cc at*
   generalize atM W Ht (planeL (W*Ht) rgb k) (2*X+1) (2*Y+1)=d at*
   rw[wrap_id (n:=a+b) (by omega) (by omega),wrap_id (n:=a+b+cc) (by omega) (by omega),wrap_id (n:=a+b+cc+d) (by omega) (by omega),wrap_id (n:=a+b+cc+d+2) (by omega) (by omega),Int.tdiv_eq_ediv_of_nonneg (by omega),wrap_id (by omega) (by omega)]
   exact hR
  have eh:IntKind.wrap .i64 (Int.tdiv (IntKind.wrap .i64 ((Ht:Int)-1)) 2)=(((Ht-1)/2:Nat):Int):=by
   rw[wrap_id (n:=(Ht:Int)-1) (by omega) (by omega),show(Ht:Int)-1=((Ht-1:Nat):Int) from by omega,show(2:Int)=((2:Nat):Int) from rfl,tdivN,wN (by omega)]
  refine⟨_,hs1.get 0 (j:=1) rfl rfl,by decide,?_⟩
  rw[eh]
  refine br_dec (fun hgt=>⟨_,hs1.get 0 (j:=1) rfl rfl,by decide,?_⟩) (fun hle=>goY y (by omega))
  rw[eh]
  exact goY _ (by omega)
 have ew:IntKind.wrap .i64 (Int.tdiv (IntKind.wrap .i64 ((W:Int)-1)) 2)=(((W-1)/2:Nat):Int):=by
  rw[wrap_id (n:=(W:Int)-1) (by omega) (by omega),show(W:Int)-1=((W-1:Nat):Int) from by omega,show(2:Int)=((2:Nat):Int) from rfl,tdivN,wN (by omega)]
 refine⟨_,hs1.get 0 (j:=0) rfl rfl,by decide,?_⟩
 rw[ew]
 refine br_dec (fun hgt=>⟨_,hs1.get 0 (j:=0) rfl rfl,by decide,?_⟩) (fun hle=>goX x (by omega))
 rw[ew]
 exact goX _ (by omega)
def sideM(half:Bool):Nat:=if half then 16 else 8
def unitM(half:Bool)(i j:Nat):List (Nat×Nat×Nat):=
 (if half then[(0,16*i,16*j),(0,16*i+8,16*j),(0,16*i,16*j+8),(0,16*i+8,16*j+8)] else[(0,8*i,8*j)])++[(1,8*i,8*j),(2,8*i,8*j)]
def rowU(half:Bool)(j n:Nat):List (Nat×Nat×Nat):=(List.range n).flatMap fun i=>unitM half i j
def unitsN(half:Bool)(n:Nat):Nat:=(n+sideM half-1)/sideM half
def orderM(W Ht:Nat)(half:Bool):List (Nat×Nat×Nat):=(List.range (unitsN half Ht)).flatMap fun j=>rowU half j (unitsN half W)
def flat3(l:List (Nat×Nat×Nat)):List Int:=l.flatMap fun t=>[(t.1:Int),(t.2.1:Int),(t.2.2:Int)]
theorem flat3_append(a b:List (Nat×Nat×Nat)):flat3 (a++b)=flat3 a++flat3 b:=by simp[flat3]
theorem flatMap_succ{α β:Type}(f:Nat→List β)(n:Nat):(List.range (n+1)).flatMap f=(List.range n).flatMap f++f n:=by simp[List.range_succ]
theorem flat3_get: ∀{l:List (Nat×Nat×Nat)} {i:Nat} {t:Nat×Nat×Nat},l[i]?=some t→(flat3 l)[i*3]?=some (t.1:Int)∧(flat3 l)[i*3+1]?=some (t.2.1:Int)∧(flat3 l)[i*3+2]?=some (t.2.2:Int)
 |u::l,0,t,h=>by
  simp at h;subst h
  exact⟨rfl,rfl,rfl⟩
 |u::l,i+1,t,h=>by
  have h:=flat3_get (l:=l) (i:=i) (by simpa using h)
  rw[show(i+1)*3=i*3+1+1+1 from by omega]
  exact h
theorem unitM_len(half:Bool)(i j:Nat):(unitM half i j).length=(if half then 6 else 3):=by cases half<;>rfl
theorem rowU_len(half:Bool)(j n:Nat):(rowU half j n).length≤6*n:=by
 induction n with
 |zero=>simp[rowU]
 |succ n ih=>
  have:=unitM_len half n j
  unfold rowU at*
  rw[flatMap_succ (β:=Nat×Nat×Nat) (α:=Nat),List.length_append,this]
  split<;>omega
theorem rows_len(half:Bool)(n:Nat): ∀m,((List.range m).flatMap fun j=>rowU half j n).length≤m*(6*n)
 |0=>by simp
 |m+1=>by
  rw[flatMap_succ (β:=Nat×Nat×Nat) (α:=Nat),List.length_append,Nat.succ_mul]
  have:=rows_len half n m
  have:=rowU_len half m n
  omega
theorem order_rng(W Ht:Nat)(half:Bool)(hW:W≤1000)(hH:Ht≤1000): ∀t∈orderM W Ht half,t.1<3∧t.2.1≤2000∧t.2.2≤2000:=fun t ht=>by
 obtain⟨j,hj,ht⟩:=List.mem_flatMap.1 ht
 obtain⟨i,hi,ht⟩:=List.mem_flatMap.1 ht
 have hj:=List.mem_range.1 hj
 have hi:=List.mem_range.1 hi
 unfold unitsN sideM at hi hj
 cases half with
 |true=>
  simp only[if_true] at hi hj
  simp[unitM] at ht
  rcases ht with rfl|rfl|rfl|rfl|rfl|rfl<;>simp<;>omega
 |false=>
  simp at hi hj
  simp[unitM] at ht
  rcases ht with rfl|rfl|rfl<;>simp<;>omega
theorem units_lt{half:Bool}{n j:Nat}:sideM half*j<n↔j<unitsN half n:=by
 unfold unitsN sideM
 cases half<;>simp<;>omega
set_option maxHeartbeats 1000000 in
theorem c35{W Ht:Nat}{half:Bool}(hW:W≤40000)(hH:Ht≤40000)(hR: ∀H' q m,St H H' [.sl q (orderM W Ht half).length m 112 3 (ints (flat3 (orderM W Ht half)))]→R (.slice q (orderM W Ht half).length m) H'):
 CallsH Tryz.prog 35 #[.int .i64 (W:Nat),.int .i64 (Ht:Nat),.bool half] H R:=by
 refine Tryz.s35 ?_
 unfold Tryz.S35
 intro J hJ
 have hny:unitsN half Ht≤5001:=by unfold unitsN sideM;cases half<;>simp<;>omega
 have hnx:unitsN half W≤5001:=by unfold unitsN sideM;cases half<;>simp<;>omega
 have hs8:8≤sideM half∧sideM half≤16:=by unfold sideM;cases half<;>simp
 have main:J [.int .i64 (sideM half:Nat)] H:=by
  refine hJ _ H ?_
  intro X hX
  have outer: ∀j,j≤unitsN half Ht→ ∀H1 q m l,l=(List.range j).flatMap (fun j=>rowU half j (unitsN half W))→St H H1 [.sl q l.length m 112 3 (ints (flat3 l))]→X [.slice q l.length m,.int .i64 (sideM half*j:Nat)] H1:=upto fun j hj ihj H1 q m l hl hs1=>by
   refine hX _ _ _ _ H1 (br_dec (fun hlt=>?_) (fun hge=>?_))
   ·have hltj:j<unitsN half Ht:=units_lt.1 (by omega)
    have hsj:=units_lt.2 hltj
    have hrl:=rows_len half (unitsN half W) j
    rw[←hl] at hrl
    have hb2:j*(6*unitsN half W)≤5001*(6*5001):=Nat.mul_le_mul (by omega) (by omega)
    intro Y hY
    have inner: ∀i,i≤unitsN half W→ ∀H2 q m l2,l2=l++rowU half j i→St H H2 [.sl q l2.length m 112 3 (ints (flat3 l2))]→Y [.slice q l2.length m,.int .i64 (sideM half*i:Nat)] H2:=upto fun i hi ihi H2 q m l2 hl2 hs2=>by
     refine hY _ _ _ _ H2 (br_dec (fun hlt=>⟨rfl,by decide,?_⟩) (fun hge=>?_))
     ·have hlti:i<unitsN half W:=units_lt.1 (by omega)
      have hsi:=units_lt.2 hlti
      have hru:=rowU_len half j i
      have hl2n:l2.length≤5001*(6*5001)+6*5001:=by rw[hl2,List.length_append];omega
      refine hs2.alc fun b15 H3 hs3=>?_
      refine hs3.appC 1 0 (el:=112) (k:=3) (cs:=#[.int .i64 0,.int .i64 (sideM half*i:Nat),.int .i64 (sideM half*j:Nat)]) rfl rfl rfl (by simp[Value.oneCell']) (by decide) rfl (by omega) (by omega) fun q3 m3 H4 hs4=>?_
      have hs4:=hs4.tail
      intro K hK
      have e8i:IntKind.wrap .i64 (((sideM half*i:Nat):Int)*8)=((sideM half*(8*i):Nat):Int):=by
       rw[wrap_id (by omega) (by omega),Int.natCast_mul,Int.natCast_mul,Int.natCast_mul,Int.mul_assoc,Int.mul_comm (i:Int) 8];rfl
      have e8j:IntKind.wrap .i64 (((sideM half*j:Nat):Int)*8)=((sideM half*(8*j):Nat):Int):=by
       rw[wrap_id (by omega) (by omega),Int.natCast_mul,Int.natCast_mul,Int.natCast_mul,Int.mul_assoc,Int.mul_comm (j:Int) 8];rfl
      have d8i:sideM half*(8*i)/sideM half=8*i:=Nat.mul_div_cancel_left _ (by omega)
      have d8j:sideM half*(8*j)/sideM half=8*j:=Nat.mul_div_cancel_left _ (by omega)
      have i125:i≤5001:=by omega
      have j125:j≤5001:=by omega
      have last: ∀q4 m4 H5 l3,l3++[(1,8*i,8*j),(2,8*i,8*j)]=l2++unitM half i j→l3.length≤5001*(6*5001)+6*5001+6→St H H5 [.sl q4 l3.length m4 112 3 (ints (flat3 l3))]→K [.slice q4 l3.length m4] H5:=fun q4 m4 H5 l3 hl3 hn3 hs5=>by
       refine hK _ _ _ H5 ?_
       rw[e8i,e8j,tdivN,tdivN,d8i,d8j,wN (k:=8*i) (by omega),wN (k:=8*j) (by omega),←Int.natCast_add,wN (k:=sideM half*i+sideM half) (by omega)]
       refine⟨by omega,by omega,by omega,by omega,rfl,by decide,rfl,by decide,hs5.alc fun b22 H6 hs6=>?_⟩
       refine hs6.appC 1 0 (el:=112) (k:=3) (n:=2) (cs:=#[.int .i64 1,.int .i64 (8*i:Nat),.int .i64 (8*j:Nat),.int .i64 2,.int .i64 (8*i:Nat),.int .i64 (8*j:Nat)]) rfl rfl rfl (by simp[Value.oneCell']) (by decide) rfl (by omega) (by omega) fun q5 m5 H7 hs7=>?_
       have hs7:=hs7.tail
       have e1:sideM half*i+sideM half=sideM half*(i+1):=by rw[Nat.mul_succ]
       rw[e1]
       have e2:l3++[(1,8*i,8*j),(2,8*i,8*j)]=l++rowU half j (i+1):=by
        rw[hl3,hl2,List.append_assoc];congr 1
        unfold rowU;rw[flatMap_succ (β:=Nat×Nat×Nat) (α:=Nat)]
       have:=ihi hlti H7 q5 m5 _ e2 (by
        rw[List.length_append,flat3_append,ints_append]
        exact hs7)
       rw[List.length_append] at this
       exact this
      refine br_i (fun ht=>?_) (fun hf=>?_)
      ·subst ht
       rw[show sideM true=16 from rfl] at*
       have e1:IntKind.wrap .i64 (((16*i:Nat):Int)+8)=((16*i+8:Nat):Int):=by rw[wrap_id (by omega) (by omega)];omega
       have e2:IntKind.wrap .i64 (((16*j:Nat):Int)+8)=((16*j+8:Nat):Int):=by rw[wrap_id (by omega) (by omega)];omega
       rw[e1,e2]
       refine⟨rfl,by decide,rfl,by decide,rfl,by decide,hs4.alc fun b26 H6 hs6=>?_⟩
       refine hs6.appC 1 0 (el:=112) (k:=3) (n:=3) (cs:=#[.int .i64 0,.int .i64 (16*i+8:Nat),.int .i64 (16*j:Nat),.int .i64 0,.int .i64 (16*i:Nat),.int .i64 (16*j+8:Nat),.int .i64 0,.int .i64 (16*i+8:Nat),.int .i64 (16*j+8:Nat)]) rfl rfl rfl (by simp[Value.oneCell']) (by decide) rfl (by omega) (by omega) fun q5 m5 H7 hs7=>?_
       have hs7:=hs7.tail
       have:=last q5 m5 H7 (l2++[(0,16*i,16*j),(0,16*i+8,16*j),(0,16*i,16*j+8),(0,16*i+8,16*j+8)]) (by simp[unitM]) (by simp;omega) (by
        rw[List.length_append,flat3_append,ints_append]
        rw[List.append_assoc] at hs7
        exact hs7)
       rw[List.length_append] at this
       exact this
      ·subst hf
       have:=last q3 m3 H4 (l2++[(0,8*i,8*j)]) (by simp[unitM]) (by simp;omega) (by
        rw[List.length_append,flat3_append,ints_append]
        exact hs4)
       rw[List.length_append] at this
       exact this
     ·have hni: ¬i<unitsN half W:=fun h=>hge (by have:=units_lt.2 h;omega)
      have:i=unitsN half W:=by omega
      rw[←Int.natCast_add,wN (k:=sideM half*j+sideM half) (by omega)]
      have e1:sideM half*j+sideM half=sideM half*(j+1):=by rw[Nat.mul_succ]
      rw[e1]
      subst this
      exact ihj hltj H2 q m l2 (by rw[hl2,hl,flatMap_succ (β:=Nat×Nat×Nat) (α:=Nat)]) hs2
    exact inner 0 (by omega) H1 q m l (by simp[rowU]) hs1
   ·have hni: ¬j<unitsN half Ht:=fun h=>hge (by have:=units_lt.2 h;omega)
    have:j=unitsN half Ht:=by omega
    subst this
    have e:l=orderM W Ht half:=hl
    rw[e] at hs1 ⊢
    exact hR H1 q m hs1
  exact outer 0 (by omega) H none 0 [] rfl ((St.nil H).nilSl _ 3)
 refine br_i (fun ht=>?_) (fun hf=>?_)
 ·subst ht;exact main
 ·subst hf;exact main
end Go.Proofs
namespace Go.Proofs
open Go.Sh
variable {H0 H:Heap} {σ:List Rs} {R:Value→Heap→Prop}
def SizedM(w h:Int):Prop:=1≤w∧1≤h∧w≤32768∧h≤32768∧w*h≤4194304
instance(w h:Int):Decidable (SizedM w h):=inferInstanceAs (Decidable (_∧_))
theorem mul_bd2{w h:Int}(h1:1≤w∧w≤32768)(h2:1≤h∧h≤32768):1≤w*h∧w*h≤1073741824:=by
 have:=mul_bd (x:=w) (y:=h) (A:=32768) (B:=32768) (by omega) (by omega)
 have h3:0<w*h:=Int.mul_pos (by omega) (by omega)
 omega
theorem c41{w h:Int}(hR:R (.bool (decide (SizedM w h))) H):CallsH Tryz.prog 41 #[.int .i64 w,.int .i64 h] H R:=by
 have no: ¬SizedM w h→R (.bool false) H:=fun hn=>by rw[decide_eq_false hn] at hR;exact hR
 refine Tryz.s41 (br_dec (fun h1=>br_dec (fun h2=>br_dec (fun h3=>br_dec (fun h4=>?_) (fun h4=>no fun hs=>by unfold SizedM at hs;omega)) (fun h3=>no fun hs=>by unfold SizedM at hs;omega)) (fun h2=>no fun hs=>by unfold SizedM at hs;omega)) (fun h1=>no fun hs=>by unfold SizedM at hs;omega))
 have:=mul_bd2 (w:=w) (h:=h) (by omega) (by omega)
 rw[wrap_id (by omega) (by omega)]
 have e:decide (w*h≤4194304)=decide (SizedM w h):=by unfold SizedM;congr 1;apply propext;constructor<;>intro hh<;>omega
 rw[e];exact hR
theorem c6{w h:Int}(hR:R (.bool (decide (SizedM w h))) H):CallsH Tryz.prog 6 #[.int .i64 w,.int .i64 h] H R:=by
 have no: ¬SizedM w h→R (.bool false) H:=fun hn=>by rw[decide_eq_false hn] at hR;exact hR
 refine Tryz.s6 (br_dec (fun h1=>br_dec (fun h2=>br_dec (fun h3=>br_dec (fun h4=>?_) (fun h4=>no fun hs=>by unfold SizedM at hs;omega)) (fun h3=>no fun hs=>by unfold SizedM at hs;omega)) (fun h2=>no fun hs=>by unfold SizedM at hs;omega)) (fun h1=>no fun hs=>by unfold SizedM at hs;omega))
 have:=mul_bd2 (w:=w) (h:=h) (by omega) (by omega)
 rw[wrap_id (by omega) (by omega)]
 have e:decide (w*h≤4194304)=decide (SizedM w h):=by unfold SizedM;congr 1;apply propext;constructor<;>intro hh<;>omega
 rw[e];exact hR
def stL(q:Int)(d:Bool):List Int:=if 1≤q∧q≤100 then stepsM q d else List.replicate 64 0
theorem stL_len(q:Int)(d:Bool):(stL q d).length=64:=by unfold stL;split<;>simp[stepsM_len]
theorem stepsC{q:Int}{d:Bool}(hR: ∀H',Ext H H'→R (.tuple #[.agg (ints (stL q d)).toArray,.bool (decide (1≤q∧q≤100))]) H'):CallsH Tryz.prog 16 #[.int .i64 q,.bool d] H R:=by
 refine c16 (fun hn H' e=>?_) (fun hq H' e=>?_)
 ·have:=hR H' e;unfold stL at this;rw[if_neg hn,decide_eq_false hn] at this;exact this
 ·have:=hR H' e;unfold stL at this;rw[if_pos hq,decide_eq_true hq] at this;exact this
theorem stepsC2{q:Int}{d:Bool}(hR: ∀H',Ext H H'→R (.tuple #[.agg (ints (stL q d)).toArray,.bool (decide (1≤q∧q≤100))]) H'):CallsH Tryz.prog 24 #[.int .i64 q,.bool d] H R:=by
 refine c24 (fun hn H' e=>?_) (fun hq H' e=>?_)
 ·have:=hR H' e;unfold stL at this;rw[if_neg hn,decide_eq_false hn] at this;exact this
 ·have:=hR H' e;unfold stL at this;rw[if_pos hq,decide_eq_true hq] at this;exact this
def preU(half:Bool)(i j k:Nat):List (Nat×Nat×Nat):=(List.range k).map fun k=>(0,sideM half*i+8*(k%2),sideM half*j+8*(k/2))
def kN(half:Bool):Nat:=if half then 4 else 1
theorem preU_all(half:Bool)(i j:Nat):preU half i j (kN half)++[(1,8*i,8*j),(2,8*i,8*j)]=unitM half i j:=by cases half<;>rfl
theorem preU_succ(half:Bool)(i j k:Nat):preU half i j (k+1)=preU half i j k++[(0,sideM half*i+8*(k%2),sideM half*j+8*(k/2))]:=by simp[preU,List.range_succ]
theorem preU_len(half:Bool)(i j k:Nat):(preU half i j k).length=k:=by simp[preU]
set_option maxHeartbeats 1000000 in
theorem c25{W Ht:Nat}{half:Bool}(hW:W≤40000)(hH:Ht≤40000)(hR: ∀H' q m,St H H' [.sl q (orderM W Ht half).length m 69 3 (ints (flat3 (orderM W Ht half)))]→R (.slice q (orderM W Ht half).length m) H'):
 CallsH Tryz.prog 25 #[.int .i64 (W:Nat),.int .i64 (Ht:Nat),.bool half] H R:=by
 refine Tryz.s25 ?_
 unfold Tryz.S25
 intro J hJ
 have hny:unitsN half Ht≤5001:=by unfold unitsN sideM;cases half<;>simp<;>omega
 have hnx:unitsN half W≤5001:=by unfold unitsN sideM;cases half<;>simp<;>omega
 have hs8:8≤sideM half∧sideM half≤16:=by unfold sideM;cases half<;>simp
 have hk4:kN half≤4:=by unfold kN;cases half<;>simp
 have ek:IntKind.wrap .i64 (Int.tdiv (IntKind.wrap .i64 (((sideM half:Nat):Int)*((sideM half:Nat):Int))) 64)=((kN half:Nat):Int):=by cases half<;>decide
 have main:J [.int .i64 (sideM half:Nat)] H:=by
  refine hJ _ H ?_
  intro X hX
  have outer: ∀j,j≤unitsN half Ht→ ∀H1 q m l,l=(List.range j).flatMap (fun j=>rowU half j (unitsN half W))→St H H1 [.sl q l.length m 69 3 (ints (flat3 l))]→X [.slice q l.length m,.int .i64 (sideM half*j:Nat)] H1:=upto fun j hj ihj H1 q m l hl hs1=>by
   refine hX _ _ _ _ H1 (br_dec (fun hlt=>?_) (fun hge=>?_))
   ·have hltj:j<unitsN half Ht:=units_lt.1 (by omega)
    have hsj:=units_lt.2 hltj
    have hrl:=rows_len half (unitsN half W) j
    rw[←hl] at hrl
    have hb2:j*(6*unitsN half W)≤5001*(6*5001):=Nat.mul_le_mul (by omega) (by omega)
    intro Y hY
    have inner: ∀i,i≤unitsN half W→ ∀H2 q m l2,l2=l++rowU half j i→St H H2 [.sl q l2.length m 69 3 (ints (flat3 l2))]→Y [.slice q l2.length m,.int .i64 (sideM half*i:Nat)] H2:=upto fun i hi ihi H2 q m l2 hl2 hs2=>by
     refine hY _ _ _ _ H2 (br_dec (fun hlt=>?_) (fun hge=>?_))
     ·have hlti:i<unitsN half W:=units_lt.1 (by omega)
      have hsi:=units_lt.2 hlti
      have hru:=rowU_len half j i
      have hl2n:l2.length≤5001*(6*5001)+6*5001:=by rw[hl2,List.length_append];omega
      have d8i:sideM half*i/sideM half=i:=Nat.mul_div_cancel_left _ (by omega)
      have d8j:sideM half*j/sideM half=j:=Nat.mul_div_cancel_left _ (by omega)
      have i125:i≤5001:=by omega
      have j125:j≤5001:=by omega
      intro Z hZ
      have inn: ∀k,k≤kN half→ ∀H3 q m l3,l3=l2++preU half i j k→St H H3 [.sl q l3.length m 69 3 (ints (flat3 l3))]→Z [.slice q l3.length m,.int .i64 (k:Nat)] H3:=upto fun k hk ihk H3 q m l3 hl3 hs3=>by
       have hp:=preU_len half i j k
       have hl3n:l3.length≤5001*(6*5001)+6*5001+4:=by rw[hl3,List.length_append];omega
       refine hZ _ _ _ _ H3 ⟨by decide,?_⟩
       rw[ek]
       refine br_dec (fun hlt=>?_) (fun hge=>?_)
       ·have hltk:k<kN half:=by omega
        have e1:IntKind.wrap .i64 (((sideM half*i:Nat):Int)+IntKind.wrap .i64 (8*Int.tmod (k:Int) 2))=((sideM half*i+8*(k%2):Nat):Int):=by
         rw[show(2:Int)=((2:Nat):Int) from rfl,tmodN,wrap_id (n:=8*((k%2:Nat):Int)) (by omega) (by omega),wrap_id (by omega) (by omega)];omega
        have e2:IntKind.wrap .i64 (((sideM half*j:Nat):Int)+IntKind.wrap .i64 (8*IntKind.wrap .i64 (Int.tdiv (k:Int) 2)))=((sideM half*j+8*(k/2):Nat):Int):=by
         rw[show(2:Int)=((2:Nat):Int) from rfl,tdivN,wN (by omega),wrap_id (n:=8*((k/2:Nat):Int)) (by omega) (by omega),wrap_id (by omega) (by omega)];omega
        rw[e1,e2,w1 (i:=k) (by omega)]
        refine⟨by decide,by decide,rfl,by decide,hs3.alc fun b19 H4 hs4=>?_⟩
        refine hs4.appC 1 0 (el:=69) (k:=3) (n:=1) (cs:=#[.int .i64 0,.int .i64 (sideM half*i+8*(k%2):Nat),.int .i64 (sideM half*j+8*(k/2):Nat)]) rfl rfl rfl (by simp[Value.oneCell']) (by decide) rfl (by omega) (by omega) fun q5 m5 H5 hs5=>?_
        have:=ihk hltk H5 q5 m5 (l3++[(0,sideM half*i+8*(k%2),sideM half*j+8*(k/2))]) (by rw[hl3,preU_succ,List.append_assoc]) (by
         rw[List.length_append,flat3_append,ints_append]
         exact hs5.tail)
        rw[List.length_append] at this
        exact this
       ·have:k=kN half:=by omega
        subst this
        have m1:IntKind.wrap .i64 (((i:Nat):Int)*8)=((8*i:Nat):Int):=by rw[wrap_id (by omega) (by omega)];omega
        have m2:IntKind.wrap .i64 (((j:Nat):Int)*8)=((8*j:Nat):Int):=by rw[wrap_id (by omega) (by omega)];omega
        rw[tdivN,tdivN,d8i,d8j,wN (k:=i) (by omega),wN (k:=j) (by omega),m1,m2,←Int.natCast_add,wN (k:=sideM half*i+sideM half) (by omega)]
        refine⟨by omega,by omega,by omega,by omega,rfl,by decide,rfl,by decide,hs3.alc fun b22 H6 hs6=>?_⟩
        refine hs6.appC 1 0 (el:=69) (k:=3) (n:=2) (cs:=#[.int .i64 1,.int .i64 (8*i:Nat),.int .i64 (8*j:Nat),.int .i64 2,.int .i64 (8*i:Nat),.int .i64 (8*j:Nat)]) rfl rfl rfl (by simp[Value.oneCell']) (by decide) rfl (by omega) (by omega) fun q5 m5 H7 hs7=>?_
        have e1:sideM half*i+sideM half=sideM half*(i+1):=by rw[Nat.mul_succ]
        rw[e1]
        have e2:l3++[(1,8*i,8*j),(2,8*i,8*j)]=l++rowU half j (i+1):=by
         rw[hl3,List.append_assoc,preU_all,hl2,List.append_assoc];congr 1
         unfold rowU;rw[flatMap_succ (β:=Nat×Nat×Nat) (α:=Nat)]
        have:=ihi hlti H7 q5 m5 _ e2 (by
         rw[List.length_append,flat3_append,ints_append]
         exact hs7.tail)
        rw[List.length_append] at this
        exact this
      exact inn 0 (by omega) H2 q m l2 (by simp[preU]) hs2
     ·have hni: ¬i<unitsN half W:=fun h=>hge (by have:=units_lt.2 h;omega)
      have:i=unitsN half W:=by omega
      rw[←Int.natCast_add,wN (k:=sideM half*j+sideM half) (by omega)]
      have e1:sideM half*j+sideM half=sideM half*(j+1):=by rw[Nat.mul_succ]
      rw[e1]
      subst this
      exact ihj hltj H2 q m l2 (by rw[hl2,hl,flatMap_succ (β:=Nat×Nat×Nat) (α:=Nat)]) hs2
    exact inner 0 (by omega) H1 q m l (by simp[rowU]) hs1
   ·have hni: ¬j<unitsN half Ht:=fun h=>hge (by have:=units_lt.2 h;omega)
    have:j=unitsN half Ht:=by omega
    subst this
    have e:l=orderM W Ht half:=hl
    rw[e] at hs1 ⊢
    exact hR H1 q m hs1
  exact outer 0 (by omega) H none 0 [] rfl ((St.nil H).nilSl _ 3)
 refine br_i (fun ht=>?_) (fun hf=>?_)
 ·subst ht;exact main
 ·subst hf;exact main
def smpL(W Ht:Nat)(rgb:List Int)(half:Bool)(t:Nat×Nat×Nat):List Int:=(List.range 64).map fun i=>sampM W Ht rgb half t.1 (t.2.1+i%8) (t.2.2+i/8)-128
def blockV(W Ht:Nat)(rgb:List Int)(q:Int)(half:Bool)(t:Nat×Nat×Nat):List Int:=(List.range 64).map fun i=>inStepsM ((fwdM (smpL W Ht rgb half t)).getD i 0) (stepV q (decide (0<t.1)) i)
def blocksL(W Ht:Nat)(rgb:List Int)(q:Int)(half:Bool):List (List Int):=(orderM W Ht half).map (blockV W Ht rgb q half)
theorem smpL_len(W Ht:Nat)(rgb:List Int)(half:Bool)(t:Nat×Nat×Nat):(smpL W Ht rgb half t).length=64:=tab_len _ _
theorem smpL_small(W Ht:Nat)(rgb:List Int)(half:Bool)(t:Nat×Nat×Nat):Small (smpL W Ht rgb half t):=by
 refine⟨smpL_len _ _ _ _ _,fun i=>?_⟩
 by_cases h:i<64
 ·rw[show(smpL W Ht rgb half t).getD i 0=_ from tab_getD h]
  have:=sampM_rng W Ht rgb half t.1 (t.2.1+i%8) (t.2.2+i/8)
  omega
 ·rw[List.getD_eq_getElem?_getD,List.getElem?_eq_none (by rw[smpL_len];omega)];decide
theorem fwd_rng{s:List Int}(h:Small s){i:Nat}(hi:i<64): -5000≤(fwdM s).getD i 0∧(fwdM s).getD i 0≤5000:=by
 rw[show(fwdM s).getD i 0=_ from tab_getD hi];exact near_bd h _ _
theorem blockV_len(W Ht:Nat)(rgb:List Int)(q:Int)(half:Bool)(t:Nat×Nat×Nat):(blockV W Ht rgb q half t).length=64:=tab_len _ _
theorem blocksL_len(W Ht:Nat)(rgb:List Int)(q:Int)(half:Bool):(blocksL W Ht rgb q half).length=(orderM W Ht half).length:=by simp[blocksL]
theorem blocksL_64(W Ht:Nat)(rgb:List Int)(q:Int)(half:Bool): ∀b∈blocksL W Ht rgb q half,b.length=64:=fun b hb=>by
 obtain⟨t,_,rfl⟩:=List.mem_map.1 hb;exact blockV_len _ _ _ _ _ _
theorem flat64_len: ∀{l:List (List Int)},(∀b∈l,b.length=64)→l.flatten.length=64*l.length
 |[],_=>rfl
 |b::l,h=>by rw[List.flatten_cons,List.length_append,h b (List.mem_cons_self ..),flat64_len fun c hc=>h c (List.mem_cons_of_mem _ hc),List.length_cons];omega
theorem flat64_get: ∀{l:List (List Int)},(∀b∈l,b.length=64)→ ∀{i j:Nat} {b:List Int},l[i]?=some b→j<64→l.flatten[i*64+j]?=b[j]?
 |c::l,h,0,j,b,hb,hj=>by
  simp at hb;subst hb
  have:=h c (List.mem_cons_self ..)
  rw[List.flatten_cons,Nat.zero_mul,Nat.zero_add,List.getElem?_append_left (by omega)]
 |c::l,h,i+1,j,b,hb,hj=>by
  have h1:=h c (List.mem_cons_self ..)
  rw[List.flatten_cons,List.getElem?_append_right (by rw[h1];omega),h1,show(i+1)*64+j-64=i*64+j from by omega]
  exact flat64_get (fun c hc=>h c (List.mem_cons_of_mem _ hc)) (by simpa using hb) hj
theorem setL_all{c l:List Value}(h:l.length=c.length):setL c 0 l=l:=by unfold setL;simp[h]
theorem St.row64(hs:St H0 H σ)(i:Nat){p:Option Addr}{n c:Nat}{el:TypeId}{l:List (List Int)}(hi:σ[i]?=some (.sl p n c el 64 (ints l.flatten)))(h64: ∀b∈l,b.length=64){t:Nat}{b:List Int}(hb:l[t]?=some b)(ht:t<n):
 ∃blk,p=some ⟨blk,0,none⟩∧rowIn H ⟨blk,t*64,none⟩ (ints b).toArray:=
 (hs.rs i hi).row ht (by decide) fun j v hv=>by
  rw[List.getElem?_toArray] at hv
  have hj:=(List.getElem?_eq_some_iff.1 hv).1
  rw[ints_len,h64 b (List.mem_of_getElem? hb)] at hj
  simp only[ints,List.getElem?_map] at hv ⊢
  rw[flat64_get h64 hb hj];exact hv
end Go.Proofs
namespace Go.Proofs
open Go.Sh
theorem gD_left{α:Type}(a b:List α)(d:α)(i:Nat)(h:i<a.length):(a++b).getD i d=a.getD i d:=by simp[List.getD_eq_getElem?_getD,List.getElem?_append_left h]
theorem gD_right{α:Type}(a b:List α)(d:α)(i:Nat)(h:a.length≤i):(a++b).getD i d=b.getD (i-a.length) d:=by simp[List.getD_eq_getElem?_getD,List.getElem?_append_right h]
theorem gD_none{α:Type}(a:List α)(d:α){i:Nat}(h:a.length≤i):a.getD i d=d:=by simp[List.getD_eq_getElem?_getD,List.getElem?_eq_none h]
theorem gD_get{α:Type}{a:List α}{d:α}{i:Nat}{x:α}(h:a[i]?=some x):a.getD i d=x:=by simp[List.getD_eq_getElem?_getD,h]
theorem get_gD{α:Type}(a:List α)(d:α){i:Nat}(h:i<a.length):a[i]?=some (a.getD i d):=by rw[List.getD_eq_getElem?_getD,List.getElem?_eq_getElem h];rfl
def bpos(hi:Bool)(i:Nat):Nat:=if hi then 7-i%8 else i%8
def bitB(hi:Bool)(B:List Int)(i:Nat):Int:=B.getD (i/8) 0/2^bpos hi i%2
def numB(hi:Bool)(B:List Int)(at_:Nat):Nat→Int
 |0=>0
 |n+1=>if hi then 2*numB hi B at_ n+bitB hi B (at_+n) else numB hi B at_ n+bitB hi B (at_+n)*2^n
theorem bpos_lt(hi:Bool)(i:Nat):bpos hi i<8:=by unfold bpos;split<;>omega
theorem bpos_ne{hi:Bool}{i j:Nat}(h:i/8=j/8)(hne:i≠j):bpos hi i≠bpos hi j:=by unfold bpos;split<;>omega
theorem bitB_rng(hi:Bool)(B:List Int)(i:Nat):bitB hi B i=0∨bitB hi B i=1:=by unfold bitB;omega
theorem pow_cast(n:Nat):((2^n:Nat):Int)=(2:Int)^n:=by simp
theorem two_pow_pos(n:Nat):(0:Int)<2^n:=Int.pow_pos (by omega)
theorem pow_le{m n:Nat}(h:m≤n):(2:Int)^m≤2^n:=by
 rw[←pow_cast,←pow_cast];exact Int.ofNat_le.2 (Nat.pow_le_pow_right (by omega) h)
theorem numB_rng(hi:Bool)(B:List Int)(at_:Nat): ∀n,0≤numB hi B at_ n∧numB hi B at_ n<2^n
 |0=>by simp[numB]
 |n+1=>by
  have h:=numB_rng hi B at_ n
  have hp:=two_pow_pos n
  rw[numB,Int.pow_succ]
  rcases bitB_rng hi B (at_+n) with hb|hb<;>rw[hb]<;>split<;>omega
theorem ofInt_nat{n:Nat}{x:Int}(h0:0≤x)(h1:x<2^n):(BitVec.ofInt n x).toNat=x.toNat:=by
 rw[BitVec.toNat_ofInt]
 congr 1
 rw[pow_cast];exact Int.emod_eq_of_lt h0 h1
theorem or_sum{a b:Int}{k:Nat}(a0:0≤a)(ak:a<2^k)(b0:0≤b)(hs:a+b*2^k<9223372036854775808):orI .i64 a (b*2^k)=a+b*2^k:=by
 have hp:=two_pow_pos k
 have hb:0≤b*2^k:=Int.mul_nonneg b0 (Int.le_of_lt hp)
 have e64:(2:Int)^64=18446744073709551616:=by decide
 unfold orI
 rw[show IntKind.bits .i64=64 from rfl,BitVec.toNat_or,ofInt_nat a0 (by omega),ofInt_nat hb (by omega)]
 have h1:(b*2^k).toNat=2^k*b.toNat:=by
  obtain⟨n,rfl⟩:=Int.eq_ofNat_of_zero_le b0
  rw[←pow_cast,←Int.natCast_mul,Int.toNat_natCast,Int.toNat_natCast,Nat.mul_comm]
 have h2:a.toNat<2^k:=by
  have:=pow_cast k;omega
 rw[h1,Nat.or_comm,←Nat.two_pow_add_eq_or_of_lt h2,←h1]
 rw[wrap_id (by omega) (by omega)]
 omega
theorem or_sum'{a b:Int}{k:Nat}(a0:0≤a)(ak:a<2^k)(b0:0≤b)(hs:a+b*2^k<9223372036854775808):orI .i64 (b*2^k) a=a+b*2^k:=by
 rw[←or_sum a0 ak b0 hs]
 unfold orI
 rw[BitVec.or_comm]
theorem shl_of{x:Int}{k:Nat}(h0:0≤x)(hk:k≤62)(hs:x*2^k<9223372036854775808):shlI .i64 x k=x*2^k:=by
 unfold shlI
 rw[show min (k:Int).toNat (IntKind.bits .i64)=k from by rw[Int.toNat_natCast];exact Nat.min_eq_left (by show k≤64;omega)]
 have:=Int.mul_nonneg h0 (Int.le_of_lt (two_pow_pos k))
 exact wrap_id (by omega) (by omega)
theorem shr_of(x:Int){k:Nat}(hk:k≤62):shrI .i64 x k=x/2^k:=by
 unfold shrI
 rw[show min (k:Int).toNat (IntKind.bits .i64)=k from by rw[Int.toNat_natCast];exact Nat.min_eq_left (by show k≤64;omega)]
 exact Int.fdiv_eq_ediv_of_nonneg _ (Int.le_of_lt (two_pow_pos k))
theorem shr8_of(x:Int){k:Nat}(hk:k≤8):shrI .u8 x k=x/2^k:=by
 unfold shrI
 rw[show min (k:Int).toNat (IntKind.bits .u8)=k from by rw[Int.toNat_natCast];exact Nat.min_eq_left hk]
 exact Int.fdiv_eq_ediv_of_nonneg _ (Int.le_of_lt (two_pow_pos k))
theorem andI_1(a:Int):andI .i64 a (1:Int)=a%2:=by
 unfold andI
 rw[show IntKind.bits .i64=64 from rfl,BitVec.toNat_and,BitVec.toNat_ofInt,BitVec.toNat_ofInt]
 rw[show((1:Int)%((2^64:Nat):Int)).toNat=1 from by decide,Nat.and_one_is_mod]
 have h2:(((a%((2^64:Nat):Int)).toNat%2:Nat):Int)=a%2:=by
  rw[show((2^64:Nat):Int)=18446744073709551616 from by decide];omega
 rw[h2]
 exact wrap_id (by omega) (by omega)
theorem one1{v:Value}(h:v.oneCell'=true): ∀u∈[v],u.oneCell'=true:=fun u hu=>by rw[List.mem_singleton.1 hu];exact h
theorem or_byte: ∀(x:Fin 256) (j:Fin 8) (b:Fin 2),x.val/2^j.val%2=0→orI .u8 (x.val:Int) (shlI .u8 (b.val:Int) (j.val:Int))=((x.val+b.val*2^j.val:Nat):Int)∧x.val+b.val*2^j.val<256:=by decide+kernel
theorem bit_set: ∀(x:Fin 256) (j:Fin 8) (b:Fin 2) (i:Fin 8),x.val/2^j.val%2=0→(x.val+b.val*2^j.val)/2^i.val%2=if i=j then b.val else x.val/2^i.val%2:=by decide+kernel
structure WOk(hi:Bool)(ws B:List Int):Prop where
 len:B.length=(ws.length+7)/8
 rng: ∀x∈B,0≤x∧x<256
 bit: ∀i:Nat,bitB hi B i=ws.getD i 0
theorem WOk.nil(hi:Bool):WOk hi [] []:=⟨rfl,by simp,fun i=>by simp[bitB]⟩
theorem getD_rng{B:List Int}(h: ∀x∈B,0≤x∧x<256)(i:Nat):0≤B.getD i 0∧B.getD i 0<256:=by
 rw[List.getD_eq_getElem?_getD]
 cases hb:B[i]? with
 |none=>simp
 |some x=>exact h x (List.mem_of_getElem? hb)
theorem WOk.put{hi:Bool}{ws B:List Int}{b:Int}(h:WOk hi ws B)(hb:b=0∨b=1){C:List Int}(hC:C=if ws.length%8=0 then B++[0] else B):
 ∃x,C[ws.length/8]?=some x∧0≤x∧x<256∧WOk hi (ws++[b]) (C.set (ws.length/8) (orI .u8 x (shlI .u8 b (bpos hi ws.length)))):=by
 have hl:=h.len
 have hlen:C.length=ws.length/8+1:=by
  rw[hC];split
  ·simp;omega
  ·omega
 have hr: ∀x∈C,0≤x∧x<256:=by
  rw[hC];split
  ·intro x hx
   rcases List.mem_append.1 hx with hx|hx
   ·exact h.rng x hx
   ·simp at hx;subst hx;omega
  ·exact h.rng
 have hbit: ∀i:Nat,bitB hi C i=ws.getD i 0:=fun i=>by
  rw[←h.bit i,hC]
  split
  ·unfold bitB
   by_cases hi':i/8<B.length
   ·rw[gD_left _ _ _ _ hi']
   ·rw[gD_none B _ (by omega)]
    by_cases he:i/8=B.length
    ·rw[gD_right _ _ _ _ (by omega),he,Nat.sub_self];rfl
    ·rw[gD_none _ _ (by simp;omega)]
  ·rfl
 have hx:C[ws.length/8]?=some (C.getD (ws.length/8) 0):=by
  rw[List.getD_eq_getElem?_getD,List.getElem?_eq_getElem (by omega)];rfl
 generalize hxe:C.getD (ws.length/8) 0=x at hx
 have hxr:=hr x (List.mem_of_getElem? hx)
 refine⟨x,hx,hxr.1,hxr.2,?_⟩
 obtain⟨n,rfl⟩:=Int.eq_ofNat_of_zero_le hxr.1
 have hn:n<256:=by omega
 obtain⟨c,hc,rfl⟩: ∃c:Nat,c<2∧b=(c:Int):=by
  rcases hb with rfl|rfl
  ·exact⟨0,by omega,rfl⟩
  ·exact⟨1,by omega,rfl⟩
 have hz:n/2^bpos hi ws.length%2=0:=by
  have h1:=hbit ws.length
  unfold bitB at h1
  rw[hxe,gD_none _ _ (Nat.le_refl _),←pow_cast] at h1
  omega
 obtain⟨ho,ho2⟩:=or_byte ⟨n,hn⟩ ⟨bpos hi ws.length,bpos_lt hi _⟩ ⟨c,hc⟩ hz
 simp only at ho ho2
 rw[ho]
 refine⟨by rw[List.length_set,hlen,List.length_append,List.length_singleton];omega,fun y hy=>?_,fun i=>?_⟩
 ·rcases List.mem_or_eq_of_mem_set hy with hy|rfl
  ·exact hr y hy
  ·exact⟨Int.natCast_nonneg _,Int.ofNat_lt.2 ho2⟩
 ·by_cases he:i/8=ws.length/8
  ·have hs:=bit_set ⟨n,hn⟩ ⟨bpos hi ws.length,bpos_lt hi _⟩ ⟨c,hc⟩ ⟨bpos hi i,bpos_lt hi _⟩ hz
   simp only[Fin.mk.injEq] at hs
   have hg:(C.set (ws.length/8) ((n+c*2^bpos hi ws.length:Nat):Int)).getD (i/8) 0=((n+c*2^bpos hi ws.length:Nat):Int):=by
    rw[he,List.getD_eq_getElem?_getD,List.getElem?_set_self (by omega)];rfl
   unfold bitB
   rw[hg,←pow_cast]
   by_cases hil:i=ws.length
   ·subst hil
    rw[if_pos rfl] at hs
    rw[gD_right _ _ _ _ (Nat.le_refl _),Nat.sub_self]
    show _=(c:Int)
    omega
   ·rw[if_neg (bpos_ne he hil)] at hs
    have h1:=hbit i
    unfold bitB at h1
    rw[he,hxe,←pow_cast] at h1
    have h2:(ws++[(c:Int)]).getD i 0=ws.getD i 0:=by
     by_cases hlt:i<ws.length
     ·rw[gD_left _ _ _ _ hlt]
     ·rw[gD_none _ _ (by simp;omega),gD_none _ _ (by omega)]
    rw[h2,←h1]
    omega
  ·have hg:(C.set (ws.length/8) ((n+c*2^bpos hi ws.length:Nat):Int)).getD (i/8) 0=C.getD (i/8) 0:=by
    rw[List.getD_eq_getElem?_getD,List.getElem?_set_ne (Ne.symm he),←List.getD_eq_getElem?_getD]
   have h2:(ws++[(c:Int)]).getD i 0=ws.getD i 0:=by
    by_cases hlt:i<ws.length
    ·rw[gD_left _ _ _ _ hlt]
    ·rw[gD_none _ _ (by simp;omega),gD_none _ _ (by omega)]
   rw[h2,←hbit i]
   unfold bitB
   rw[hg]
def bitsOf(hi:Bool)(v:Int)(n:Nat):List Int:=(List.range n).map fun k=>v/2^(if hi then n-1-k else k)%2
theorem bitsOf_len(hi:Bool)(v:Int)(n:Nat):(bitsOf hi v n).length=n:=by simp[bitsOf]
end Go.Proofs
namespace Go.Proofs
open Go.Sh
theorem shl64{x k:Int}(h0:0≤x)(h1:x≤1099511627776)(k0:0≤k)(k1:k≤16):shlI .i64 x k=x*2^k.toNat:=by
 unfold shlI
 have hb:min k.toNat (IntKind.bits .i64)=k.toNat:=by
  have:IntKind.bits .i64=64:=rfl
  rw[this];omega
 rw[hb]
 have hp:(2:Int)^k.toNat≤65536:=by
  have h2:2^k.toNat≤2^16:=Nat.pow_le_pow_right (by omega) (by omega)
  have h3:((2^k.toNat:Nat):Int)=(2:Int)^k.toNat:=by simp
  have h4:(2:Nat)^16=65536:=rfl
  omega
 have hq:(0:Int)≤2^k.toNat:=Int.pow_nonneg (by omega)
 have hm:x*2^k.toNat≤1099511627776*65536:=Int.mul_le_mul h1 hp hq (by omega)
 have hm0:0≤x*2^k.toNat:=Int.mul_nonneg h0 hq
 exact wrap_id (by omega) (by omega)
theorem shr64{x k:Int}(k0:0≤k)(k1:k≤16):shrI .i64 x k=x/2^k.toNat:=by
 unfold shrI
 have hb:min k.toNat (IntKind.bits .i64)=k.toNat:=by
  have:IntKind.bits .i64=64:=rfl
  rw[this];omega
 rw[hb]
 exact Int.fdiv_eq_ediv_of_nonneg _ (Int.pow_nonneg (by omega))
def wt(n:Int):Int:=if n>0 then 2^(16-n).toNat else 0
def wtM(ls:List Int):Int:=(ls.map wt).sum
structure OkW(ls:List Int):Prop where
 len:ls.length≤300
 rng: ∀n∈ls,0≤n∧n≤16
theorem wt_rng{n:Int}(h:0≤n∧n≤16):0≤wt n∧wt n≤32768:=by
 unfold wt
 have:n=0∨n=1∨n=2∨n=3∨n=4∨n=5∨n=6∨n=7∨n=8∨n=9∨n=10∨n=11∨n=12∨n=13∨n=14∨n=15∨n=16:=by omega
 rcases this with h|h|h|h|h|h|h|h|h|h|h|h|h|h|h|h|h<;>subst h<;>decide
theorem wt_shr{n:Int}(h:0<n∧n≤16):shrI .i64 (65536:Int) n=wt n:=by
 have:n=1∨n=2∨n=3∨n=4∨n=5∨n=6∨n=7∨n=8∨n=9∨n=10∨n=11∨n=12∨n=13∨n=14∨n=15∨n=16:=by omega
 rcases this with h|h|h|h|h|h|h|h|h|h|h|h|h|h|h|h<;>subst h<;>decide
theorem wt_shl{n:Int}(h:0<n∧n≤16):shlI .i64 (1:Int) (16-n)=wt n:=by
 rw[shl64 (by omega) (by omega) (by omega) (by omega)]
 unfold wt
 rw[if_pos h.1]
 omega
theorem sum_append(a b:List Int):(a++b).sum=a.sum+b.sum:=by
 induction a with
 |nil=>simp
 |cons x r ih=>simp[ih];omega
theorem wtM_snoc(a:List Int)(n:Int):wtM (a++[n])=wtM a+wt n:=by unfold wtM;rw[List.map_append,sum_append];simp
theorem wtM_rng{ls:List Int}(h: ∀n∈ls,0≤n∧n≤16):0≤wtM ls∧wtM ls≤32768*ls.length:=by
 induction ls with
 |nil=>simp[wtM]
 |cons n r ih=>
  have h1:=wt_rng (h n List.mem_cons_self)
  have h2:=ih fun x hx=>h x (List.mem_cons_of_mem _ hx)
  unfold wtM at*
  simp only[List.map_cons,List.sum_cons,List.length_cons]
  omega
theorem c89{H:Heap}{p:Option Addr}{l c:Nat}{ls:List Int}(h:IS H p l (ints ls)){R:Value→Heap→Prop}(hbad: ¬OkW ls→R (.tuple #[.int .i64 0,.bool false]) H)(hgood:OkW ls→R (.tuple #[.int .i64 (wtM ls),.bool true]) H):
 CallsH Tryz.prog 89 #[.slice p l c] H R:=by
 have hl:ls.length=l:=by have:=h.len;rw[ints_len] at this;omega
 refine Tryz.s89 ?_
 unfold Tryz.S89
 refine br_dec (fun hb=>hbad fun ok=>by have:=ok.len;omega) (fun hb=>?_)
 intro X hX
 have loop: ∀(m s:Nat),l-s=m→s≤l→(∀n∈ls.take s,0≤n∧n≤16)→X [.int .i64 (wtM (ls.take s)),.int .i64 s] H:=by
  intro m
  induction m with
  |zero=>
   intro s hm hs rg
   rw[List.take_of_length_le (by omega)] at rg ⊢
   exact hX _ _ H (br_n (by omega) (hgood ⟨by omega,rg⟩))
  |succ m ih=>
   intro s hm hs rg
   have ws:IntKind.wrap .i64 ((s:Int)+1)=((s+1:Nat):Int):=by rw[wrap_id (by omega) (by omega)];omega
   have hsl:s<ls.length:=by omega
   have hv:ls[s]?=some ls[s]:=List.getElem?_eq_getElem hsl
   have htake:ls.take (s+1)=ls.take s++[ls[s]]:=List.take_succ_eq_append_getElem hsl
   have hmem:ls[s]∈ls:=List.getElem_mem hsl
   have hnx:=ih (s+1) (by omega) (by omega)
   rw[htake] at hnx
   generalize ls[s]=n at hv htake hmem hnx
   obtain⟨blk,hp,cv⟩:=h.cell (ints_get hv)
   have hw:=wtM_rng rg
   have htl:(ls.take s).length≤300:=by simp;omega
   refine hX _ _ H (br_y (by omega) ⟨_,hp,by omega,by omega,n,by simpa using cv,?_⟩)
   rw[ws]
   intro J hJ
   refine br_dec (fun hn=>hbad fun ok=>by have:=ok.rng n hmem;omega) (fun n0=>br_dec (fun hn=>hbad fun ok=>by have:=ok.rng n hmem;omega) (fun n16=>hJ H ?_))
   have rg': ∀x∈ls.take s++[n],0≤x∧x≤16:=fun x hx=>by
    rcases List.mem_append.1 hx with hx|hx
    ·exact rg x hx
    ·rw[List.mem_singleton] at hx;subst hx;omega
   have hwn:=wt_rng (n:=n) (by omega)
   have hnx:=hnx rg'
   rw[wtM_snoc] at hnx
   refine br_dec (fun hpos=>?_) (fun hz=>?_)
   ·have w1:IntKind.wrap .i64 ((16:Int)-n)=16-n:=wrap_id (by omega) (by omega)
    rw[w1,wt_shl (by omega),wrap_id (n:=wtM (ls.take s)+wt n) (by omega) (by omega)]
    exact⟨by omega,hnx⟩
   ·have:wt n=0:=by unfold wt;rw[if_neg hz]
    rw[this,Int.add_zero] at hnx
    exact hnx
 have:=loop l 0 (by omega) (by omega) (fun n hn=>by simp at hn)
 simpa[wtM] using this
theorem c111{H:Heap}{p:Option Addr}{l c:Nat}{ls:List Int}(h:IS H p l (ints ls)){R:Value→Heap→Prop}(hbad: ¬OkW ls→R (.tuple #[.int .i64 0,.bool false]) H)(hgood:OkW ls→R (.tuple #[.int .i64 (wtM ls),.bool true]) H):
 CallsH Tryz.prog 111 #[.slice p l c] H R:=by
 have hl:ls.length=l:=by have:=h.len;rw[ints_len] at this;omega
 refine Tryz.s111 ?_
 unfold Tryz.S111
 refine br_dec (fun hb=>hbad fun ok=>by have:=ok.len;omega) (fun hb=>?_)
 intro X hX
 have loop: ∀(m s:Nat),l-s=m→s≤l→(∀n∈ls.take s,0≤n∧n≤16)→X [.int .i64 (wtM (ls.take s)),.int .i64 s] H:=by
  intro m
  induction m with
  |zero=>
   intro s hm hs rg
   rw[List.take_of_length_le (by omega)] at rg ⊢
   exact hX _ _ H (br_n (by omega) (hgood ⟨by omega,rg⟩))
  |succ m ih=>
   intro s hm hs rg
   have ws:IntKind.wrap .i64 ((s:Int)+1)=((s+1:Nat):Int):=by rw[wrap_id (by omega) (by omega)];omega
   have hsl:s<ls.length:=by omega
   have hv:ls[s]?=some ls[s]:=List.getElem?_eq_getElem hsl
   have htake:ls.take (s+1)=ls.take s++[ls[s]]:=List.take_succ_eq_append_getElem hsl
   have hmem:ls[s]∈ls:=List.getElem_mem hsl
   have hnx:=ih (s+1) (by omega) (by omega)
   rw[htake] at hnx
   generalize ls[s]=n at hv htake hmem hnx
   obtain⟨blk,hp,cv⟩:=h.cell (ints_get hv)
   have hw:=wtM_rng rg
   have htl:(ls.take s).length≤300:=by simp;omega
   refine hX _ _ H (br_y (by omega) ?_)
   rw[ws]
   intro J hJ
   refine⟨_,hp,by omega,by omega,n,by simpa using cv,br_dec (fun hn=>hbad fun ok=>by have:=ok.rng n hmem;omega) (fun n0=>⟨_,hp,by omega,by omega,n,by simpa using cv,br_dec (fun hn=>hbad fun ok=>by have:=ok.rng n hmem;omega) (fun n16=>hJ H ?_)⟩)⟩
   have rg': ∀x∈ls.take s++[n],0≤x∧x≤16:=fun x hx=>by
    rcases List.mem_append.1 hx with hx|hx
    ·exact rg x hx
    ·rw[List.mem_singleton] at hx;subst hx;omega
   have hwn:=wt_rng (n:=n) (by omega)
   have hnx:=hnx rg'
   rw[wtM_snoc] at hnx
   refine⟨_,hp,by omega,by omega,n,by simpa using cv,br_dec (fun hpos=>⟨_,hp,by omega,by omega,n,by simpa using cv,by omega,?_⟩) (fun hz=>?_)⟩
   ·rw[wt_shr (by omega),wrap_id (n:=wtM (ls.take s)+wt n) (by omega) (by omega)]
    exact hnx
   ·have:wt n=0:=by unfold wt;rw[if_neg hz]
    rw[this,Int.add_zero] at hnx
    exact hnx
 have:=loop l 0 (by omega) (by omega) (fun n hn=>by simp at hn)
 simpa[wtM] using this
def rank(ls:List Int)(s n:Nat):Nat:=(ls.take s).countP (fun x=>x==(n:Int))
def cnt(ls:List Int)(n:Nat):Nat:=if n=0 then 0 else rank ls ls.length n
def base(ls:List Int):Nat→Int
 |0=>0
 |n+1=>2*(base ls n+cnt ls n)
def codeM(ls:List Int)(s:Nat):Int:=match ls[s]? with
 |some n=>if n>0 then base ls n.toNat+rank ls s n.toNat else 0
 |none=>0
def codesM(ls:List Int):List Int:=(List.range ls.length).map (codeM ls)
structure OkC(ls:List Int):Prop where
 w:OkW ls
 le:wtM ls≤65536
theorem rank_le(ls:List Int)(s n:Nat):rank ls s n≤ls.length:=Nat.le_trans List.countP_le_length (by simp;omega)
theorem cnt_le(ls:List Int)(n:Nat):cnt ls n≤ls.length:=by unfold cnt;split;omega;exact rank_le _ _ _
theorem base_rng(ls:List Int): ∀n,0≤base ls n∧base ls n≤ls.length*(2^(n+1)-2)
 |0=>by simp[base]
 |n+1=>by
  have ih:=base_rng ls n
  have hc:=cnt_le ls n
  have e:(2:Int)^(n+1+1)=2^(n+1)*2:=Int.pow_succ ..
  rw[e]
  show 0≤2*(base ls n+cnt ls n)∧2*(base ls n+cnt ls n)≤_
  generalize (2:Int)^(n+1)=z at*
  have e2:(ls.length:Int)*(z*2-2)=2*(ls.length*(z-2))+2*ls.length:=by
   rw[Int.mul_sub,Int.mul_sub,←Int.mul_assoc];omega
  rw[e2]
  omega
theorem base_small{ls:List Int}(hl:ls.length≤300){n:Nat}(hn:n≤16):0≤base ls n∧base ls n≤40000000:=by
 have h:=base_rng ls n
 have h2:2^(n+1)≤2^17:=Nat.pow_le_pow_right (by omega) (by omega)
 have h3:((2^(n+1):Nat):Int)=(2:Int)^(n+1):=by simp
 have h4:(2:Nat)^17=131072:=rfl
 have h5:(ls.length:Int)*(2^(n+1)-2)≤300*(2^(n+1)-2):=Int.mul_le_mul_of_nonneg_right (by omega) (by have:=Nat.one_le_two_pow (n:=n);have:(2:Nat)^(n+1)=2^n*2:=Nat.pow_succ ..;omega)
 omega
theorem rank_snoc{ls:List Int}{s:Nat}{v:Int}(h:ls[s]?=some v)(n:Nat):rank ls (s+1) n=rank ls s n+if v=(n:Int) then 1 else 0:=by
 obtain⟨hl,hv⟩:=List.getElem?_eq_some_iff.1 h
 unfold rank
 rw[List.take_succ_eq_append_getElem hl,List.countP_append,hv]
 by_cases hvn:v=(n:Int)<;>simp[hvn]
def partM(ls:List Int)(n s i:Nat):Int:=match ls[i]? with
 |some v=>if v>0∧(v<n∨(v=n∧i<s)) then codeM ls i else 0
 |none=>0
def partsM(ls:List Int)(n s:Nat):List Int:=(List.range ls.length).map (partM ls n s)
theorem partsM_set{ls:List Int}{n s:Nat}{v:Int}(h:ls[s]?=some v)(hv:v=(n:Int))(hn:0<n):(partsM ls n s).set s (codeM ls s)=partsM ls n (s+1):=by
 apply List.ext_getElem?
 intro i
 have hsl:=(List.getElem?_eq_some_iff.1 h).1
 have hpl:(partsM ls n s).length=ls.length:=by simp[partsM]
 rw[List.getElem?_set]
 by_cases hi:i<ls.length
 ·have e1:(partsM ls n (s+1))[i]?=some (partM ls n (s+1) i):=by simp[partsM,hi]
  have e0:(partsM ls n s)[i]?=some (partM ls n s i):=by simp[partsM,hi]
  rw[e1,e0]
  by_cases hsi:s=i
  ·subst hsi
   rw[if_pos rfl,if_pos (by omega)]
   unfold partM
   rw[h]
   simp only
   rw[if_pos ⟨by omega,by omega⟩]
  ·rw[if_neg hsi]
   unfold partM
   have hg:ls[i]?=some ls[i]:=List.getElem?_eq_getElem hi
   rw[hg]
   simp only
   by_cases hc:ls[i]>0∧(ls[i]<n∨(ls[i]=n∧i<s))
   ·rw[if_pos hc,if_pos ⟨hc.1,by omega⟩]
   ·rw[if_neg hc,if_neg fun hh=>hc ⟨hh.1,by omega⟩]
 ·rw[List.getElem?_eq_none_iff.2 (by simp[partsM];omega),List.getElem?_eq_none_iff.2 (by simp[partsM];omega),if_neg (by omega)]
theorem partsM_skip{ls:List Int}{n s:Nat}{v:Int}(h:ls[s]?=some v)(hv:v≠(n:Int)):partsM ls n s=partsM ls n (s+1):=by
 apply List.map_congr_left
 intro i hi
 unfold partM
 have hil:i<ls.length:=List.mem_range.1 hi
 have hg:ls[i]?=some ls[i]:=List.getElem?_eq_getElem hil
 rw[hg]
 simp only
 by_cases hsi:i=s
 ·subst hsi
  rw[hg] at h;cases h
  by_cases hc:ls[i]>0∧(ls[i]<n∨(ls[i]=n∧i<i))
  ·rw[if_pos hc,if_pos ⟨hc.1,by omega⟩]
  ·rw[if_neg hc,if_neg fun hh=>hc ⟨hh.1,by omega⟩]
 ·by_cases hc:ls[i]>0∧(ls[i]<n∨(ls[i]=n∧i<s))
  ·rw[if_pos hc,if_pos ⟨hc.1,by omega⟩]
  ·rw[if_neg hc,if_neg fun hh=>hc ⟨hh.1,by omega⟩]
theorem partsM_next(ls:List Int)(n:Nat):partsM ls n ls.length=partsM ls (n+1) 0:=by
 apply List.map_congr_left
 intro i hi
 unfold partM
 have hil:i<ls.length:=List.mem_range.1 hi
 have hg:ls[i]?=some ls[i]:=List.getElem?_eq_getElem hil
 rw[hg]
 simp only
 by_cases hc:ls[i]>0∧(ls[i]<n∨(ls[i]=n∧i<ls.length))
 ·rw[if_pos hc,if_pos ⟨hc.1,by omega⟩]
 ·rw[if_neg hc,if_neg fun hh=>hc ⟨hh.1,by omega⟩]
theorem partsM_first(ls:List Int):partsM ls 1 0=List.replicate ls.length 0:=by
 apply List.ext_getElem?
 intro i
 by_cases hi:i<ls.length
 ·simp only[partsM,List.getElem?_map,List.getElem?_range hi,Option.map_some,List.getElem?_replicate,if_pos hi]
  unfold partM
  have hg:ls[i]?=some ls[i]:=List.getElem?_eq_getElem hi
  rw[hg]
  simp only
  rw[if_neg (by omega)]
 ·rw[List.getElem?_eq_none_iff.2 (by simp[partsM];omega),List.getElem?_eq_none_iff.2 (by simp;omega)]
theorem partsM_last{ls:List Int}(h: ∀n∈ls,0≤n∧n≤16):partsM ls 17 0=codesM ls:=by
 apply List.map_congr_left
 intro i hi
 have hil:i<ls.length:=List.mem_range.1 hi
 have hg:ls[i]?=some ls[i]:=List.getElem?_eq_getElem hil
 have hr:=h _ (List.getElem_mem hil)
 unfold partM
 rw[hg]
 simp only
 by_cases hp:ls[i]>0
 ·rw[if_pos ⟨hp,by omega⟩]
 ·rw[if_neg (fun hh=>hp hh.1)]
  unfold codeM
  rw[hg]
  simp only
  rw[if_neg hp]
set_option maxHeartbeats 1000000 in
theorem c52{H:Heap}{p:Option Addr}{l c:Nat}{ls:List Int}(h:IS H p l (ints ls)){R:Value→Heap→Prop}(hbad: ¬OkC ls→R (.tuple #[.slice none 0 0,.bool false]) H)
 (hgood:OkC ls→ ∀H' b,FS H.size H' (some ⟨b,0,none⟩) l l 3 1 (ints (codesM ls))→Ext H H'→R (.tuple #[.slice (some ⟨b,0,none⟩) l l,.bool true]) H'):CallsH Tryz.prog 52 #[.slice p l c] H R:=by
 have hl:ls.length=l:=by have:=h.len;rw[ints_len] at this;omega
 refine Tryz.s52 ?_
 unfold Tryz.S52 alc
 refine c89 h (fun hn=>⟨_,_,rfl,fun J hJ=>br_t rfl (hbad fun ok=>hn ok.w)⟩) (fun okw=>⟨_,_,rfl,?_⟩)
 intro J hJ
 refine br_f rfl (br_dec (fun hgt=>hbad fun ok=>by have:=ok.le;omega) (fun hle=>hJ H ?_))
 have ok:OkC ls:=⟨okw,by omega⟩
 have l300:=okw.len
 rw[Int.toNat_natCast]
 refine⟨by omega,by omega,by omega,by omega,?_⟩
 have hb2:=get_push_self H (.cells (List.toArray (reps l [Value.int .i64 0])) 3)
 have e2:Ext H (H.push (.cells (List.toArray (reps l [Value.int .i64 0])) 3)):=Ext.push _ _
 have out2:FS H.size (H.push (.cells (List.toArray (reps l [Value.int .i64 0])) 3)) (some ⟨H.size,0,none⟩) l l 3 1 (ints (partsM ls 1 0)):=by
  rw[partsM_first,hl];exact zeros_FS (Nat.le_refl _) hb2
 generalize H.push (.cells (List.toArray (reps l [Value.int .i64 0])) 3)=H2 at e2 out2
 intro X hX
 have one:(0:Int)≤1:=by omega
 have levels: ∀(m n:Nat) (H3:Heap),17-n=m→1≤n→n≤17→Ext H H3→FS H.size H3 (some ⟨H.size,0,none⟩) l l 3 1 (ints (partsM ls n 0))→X [.int .i64 (base ls (n-1)+cnt ls (n-1)),.int .i64 n] H3:=by
  intro m
  induction m with
  |zero=>
   intro n H3 hm hn1 hn e3 f3
   have:n=17:=by omega
   subst this
   rw[partsM_last okw.rng] at f3
   exact hX _ _ H3 (br_n (by omega) (hgood ok H3 H.size f3 e3))
  |succ m ih=>
   intro n H3 hm hn1 hn e3 f3
   have wn:IntKind.wrap .i64 ((n:Int)+1)=((n+1:Nat):Int):=by rw[wrap_id (by omega) (by omega)];omega
   have hbs:=base_small l300 (n:=n-1) (by omega)
   have hcs:=cnt_le ls (n-1)
   have hbn:shlI .i64 (base ls (n-1)+cnt ls (n-1)) (1:Int)=base ls n:=by
    rw[shl64 (by omega) (by omega) (by omega) (by omega)]
    have:n=n-1+1:=by omega
    rw[this]
    show _=2*(base ls (n-1)+cnt ls (n-1))
    simp;omega
   refine hX _ _ H3 (br_y (by omega) ⟨one,?_⟩)
   rw[hbn,wn]
   intro Y hY
   have inner: ∀(m2 s:Nat) (H4:Heap),l-s=m2→s≤l→Ext H H4→FS H.size H4 (some ⟨H.size,0,none⟩) l l 3 1 (ints (partsM ls n s))→Y [.int .i64 (base ls n+rank ls s n),.int .i64 s] H4:=by
    intro m2
    induction m2 with
    |zero=>
     intro s H4 hm2 hs e4 f4
     have:s=ls.length:=by omega
     subst this
     refine hY _ _ H4 (br_n (by omega) ?_)
     rw[partsM_next] at f4
     have:=ih (n+1) H4 (by omega) (by omega) (by omega) e4 f4
     have hc:cnt ls (n+1-1)=rank ls ls.length n:=by rw[Nat.add_sub_cancel];unfold cnt;rw[if_neg (by omega)]
     rw[hc,Nat.add_sub_cancel] at this
     exact this
    |succ m2 ih2=>
     intro s H4 hm2 hs e4 f4
     have ws:IntKind.wrap .i64 ((s:Int)+1)=((s+1:Nat):Int):=by rw[wrap_id (by omega) (by omega)];omega
     have hsl:s<ls.length:=by omega
     have hv:ls[s]?=some ls[s]:=List.getElem?_eq_getElem hsl
     generalize ls[s]=v at hv
     obtain⟨blk,hp,cv⟩:=(h.ext e4).cell (ints_get hv)
     have hb:=base_small l300 (n:=n) (by omega)
     have hr:=rank_le ls s n
     have hrs:=rank_snoc hv n
     refine hY _ _ H4 (br_y (by omega) ⟨_,hp,by omega,by omega,v,by simpa using cv,br_eq (fun heq=>⟨_,rfl,by omega,by omega,?_⟩) (fun hne=>?_)⟩)
     ·rw[ws]
      simp only[add_none,Nat.zero_add,Nat.mul_one,Int.toNat_natCast]
      have hcode:base ls n+(rank ls s n:Int)=codeM ls s:=by
       unfold codeM
       rw[hv]
       simp only
       rw[if_pos (by omega),heq,Int.toNat_natCast]
      have hw:IntKind.wrap .i64 (base ls n+(rank ls s n:Int)+1)=base ls n+(rank ls (s+1) n:Int):=by
       rw[wrap_id (by omega) (by omega),hrs,if_pos heq];omega
      rw[hw]
      refine f4.set (by rw[ints_len];simp[partsM];omega) rfl fun H5 f5 hk5 hs5=>?_
      rw[ints_set,hcode,partsM_set hv heq (by omega)] at f5
      exact ih2 (s+1) H5 (by omega) (by omega) (fun b o hb=>hk5 b o (e4 b o hb) (by have:=lt_of_get hb;omega)) f5
     ·rw[ws]
      rw[partsM_skip hv hne] at f4
      have:=ih2 (s+1) H4 (by omega) (by omega) e4 f4
      rw[hrs,if_neg hne,Nat.add_zero] at this
      exact this
   have:=inner l 0 H3 (by omega) (by omega) e3 f3
   simpa[rank] using this
 have:=levels 16 1 H2 rfl (by omega) (by omega) e2 out2
 simpa[base,cnt] using this
set_option maxHeartbeats 1000000 in
theorem c93{H:Heap}{p:Option Addr}{l c:Nat}{ls:List Int}(h:IS H p l (ints ls)){R:Value→Heap→Prop}(hbad: ¬OkC ls→R (.tuple #[.slice none 0 0,.bool false]) H)
 (hgood:OkC ls→ ∀H' b,FS H.size H' (some ⟨b,0,none⟩) l l 3 1 (ints (codesM ls))→Ext H H'→R (.tuple #[.slice (some ⟨b,0,none⟩) l l,.bool true]) H'):CallsH Tryz.prog 93 #[.slice p l c] H R:=by
 have hl:ls.length=l:=by have:=h.len;rw[ints_len] at this;omega
 refine Tryz.s93 ?_
 unfold Tryz.S93 alc
 refine c111 h (fun hn=>⟨_,_,rfl,fun J hJ=>br_t rfl (hbad fun ok=>hn ok.w)⟩) (fun okw=>⟨_,_,rfl,?_⟩)
 intro J hJ
 refine br_f rfl (br_dec (fun hgt=>hbad fun ok=>by have:=ok.le;omega) (fun hle=>hJ H ?_))
 have ok:OkC ls:=⟨okw,by omega⟩
 have l300:=okw.len
 rw[Int.toNat_natCast]
 refine⟨by omega,by omega,by omega,by omega,?_⟩
 have hb2:=get_push_self H (.cells (List.toArray (reps l [Value.int .i64 0])) 3)
 have e2:Ext H (H.push (.cells (List.toArray (reps l [Value.int .i64 0])) 3)):=Ext.push _ _
 have out2:FS H.size (H.push (.cells (List.toArray (reps l [Value.int .i64 0])) 3)) (some ⟨H.size,0,none⟩) l l 3 1 (ints (partsM ls 1 0)):=by
  rw[partsM_first,hl];exact zeros_FS (Nat.le_refl _) hb2
 generalize H.push (.cells (List.toArray (reps l [Value.int .i64 0])) 3)=H2 at e2 out2
 intro X hX
 -- the code given last,and its length
 let Inv:Nat→Nat→Int→Nat→Prop:=fun n s code last=>(last=0∧code=0∧base ls n+rank ls s n=0)∨(1≤last∧last≤n∧0≤code∧(code+1)*2^(n-last)=base ls n+rank ls s n)
 have levels: ∀(m n:Nat) (H3:Heap) (code:Int) (last:Nat),17-n=m→1≤n→n≤17→Ext H H3→FS H.size H3 (some ⟨H.size,0,none⟩) l l 3 1 (ints (partsM ls n 0))→Inv n 0 code last→X [.int .i64 code,.int .i64 last,.int .i64 n] H3:=by
  intro m
  induction m with
  |zero=>
   intro n H3 code last hm hn1 hn e3 f3 hi
   have:n=17:=by omega
   subst this
   rw[partsM_last okw.rng] at f3
   exact hX _ _ _ H3 (br_n (by omega) (hgood ok H3 H.size f3 e3))
  |succ m ih=>
   intro n H3 code last hm hn1 hn e3 f3 hi
   have wn:IntKind.wrap .i64 ((n:Int)+1)=((n+1:Nat):Int):=by rw[wrap_id (by omega) (by omega)];omega
   have hb:=base_small l300 (n:=n) (by omega)
   refine hX _ _ _ H3 (br_y (by omega) ?_)
   rw[wn]
   intro Y hY
   have inner: ∀(m2 s:Nat) (H4:Heap) (code:Int) (last:Nat),l-s=m2→s≤l→Ext H H4→FS H.size H4 (some ⟨H.size,0,none⟩) l l 3 1 (ints (partsM ls n s))→Inv n s code last→Y [.int .i64 code,.int .i64 last,.int .i64 s] H4:=by
    intro m2
    induction m2 with
    |zero=>
     intro s H4 code last hm2 hs e4 f4 hi
     have:s=ls.length:=by omega
     subst this
     refine hY _ _ _ H4 (br_n (by omega) ?_)
     rw[partsM_next] at f4
     refine ih (n+1) H4 code last (by omega) (by omega) (by omega) e4 f4 ?_
     have hc:base ls (n+1)=2*(base ls n+rank ls ls.length n):=by
      show 2*(base ls n+cnt ls n)=_
      unfold cnt;rw[if_neg (by omega)]
     have hr0:rank ls 0 (n+1)=0:=by simp[rank]
     rcases hi with ⟨a1,a2,a3⟩|⟨a1,a2,a3,a4⟩
     ·exact .inl ⟨a1,a2,by rw[hc,hr0];omega⟩
     ·refine .inr ⟨a1,by omega,a3,?_⟩
      have e:n+1-last=n-last+1:=by omega
      rw[hc,hr0,←a4,e,Int.pow_succ,←Int.mul_assoc]
      omega
    |succ m2 ih2=>
     intro s H4 code last hm2 hs e4 f4 hi
     have ws:IntKind.wrap .i64 ((s:Int)+1)=((s+1:Nat):Int):=by rw[wrap_id (by omega) (by omega)];omega
     have hsl:s<ls.length:=by omega
     have hv:ls[s]?=some ls[s]:=List.getElem?_eq_getElem hsl
     generalize ls[s]=v at hv
     obtain⟨blk,hp,cv⟩:=(h.ext e4).cell (ints_get hv)
     have hr:=rank_le ls s n
     have hrs:=rank_snoc hv n
     refine hY _ _ _ H4 (br_y (by omega) ⟨_,hp,by omega,by omega,v,by simpa using cv,br_ne (fun hne=>?_) (fun heq=>?_)⟩)
     ·rw[ws]
      rw[partsM_skip hv hne] at f4
      refine ih2 (s+1) H4 code last (by omega) (by omega) e4 f4 ?_
      show(_∧_∧base ls n+(rank ls (s+1) n:Int)=0)∨(_∧_∧_∧_=base ls n+(rank ls (s+1) n:Int))
      rw[hrs,if_neg hne,Nat.add_zero]
      exact hi
     ·intro J2 hJ2
      have hcode:base ls n+(rank ls s n:Int)=codeM ls s:=by
       unfold codeM
       rw[hv]
       simp only
       rw[if_pos (by omega),heq,Int.toNat_natCast]
      have go:J2 [.int .i64 (base ls n+(rank ls s n:Int))] H4:=by
       refine hJ2 _ H4 ⟨_,rfl,by omega,by omega,?_⟩
       rw[ws]
       simp only[add_none,Nat.zero_add,Nat.mul_one,Int.toNat_natCast]
       refine f4.set (by rw[ints_len];simp[partsM];omega) rfl fun H5 f5 hk5 hs5=>?_
       rw[ints_set,hcode,partsM_set hv heq (by omega)] at f5
       refine ih2 (s+1) H5 _ n (by omega) (by omega) (fun b o hb=>hk5 b o (e4 b o hb) (by have:=lt_of_get hb;omega)) f5 (.inr ⟨hn1,Nat.le_refl _,by omega,?_⟩)
       rw[hrs,if_pos heq,Nat.sub_self]
       simp;omega
      rcases hi with ⟨a1,a2,a3⟩|⟨a1,a2,a3,a4⟩
      ·refine br_n (by omega) ?_
       rw[a2,←a3];exact go
      ·refine br_y (by omega) ?_
       have w1:IntKind.wrap .i64 ((n:Int)-last)=((n-last:Nat):Int):=by rw[wrap_id (by omega) (by omega)];omega
       have p1:(1:Int)≤2^(n-last):=Int.pow_pos (by omega)
       have hcb:code+1≤(code+1)*2^(n-last):=by
        have:=Int.mul_le_mul_of_nonneg_left p1 (show 0≤code+1 by omega)
        omega
       have w2:IntKind.wrap .i64 (code+1)=code+1:=wrap_id (by omega) (by omega)
       rw[w1,w2,shl64 (by omega) (by omega) (by omega) (by omega),Int.toNat_natCast,a4]
       exact⟨by omega,go⟩
   exact inner l 0 H3 code last (by omega) (by omega) e3 f3 hi
 exact levels 16 1 H2 0 0 rfl (by omega) (by omega) e2 out2 (.inl ⟨rfl,rfl,by simp[base,cnt,rank]⟩)
end Go.Proofs
namespace Go.Proofs
open Go.Sh
def W(ls:List Int):Nat→Int
 |0=>0
 |n+1=>W ls n+(rank ls ls.length (n+1):Int)*2^(16-(n+1))
theorem rank_all_cons(n:Int)(r:List Int)(k:Nat):(rank (n::r) (n::r).length k:Int)=rank r r.length k+if n=(k:Int) then 1 else 0:=by
 unfold rank
 rw[List.take_length,List.take_length,List.countP_cons]
 by_cases h:n=(k:Int)<;>simp[h]
theorem W_cons(n:Int)(r:List Int)(h0:0≤n): ∀m:Nat,W (n::r) m=W r m+if 1≤n∧n≤(m:Int) then 2^(16-n.toNat) else 0
 |0=>by
  simp only[W]
  rw[if_neg (by omega)];rfl
 |m+1=>by
  simp only[W]
  rw[W_cons n r h0 m,rank_all_cons,Int.add_mul]
  by_cases hn:n=((m+1:Nat):Int)
  ·rw[if_neg (by omega),if_pos hn,if_pos (by omega)]
   have:n.toNat=m+1:=by omega
   rw[this];omega
  ·rw[if_neg hn]
   by_cases h:1≤n∧n≤(m:Int)
   ·rw[if_pos h,if_pos (by omega)];omega
   ·rw[if_neg h,if_neg (by omega)];omega
theorem W_all{ls:List Int}(h: ∀n∈ls,0≤n∧n≤16):W ls 16=wtM ls:=by
 induction ls with
 |nil=>simp[W,wtM,rank]
 |cons n r ih=>
  have hn:=h n List.mem_cons_self
  rw[W_cons n r hn.1,ih fun x hx=>h x (List.mem_cons_of_mem _ hx)]
  unfold wtM
  simp only[List.map_cons,List.sum_cons]
  unfold wt
  by_cases hp:n>0
  ·rw[if_pos (by omega),if_pos hp]
   have:(16-n).toNat=16-n.toNat:=by omega
   rw[this];omega
  ·rw[if_neg (by omega),if_neg hp];omega
theorem W_mono(ls:List Int){m n:Nat}(h:m≤n):W ls m≤W ls n:=by
 induction n with
 |zero=>
  have:m=0:=by omega
  subst this;exact Int.le_refl _
 |succ n ih=>
  by_cases hm:m=n+1
  ·subst hm;exact Int.le_refl _
  ·have:=ih (by omega)
   have h2:0≤(rank ls ls.length (n+1):Int)*2^(16-(n+1)):=Int.mul_nonneg (by omega) (Int.pow_nonneg (by omega))
   simp only[W]
   omega
theorem base_W(ls:List Int): ∀n:Nat,n≤16→(base ls n+cnt ls n)*2^(16-n)=W ls n
 |0,_=>by simp[base,cnt,W]
 |n+1,h=>by
  have ih:=base_W ls n (by omega)
  have hc:cnt ls (n+1)=rank ls ls.length (n+1):=by unfold cnt;rw[if_neg (by omega)]
  have e:16-n=16-(n+1)+1:=by omega
  rw[e,Int.pow_succ] at ih
  simp only[W,base]
  rw[hc,Int.add_mul,←ih]
  generalize (2:Int)^(16-(n+1))=z
  rw[Int.mul_comm z 2,←Int.mul_assoc,Int.mul_comm (base ls n+(cnt ls n:Int)) 2]
theorem pow_split{n:Nat}(h:n≤16):(65536:Int)=2^n*2^(16-n):=by
 rw[←Int.pow_add]
 have:n+(16-n)=16:=by omega
 rw[this];decide
theorem base_cnt_le{ls:List Int}(ok:OkC ls){n:Nat}(hn:n≤16):base ls n+cnt ls n≤2^n:=by
 have h1:=base_W ls n hn
 have h2:=W_mono ls hn
 rw[W_all ok.w.rng] at h2
 have h3:=ok.le
 have h4:=pow_split hn
 have hp:(0:Int)<2^(16-n):=Int.pow_pos (by omega)
 rw[←h1] at h2
 have:(base ls n+cnt ls n)*2^(16-n)≤2^n*2^(16-n):=by omega
 exact Int.le_of_mul_le_mul_right this hp
theorem rank_mono(ls:List Int)(n:Nat){i j:Nat}(h:i≤j):rank ls i n≤rank ls j n:=by
 unfold rank
 have:(ls.take i)=(ls.take j).take i:=by rw[List.take_take];congr 1;omega
 rw[this]
 exact List.Sublist.countP_le (List.take_sublist _ _)
theorem rank_lt{ls:List Int}{i j n:Nat}(hi:ls[i]?=some (n:Int))(h:i<j):rank ls i n<rank ls j n:=by
 have h1:=rank_snoc hi n
 rw[if_pos rfl] at h1
 have:=rank_mono ls n (show i+1≤j by omega)
 omega
theorem rank_lt_cnt{ls:List Int}{i n:Nat}(hi:ls[i]?=some (n:Int))(hn:0<n):rank ls i n<cnt ls n:=by
 unfold cnt
 rw[if_neg (by omega)]
 exact rank_lt hi (List.getElem?_eq_some_iff.1 hi).1
theorem codeM_pos{ls:List Int}{i n:Nat}(hi:ls[i]?=some (n:Int))(hn:0<n):codeM ls i=base ls n+rank ls i n:=by
 unfold codeM
 rw[hi]
 simp only
 rw[if_pos (by omega),Int.toNat_natCast]
theorem code_rng{ls:List Int}(ok:OkC ls){i n:Nat}(hi:ls[i]?=some (n:Int))(hn:0<n):0≤codeM ls i∧codeM ls i<2^n:=by
 have hr:=ok.w.rng _ (List.mem_of_getElem? hi)
 have h1:=base_cnt_le ok (n:=n) (by omega)
 have h2:=rank_lt_cnt hi hn
 have h3:=(base_rng ls n).1
 rw[codeM_pos hi hn]
 omega
theorem base_later{ls:List Int}{n:Nat}(hn:0<n): ∀d:Nat,0<d→(base ls n+cnt ls n)*2^d≤base ls (n+d)
 |0,h=>by omega
 |1,_=>by
  show _≤2*(base ls n+cnt ls n)
  simp;omega
 |d+2,_=>by
  have ih:=base_later (ls:=ls) hn (d+1) (by omega)
  have e:n+(d+2)=n+(d+1)+1:=by omega
  rw[e,Int.pow_succ,←Int.mul_assoc]
  show _≤2*(base ls (n+(d+1))+cnt ls (n+(d+1)))
  omega
theorem no_prefix{ls:List Int}(ok:OkC ls){i j n m:Nat}(hij:i≠j)(hi:ls[i]?=some (n:Int))(hj:ls[j]?=some (m:Int))(hn:0<n)(hnm:n≤m):codeM ls j/2^(m-n)≠codeM ls i:=by
 intro he
 have ci:=codeM_pos hi hn
 have cj:=codeM_pos hj (by omega)
 have ri:=rank_lt_cnt hi hn
 by_cases h:m=n
 ·subst h
  rw[Nat.sub_self,Int.pow_zero,Int.ediv_one,ci,cj] at he
  rcases Nat.lt_or_ge i j with h|h
  ·have:=rank_lt hi h;omega
  ·have:=rank_lt hj (show j<i by omega);omega
 ·have hb:=base_later (ls:=ls) hn (m-n) (by omega)
  have e:n+(m-n)=m:=by omega
  rw[e] at hb
  have hp:(0:Int)<2^(m-n):=Int.pow_pos (by omega)
  have h1:base ls n+cnt ls n≤codeM ls j/2^(m-n):=by
   refine(Int.le_ediv_iff_mul_le hp).2 ?_
   rw[cj];omega
  rw[he,ci] at h1
  omega
theorem codesM_get{ls:List Int}{i:Nat}(hi:i<ls.length):(codesM ls)[i]?=some (codeM ls i):=by simp[codesM,hi]
end Go.Proofs
namespace Go.Proofs
open Go.Sh
theorem andI_one(a:Int):andI .i64 a (1:Int)=a%2:=by
 unfold andI
 have hb:IntKind.bits .i64=64:=rfl
 rw[hb,BitVec.toNat_and,BitVec.toNat_ofInt,BitVec.toNat_ofInt]
 have h1:((1:Int)%((2^64:Nat):Int)).toNat=1:=by decide
 rw[h1,Nat.and_one_is_mod]
 have h2:(((a%((2^64:Nat):Int)).toNat%2:Nat):Int)=a%2:=by
  have e:((2^64:Nat):Int)=18446744073709551616:=by decide
  rw[e];omega
 rw[h2]
 exact wrap_id (by omega) (by omega)
structure Trie(ls:List Int)(Ins Beg:Nat→Prop)(P:List (Nat×Int))(F:List Int):Prop where
 len:F.length=P.length*2
 root:P[0]?=some (0,0)
 inj: ∀(i j:Nat) (x:Nat×Int),P[i]?=some x→P[j]?=some x→i=j
 up: ∀(k n:Nat) (v:Int) (b:Nat) (x:Int),P[k]?=some (n,v)→b<2→F[k*2+b]?=some x→0<x→P[x.toNat]?=some (n+1,2*v+b)
 sy: ∀(k n:Nat) (v:Int) (b:Nat) (x:Int),P[k]?=some (n,v)→b<2→F[k*2+b]?=some x→x<0→ ∃s:Nat,Ins s∧x= -1-(s:Int)∧ls[s]?=some ((n+1:Nat):Int)∧codeM ls s=2*v+b
 no: ∀(k n:Nat) (v:Int) (b:Nat),P[k]?=some (n,v)→b<2→F[k*2+b]?=some 0→(∀j:Nat,P[j]?≠some (n+1,2*v+b))∧ ∀s:Nat,Ins s→ls[s]?=some ((n+1:Nat):Int)→codeM ls s≠2*v+b
 par: ∀(k n:Nat) (v:Int),P[k]?=some (n+1,v)→ ∃j:Nat,P[j]?=some (n,v/2)
 ins: ∀(s n:Nat),Ins s→ls[s]?=some (n:Int)→0<n→ ∀j,j<n→ ∃k:Nat,P[k]?=some (j,codeM ls s/2^(n-j))
 beg: ∀(k n:Nat) (v:Int),P[k]?=some (n,v)→0<n→ ∃s m:Nat,Beg s∧ls[s]?=some (m:Int)∧n<m∧codeM ls s/2^(m-n)=v
section
variable {ls:List Int} {Ins Beg:Nat→Prop} {P:List (Nat×Int)} {F:List Int}
theorem Trie.get(t:Trie ls Ins Beg P F){k:Nat}{y:Nat×Int}(h:P[k]?=some y){b:Nat}(hb:b<2): ∃x,F[k*2+b]?=some x:=by
 have:=(List.getElem?_eq_some_iff.1 h).1
 have:=t.len
 exact⟨_,List.getElem?_eq_getElem (by omega)⟩
theorem half_bit(v:Int)(b:Nat)(hb:b<2):(2*v+b)/2=v∧(2*v+b)%2=b:=by omega
theorem div_two_pow(c:Int)(d:Nat):c/2^(d+1)=c/2^d/2:=by
 rw[Int.pow_succ,Int.ediv_ediv_of_nonneg (Int.pow_nonneg (by omega))]
theorem Trie.step(t:Trie ls Ins Beg P F)(ok:OkC ls)(hb: ∀s,Beg s→s<ls.length){k n:Nat}{v x:Int}{b:Nat}(hk:P[k]?=some (n,v))(hb2:b<2)(hx:F[k*2+b]?=some x):
 (∀s:Nat,Ins s→ls[s]?=some ((n+1:Nat):Int)→codeM ls s=2*v+b→x= -1-(s:Int))∧
 (∀s m:Nat,Ins s→ls[s]?=some (m:Int)→n+1<m→codeM ls s/2^(m-(n+1))=2*v+b→0<x∧P[x.toNat]?=some (n+1,2*v+b)):=by
 have noBeg: ∀(s m s':Nat),ls[s]?=some (m:Int)→0<m→s≠s'→ ∀m':Nat,ls[s']?=some (m':Int)→m≤m'→codeM ls s'/2^(m'-m)≠codeM ls s:=fun s m s' h1 h2 h3 m' h4 h5=>no_prefix ok h3 h1 h4 h2 h5
 refine⟨fun s hs hl hc=>?_,fun s m hs hl hm hc=>?_⟩
 ·rcases Int.lt_trichotomy x 0 with h|h|h
  ·obtain⟨s',i',e,l',c'⟩:=t.sy k n v b x hk hb2 hx h
   by_cases hss:s=s'
   ·rw[hss];exact e
   ·have:=noBeg s (n+1) s' hl (by omega) hss (n+1) l' (Nat.le_refl _)
    rw[Nat.sub_self,Int.pow_zero,Int.ediv_one,hc,c'] at this
    exact absurd rfl this
  ·subst h
   exact absurd hc ((t.no k n v b hk hb2 hx).2 s hs hl)
  ·have hp:=t.up k n v b x hk hb2 hx h
   obtain⟨s',m',_,l',hm',c'⟩:=t.beg _ _ _ hp (by omega)
   have hss:s≠s':=fun hh=>by subst hh;rw[hl] at l';have:=Option.some.inj l';omega
   have:=noBeg s (n+1) s' hl (by omega) hss m' l' (by omega)
   rw[c',hc] at this
   exact absurd rfl this
 ·obtain⟨k',hk'⟩:=t.ins s m hs hl (by omega) (n+1) hm
  rw[hc] at hk'
  rcases Int.lt_trichotomy x 0 with h|h|h
  ·obtain⟨s',i',e,l',c'⟩:=t.sy k n v b x hk hb2 hx h
   have hss:s'≠s:=fun hh=>by subst hh;rw[hl] at l';have:=Option.some.inj l';omega
   have:=noBeg s' (n+1) s l' (by omega) hss m hl (by omega)
   rw[hc,c'] at this
   exact absurd rfl this
  ·subst h
   exact absurd hk' ((t.no k n v b hk hb2 hx).1 k')
  ·exact⟨h,t.up k n v b x hk hb2 hx h⟩
theorem Trie.leaf(t:Trie ls Ins Beg P F)(ok:OkC ls){s n:Nat}(hl:ls[s]?=some ((n+1:Nat):Int))(hs:Beg s)(hns: ¬Ins s){k:Nat}(hk:P[k]?=some (n,codeM ls s/2))(hib: ∀i,Ins i→Beg i)
 (path: ∀j,j≤n→ ∃k:Nat,P[k]?=some (j,codeM ls s/2^(n+1-j))):
 Trie ls (fun i=>Ins i∨i=s) Beg P (F.set (k*2+(codeM ls s%2).toNat) (-1-(s:Int))):=by
 have hb2:(codeM ls s%2).toNat<2:=by omega
 have hcode:2*(codeM ls s/2)+((codeM ls s%2).toNat:Int)=codeM ls s:=by omega
 obtain⟨x,hx⟩:=t.get hk hb2
 have hx0:x=0:=by
  rcases Int.lt_trichotomy x 0 with h|h|h
  ·obtain⟨s',i',e,l',c'⟩:=t.sy _ _ _ _ _ hk hb2 hx h
   rw[hcode] at c'
   have hss:s≠s':=fun hh=>by subst hh;exact hns i'
   have:=no_prefix ok hss hl l' (by omega) (Nat.le_refl _)
   rw[Nat.sub_self,Int.pow_zero,Int.ediv_one,c'] at this
   exact absurd rfl this
  ·exact h
  ·have hp:=t.up _ _ _ _ _ hk hb2 hx h
   rw[hcode] at hp
   obtain⟨s',m',_,l',hm',c'⟩:=t.beg _ _ _ hp (by omega)
   have hss:s≠s':=fun hh=>by subst hh;rw[hl] at l';have:=Option.some.inj l';omega
   exact absurd c' (no_prefix ok hss hl l' (by omega) (by omega))
 subst hx0
 have hkl:=(List.getElem?_eq_some_iff.1 hx).1
 have get: ∀(k' b:Nat) (y:Int),b<2→(F.set (k*2+(codeM ls s%2).toNat) (-1-(s:Int)))[k'*2+b]?=some y→(k'=k∧b=(codeM ls s%2).toNat∧y= -1-(s:Int))∨(¬(k'=k∧b=(codeM ls s%2).toNat)∧F[k'*2+b]?=some y):=fun k' b y hb hy=>by
  rw[List.getElem?_set] at hy
  split at hy
  ·rename_i he
   left
   first
    |(cases hy;exact⟨by omega,by omega,rfl⟩)
    |(
     split at hy
     ·cases hy;exact⟨by omega,by omega,rfl⟩
     ·cases hy)
  ·rename_i he
   exact .inr ⟨fun hh=>he (by rw[hh.1,hh.2]),hy⟩
 refine⟨by rw[List.length_set];exact t.len,t.root,t.inj,fun k' n' v b y h1 h2 h3 h4=>?_,fun k' n' v b y h1 h2 h3 h4=>?_,fun k' n' v b h1 h2 h3=>?_,t.par,fun i m h1 h2 h3 j hj=>?_,t.beg⟩
 ·rcases get k' b y h2 h3 with ⟨_,_,rfl⟩|⟨_,h⟩
  ·omega
  ·exact t.up k' n' v b y h1 h2 h h4
 ·rcases get k' b y h2 h3 with ⟨rfl,rfl,rfl⟩|⟨_,h⟩
  ·rw[hk] at h1;cases h1
   exact⟨s,.inr rfl,rfl,hl,hcode.symm⟩
  ·obtain⟨s',a,b',c⟩:=t.sy k' n' v b y h1 h2 h h4
   exact⟨s',.inl a,b',c⟩
 ·rcases get k' b 0 h2 h3 with ⟨rfl,rfl,h⟩|⟨hne,h⟩
  ·omega
  ·obtain⟨a,c⟩:=t.no k' n' v b h1 h2 h
   refine⟨a,fun i hi hli hci=>?_⟩
   rcases hi with hi|rfl
   ·exact c i hi hli hci
   ·rw[hl] at hli
    have hnn:n=n':=by have:=Option.some.inj hli;omega
    subst hnn
    have hv:codeM ls i/2=v:=by rw[hci];exact(half_bit v b h2).1
    rw[hv] at hk
    have:=t.inj _ _ _ hk h1
    subst this
    refine hne ⟨rfl,?_⟩
    rw[hci,(half_bit v b h2).2];omega
 ·rcases h1 with h1|rfl
  ·exact t.ins i m h1 h2 h3 j hj
  ·rw[hl] at h2
   have hm:n+1=m:=by have:=Option.some.inj h2;omega
   subst hm
   exact path j (by omega)
theorem Trie.node(t:Trie ls Ins Beg P F)(ok:OkC ls){s m n:Nat}{v:Int}{b:Nat}(hl:ls[s]?=some (m:Int))(hs:Beg s)(hk0:n+1<m){k:Nat}(hk:P[k]?=some (n,v))(hb2:b<2)(hcode:codeM ls s/2^(m-(n+1))=2*v+b)
 (hx:F[k*2+b]?=some 0):Trie ls Ins Beg (P++[(n+1,2*v+b)]) ((F++[0,0]).set (k*2+b) P.length):=by
 have hF:=t.len
 have hkl:=(List.getElem?_eq_some_iff.1 hk).1
 obtain⟨hno1,hno2⟩:=t.no k n v b hk hb2 hx
 have pg: ∀(i:Nat) y,(P++[(n+1,2*v+b)])[i]?=some y→(P[i]?=some y)∨(i=P.length∧y=(n+1,2*v+b)):=fun i y hy=>by
  by_cases hi:i<P.length
  ·rw[List.getElem?_append_left hi] at hy;exact .inl hy
  ·rw[List.getElem?_append_right (by omega)] at hy
   have hlt:=(List.getElem?_eq_some_iff.1 hy).1
   have:i-P.length=0:=by simpa using hlt
   rw[this] at hy
   simp at hy
   exact .inr ⟨by omega,hy.symm⟩
 have pk: ∀{i:Nat} {y:Nat×Int},P[i]?=some y→(P++[(n+1,2*v+b)])[i]?=some y:=fun{i y} hy=>by
  rw[List.getElem?_append_left (List.getElem?_eq_some_iff.1 hy).1];exact hy
 have pnew:(P++[(n+1,2*v+b)])[P.length]?=some (n+1,2*v+b):=by simp
 have get: ∀(k' b':Nat) (y:Int),b'<2→((F++[0,0]).set (k*2+b) (P.length:Int))[k'*2+b']?=some y→(k'=k∧b'=b∧y=P.length)∨(k'=P.length∧y=0)∨(¬(k'=k∧b'=b)∧F[k'*2+b']?=some y):=fun k' b' y hb hy=>by
  rw[List.getElem?_set] at hy
  split at hy
  ·rename_i he
   left
   first
    |(cases hy;exact⟨by omega,by omega,rfl⟩)
    |(
     split at hy
     ·cases hy;exact⟨by omega,by omega,rfl⟩
     ·cases hy)
  ·rename_i he
   by_cases hlt:k'*2+b'<F.length
   ·rw[List.getElem?_append_left hlt] at hy
    exact .inr (.inr ⟨fun hh=>he (by rw[hh.1,hh.2]),hy⟩)
   ·rw[List.getElem?_append_right (by omega)] at hy
    have hlt2:=(List.getElem?_eq_some_iff.1 hy).1
    simp at hlt2
    refine .inr (.inl ⟨by omega,?_⟩)
    have:k'*2+b'-F.length=0∨k'*2+b'-F.length=1:=by omega
    rcases this with h|h<;>(rw[h] at hy;simp at hy;exact hy.symm)
 -- nothing is below the new node yet
 have below: ∀(w:Int) (b':Nat),b'<2→w=2*v+b→ ∀j:Nat,P[j]?≠some (n+1+1,2*w+b'):=fun w b' hb' hw j hj=>by
  obtain⟨j',hj'⟩:=t.par j (n+1) _ hj
  rw[(half_bit w b' hb').1,hw] at hj'
  exact hno1 j' hj'
 refine⟨by simp;omega,pk t.root,fun i j y h1 h2=>?_,fun k' n' v' b' y h1 h2 h3 h4=>?_,fun k' n' v' b' y h1 h2 h3 h4=>?_,fun k' n' v' b' h1 h2 h3=>?_,fun k' n' v' h1=>?_,fun i m' h1 h2 h3 j hj=>?_,fun k' n' v' h1 h2=>?_⟩
 ·rcases pg i y h1 with h1|⟨e1,y1⟩
  ·rcases pg j y h2 with h2|⟨e2,y2⟩
   ·exact t.inj i j y h1 h2
   ·rw[y2] at h1;exact absurd h1 (hno1 i)
  ·rcases pg j y h2 with h2|⟨e2,y2⟩
   ·rw[y1] at h2;exact absurd h2 (hno1 j)
   ·omega
 ·rcases get k' b' y h2 h3 with ⟨rfl,rfl,rfl⟩|⟨rfl,rfl⟩|⟨_,h⟩
  ·rw[pk hk] at h1;cases h1
   rw[Int.toNat_natCast];exact pnew
  ·omega
  ·rcases pg k' _ h1 with h1|⟨e,_⟩
   ·exact pk (t.up k' n' v' b' y h1 h2 h h4)
   ·have:=(List.getElem?_eq_some_iff.1 h).1;omega
 ·rcases get k' b' y h2 h3 with ⟨rfl,rfl,rfl⟩|⟨rfl,rfl⟩|⟨_,h⟩
  ·omega
  ·omega
  ·rcases pg k' _ h1 with h1|⟨e,_⟩
   ·exact t.sy k' n' v' b' y h1 h2 h h4
   ·have:=(List.getElem?_eq_some_iff.1 h).1;omega
 ·rcases get k' b' 0 h2 h3 with ⟨rfl,rfl,h⟩|⟨rfl,_⟩|⟨hne,h⟩
  ·omega
  ·rw[pnew] at h1;cases h1
   refine⟨fun j hj=>?_,fun i hi hli hci=>?_⟩
   ·rcases pg j _ hj with hj|⟨_,he⟩
    ·exact below _ b' h2 rfl j hj
    ·cases he
   ·obtain⟨k2,hk2⟩:=t.ins i (n+1+1) hi hli (by omega) (n+1) (by omega)
    have e:n+1+1-(n+1)=1:=by omega
    rw[e,Int.pow_one,hci,(half_bit _ b' h2).1] at hk2
    exact hno1 k2 hk2
  ·rcases pg k' _ h1 with h1|⟨e,_⟩
   ·obtain⟨a,c⟩:=t.no k' n' v' b' h1 h2 h
    refine⟨fun j hj=>?_,c⟩
    rcases pg j _ hj with hj|⟨_,he⟩
    ·exact a j hj
    ·rw[Prod.mk.injEq] at he
     have hv:v'=v∧b'=b:=by omega
     have hn:n'=n:=by omega
     rw[hn,hv.1] at h1
     exact hne ⟨t.inj _ _ _ h1 hk,hv.2⟩
   ·have:=(List.getElem?_eq_some_iff.1 h).1;omega
 ·rcases pg k' _ h1 with h1|⟨_,he⟩
  ·obtain⟨j,hj⟩:=t.par k' n' v' h1;exact⟨j,pk hj⟩
  ·rw[Prod.mk.injEq] at he
   refine⟨k,?_⟩
   rw[he.2,(half_bit v b hb2).1]
   have:n'=n:=by omega
   rw[this];exact pk hk
 ·obtain⟨k',hk'⟩:=t.ins i m' h1 h2 h3 j hj
  exact⟨k',pk hk'⟩
 ·rcases pg k' _ h1 with h1|⟨_,he⟩
  ·exact t.beg k' n' v' h1 h2
  ·rw[Prod.mk.injEq] at he
   exact⟨s,m,hs,hl,by omega,by rw[he.1,he.2];exact hcode⟩
theorem Trie.first(ls:List Int)(Beg:Nat→Prop):Trie ls (fun _=>False) Beg [(0,0)] [0,0]:=by
 have one: ∀{k:Nat} {y:Nat×Int},[((0:Nat),(0:Int))][k]?=some y→k=0∧y=(0,0):=fun{k y} h=>by
  cases k with
  |zero=>simp at h;exact⟨rfl,h.symm⟩
  |succ k=>simp at h
 have zz: ∀{k b:Nat} {y:Int},k=0→b<2→([0,0]:List Int)[k*2+b]?=some y→y=0:=fun{k b y} hk hb h=>by
  subst hk
  have:b=0∨b=1:=by omega
  rcases this with rfl|rfl<;>(simp at h;exact h.symm)
 refine⟨rfl,rfl,fun i j x h1 h2=>by rw[(one h1).1,(one h2).1],fun k n v b x h1 h2 h3 h4=>?_,fun k n v b x h1 h2 h3 h4=>?_,fun k n v b h1 h2 h3=>⟨fun j hj=>?_,fun s hs=>hs.elim⟩,fun k n v h1=>?_,fun s n hs=>hs.elim,fun k n v h1 h2=>?_⟩
 ·have:=zz (one h1).1 h2 h3;omega
 ·have:=zz (one h1).1 h2 h3;omega
 ·have:=(one hj).2;simp at this
 ·have:=(one h1).2;simp at this
 ·have:=(one h1).2;rw[Prod.mk.injEq] at this;omega
theorem Trie.mono{Ins' Beg':Nat→Prop}(t:Trie ls Ins Beg P F)(h1: ∀s,Ins s↔Ins' s)(h2: ∀s,Beg s→Beg' s):Trie ls Ins' Beg' P F:=by
 refine⟨t.len,t.root,t.inj,t.up,fun k n v b x a1 a2 a3 a4=>?_,fun k n v b a1 a2 a3=>?_,t.par,fun s n a1=>t.ins s n ((h1 s).2 a1),fun k n v a1 a2=>?_⟩
 ·obtain⟨s,a,b'⟩:=t.sy k n v b x a1 a2 a3 a4;exact⟨s,(h1 s).1 a,b'⟩
 ·obtain⟨a,b'⟩:=t.no k n v b a1 a2 a3;exact⟨a,fun s hs=>b' s ((h1 s).2 hs)⟩
 ·obtain⟨s,m,a,b'⟩:=t.beg k n v a1 a2;exact⟨s,m,h2 s a,b'⟩
end
end Go.Proofs
namespace Go.Proofs
open Go.Sh
theorem Trie.mono2{ls:List Int}{Ins Beg Ins' Beg':Nat→Prop}{P:List (Nat×Int)}{F:List Int}(t:Trie ls Ins Beg P F)(h1: ∀s,Ins s→Ins' s)(h1': ∀s n:Nat,Ins' s→ls[s]?=some (n:Int)→0<n→Ins s)(h2: ∀s,Beg s→Beg' s):Trie ls Ins' Beg' P F:=by
 refine⟨t.len,t.root,t.inj,t.up,fun k n v b x a1 a2 a3 a4=>?_,fun k n v b a1 a2 a3=>?_,t.par,fun s n a1 a2 a3=>t.ins s n (h1' s n a1 a2 a3) a2 a3,fun k n v a1 a2=>?_⟩
 ·obtain⟨s,a,b'⟩:=t.sy k n v b x a1 a2 a3 a4;exact⟨s,h1 s a,b'⟩
 ·obtain⟨a,b'⟩:=t.no k n v b a1 a2 a3;exact⟨a,fun s hs hl=>b' s (h1' s _ hs hl (by omega)) hl⟩
 ·obtain⟨s,m,a,b'⟩:=t.beg k n v a1 a2;exact⟨s,m,h2 s a,b'⟩
theorem Trie.rng{ls:List Int}{Beg:Nat→Prop}{P:List (Nat×Int)}{F:List Int}{S:Nat}(t:Trie ls (· <S) Beg P F): ∀x∈F,-(S:Int)≤x∧x<P.length:=fun x hx=>by
 obtain⟨i,hi⟩:=List.getElem?_of_mem hx
 have hil:=(List.getElem?_eq_some_iff.1 hi).1
 have hl:=t.len
 obtain⟨y,hy⟩: ∃y,P[i/2]?=some y:=⟨_,List.getElem?_eq_getElem (by omega)⟩
 obtain⟨n,v⟩:=y
 have e:i/2*2+i%2=i:=by omega
 have hi':F[i/2*2+i%2]?=some x:=by rw[e];exact hi
 have hp:0<P.length:=by have:=(List.getElem?_eq_some_iff.1 t.root).1;omega
 rcases Int.lt_trichotomy x 0 with h|h|h
 ·obtain⟨s,a,b,_⟩:=t.sy _ _ _ _ _ hy (by omega) hi' h
  have a:s<S:=a
  omega
 ·omega
 ·have:=(List.getElem?_eq_some_iff.1 (t.up _ _ _ _ _ hy (by omega) hi' h)).1
  omega
set_option maxHeartbeats 4000000 in
theorem newDec{H:Heap}{p:Option Addr}{l c:Nat}{ls:List Int}(h:IS H p l (ints ls)){R:Value→Heap→Prop}(hbad: ¬OkC ls→R (.tuple #[.pointer none,.bool false]) H)
 (hgood:OkC ls→ ∀H' b q L k P F,H.size≤b→H'[b]?=some (.cells #[.slice q L k] 188)→FS H.size H' q L k 189 2 (ints F)→P.length=L→L≤5000→Trie ls (· <ls.length) (· <ls.length) P F→Ext H H'→R (.tuple #[.pointer (some ⟨b,0,none⟩),.bool true]) H'):
 CallsH Tryz.prog 99 #[.slice p l c] H R:=by
 have hl:ls.length=l:=by have:=h.len;rw[ints_len] at this;omega
 refine Tryz.s99 ?_
 unfold Tryz.S99 alc
 refine c52 h (fun hn=>⟨_,_,_,_,rfl,br_t rfl (hbad hn)⟩) fun ok H1 cb fc e1=>⟨_,_,_,_,rfl,br_f rfl ⟨by omega,by omega,by omega,by omega,?_⟩⟩
 have l300:=ok.w.len
 have hz:(List.toArray (reps (Int.toNat (1:Int)) (Array.toList #[Value.int .i64 0,Value.int .i64 0])))=#[Value.int .i64 0,Value.int .i64 0]:=rfl
 have h1:Int.toNat (1:Int)=1:=rfl
 rw[hz,h1]
 dsimp only
 have hb2:=get_push_self H1 (.cells #[Value.int .i64 0,Value.int .i64 0] 189)
 have e2:Ext H1 (H1.push (.cells #[Value.int .i64 0,Value.int .i64 0] 189)):=Ext.push _ _
 have hs2:(H1.push (.cells #[Value.int .i64 0,Value.int .i64 0] 189)).size=H1.size+1:=by simp
 generalize H1.push (.cells #[Value.int .i64 0,Value.int .i64 0] 189)=H2 at hb2 e2 hs2
 have hb3:=get_push_self H2 (.cells #[Value.slice (some ⟨H1.size,0,none⟩) 1 1] 188)
 have e3:Ext H2 (H2.push (.cells #[Value.slice (some ⟨H1.size,0,none⟩) 1 1] 188)):=Ext.push _ _
 have hs3:(H2.push (.cells #[Value.slice (some ⟨H1.size,0,none⟩) 1 1] 188)).size=H2.size+1:=by simp
 generalize H2.push (.cells #[Value.slice (some ⟨H1.size,0,none⟩) 1 1] 188)=H3 at hb3 e3 hs3
 have hsz1:=e1.size
 have fs3:FS H.size H3 (some ⟨H1.size,0,none⟩) 1 1 189 2 (ints [0,0]):=⟨rfl,Nat.le_refl _,ints_one _,.inr ⟨H1.size,_,rfl,hsz1,e3 _ _ hb2,rfl,fun i v hv=>by simpa[ints] using hv⟩⟩
 have cget: ∀{Hx:Heap},RS Hx (some ⟨cb,0,none⟩) l 3 1 (ints (codesM ls))→ ∀i,i<l→cell Hx ⟨cb,i,none⟩=some (.int .i64 (codeM ls i)):=fun hx i hi=>by
  obtain⟨blk,q1,v1⟩:=hx.cell (ints_get (codesM_get (ls:=ls) (i:=i) (by omega)))
  cases q1;exact v1
 have lget: ∀i,i<l→ ∃n:Nat,ls[i]?=some (n:Int)∧n≤16:=fun i hi=>by
  have hv:ls[i]?=some ls[i]:=List.getElem?_eq_getElem (by omega)
  have hr:=ok.w.rng _ (List.mem_of_getElem? hv)
  refine⟨ls[i].toNat,?_,by omega⟩
  rw[hv];congr 1;omega
 generalize hB:H2.size=B at hb3 ⊢
 have dget: ∀{Hx:Heap} {q:Option Addr} {L k:Nat},Hx[B]?=some (.cells #[.slice q L k] 188)→cell Hx ⟨B,0,none⟩=some (.slice q L k):=fun h=>cell_get h rfl
 have hBs:H.size≤B:=by omega
 intro X hX
 have outer: ∀(m s:Nat) (H4:Heap) (q:Option Addr) (L k:Nat) (P:List (Nat×Int)) (F:List Int),l-s=m→s≤l→Ext H H4→RS H4 (some ⟨cb,0,none⟩) l 3 1 (ints (codesM ls))→H4[B]?=some (.cells #[.slice q L k] 188)→FS H.size H4 q L k 189 2 (ints F)→
  P.length=L→L≤1+16*s→Trie ls (· <s) (· <s) P F→X [.int .i64 s] H4:=by
  intro m
  induction m with
  |zero=>
   intro s H4 q L k P F hm hs e4 rc hd fs hP hL t
   have:s=ls.length:=by omega
   subst this
   exact hX _ H4 (br_n (by omega) (hgood ok H4 B q L k P F hBs hd fs hP (by omega) t e4))
  |succ m ih=>
   intro s H4 q L k P F hm hs e4 rc hd fs hP hL t
   have ws:IntKind.wrap .i64 ((s:Int)+1)=((s+1:Nat):Int):=by rw[wrap_id (by omega) (by omega)];omega
   have wns:IntKind.wrap .i64 ((-1:Int)-(s:Int))= -1-(s:Int):=wrap_id (by omega) (by omega)
   obtain⟨n,hn,hn16⟩:=lget s (by omega)
   obtain⟨a,hp,cv⟩:=(h.ext e4).cell (ints_get hn)
   refine hX _ H4 (br_y (by omega) ⟨_,hp,by omega,by omega,n,by simpa using cv,?_⟩)
   rw[ws,wns]
   have nxt: ∀(H5:Heap) (q:Option Addr) (L k:Nat) (P:List (Nat×Int)) (F:List Int),Ext H H5→RS H5 (some ⟨cb,0,none⟩) l 3 1 (ints (codesM ls))→H5[B]?=some (.cells #[.slice q L k] 188)→FS H.size H5 q L k 189 2 (ints F)→
    P.length=L→L≤1+16*(s+1)→Trie ls (· <s+1) (· <s+1) P F→X [.int .i64 ((s+1:Nat):Int)] H5:=fun H5 q L k P F e5 rc hd fs hP hL t=>ih (s+1) H5 q L k P F (by omega) (by omega) e5 rc hd fs hP hL t
   intro Y hY
   by_cases hn0:n=0
   ·have w0:IntKind.wrap .i64 ((n:Int)-1)= -1:=by subst hn0;decide
    rw[w0]
    refine hY _ _ H4 (br_n (by omega) (nxt H4 q L k P F e4 rc hd fs hP (by omega) (t.mono2 (fun i hi=>by omega) (fun i n' hi hl' hn'=>?_) (fun i hi=>by omega))))
    by_cases his:i=s
    ·subst his
     rw[hn] at hl'
     have:=Option.some.inj hl';omega
    ·have hi:i<s+1:=hi
     show i<s
     omega
   ·have w0:IntKind.wrap .i64 ((n:Int)-1)=((n-1:Nat):Int):=by rw[wrap_id (by omega) (by omega)];omega
    rw[w0]
    have crng:=code_rng ok hn (by omega)
    have inner: ∀(k0:Nat) (st:Nat) (H5:Heap) (q:Option Addr) (L k:Nat) (P:List (Nat×Int)) (F:List Int),k0+1≤n→Ext H H5→RS H5 (some ⟨cb,0,none⟩) l 3 1 (ints (codesM ls))→H5[B]?=some (.cells #[.slice q L k] 188)→FS H.size H5 q L k 189 2 (ints F)→
     P.length=L→L≤1+16*s+(n-1-k0)→Trie ls (· <s) (· <s+1) P F→P[st]?=some (n-1-k0,codeM ls s/2^(k0+1))→(∀j,j≤n-1-k0→ ∃i:Nat,P[i]?=some (j,codeM ls s/2^(n-j)))→Y [.int .i64 st,.int .i64 k0] H5:=by
     intro k0
     induction k0 with
     |zero=>
      intro st H5 q L k P F hk0 e5 rc hd fs hP hL t hst path
      have hstl:=(List.getElem?_eq_some_iff.1 hst).1
      have hFl:=t.len
      rw[Nat.zero_add,Int.pow_one] at hst
      refine hY _ _ H5 (br_y (by omega) ⟨_,rfl,by omega,by omega,codeM ls s,by simpa using cget rc s (by omega),by omega,?_⟩)
      have hbit:andI .i64 (shrI .i64 (codeM ls s) ((0:Nat):Int)) (1:Int)=codeM ls s%2:=by
       rw[andI_one,shr64 (by omega) (by omega)];simp
      rw[hbit]
      refine br_t rfl ⟨_,rfl,q,L,k,by simpa using dget hd,?_⟩
      have hbt:(codeM ls s%2).toNat<2:=by omega
      rcases fs.at_ with ⟨hq0,hk00⟩|⟨blk,cs,hq,hq2,hq3,hq4,hq5⟩
      ·have:=fs.le;omega
      ·refine⟨_,hq,by omega,by omega,by omega,by omega,?_⟩
       subst hq
       simp only[add_none,Nat.zero_add,Nat.mul_one,Int.toNat_natCast]
       refine fs.set (by rw[ints_len];omega) rfl fun H6 f6 hk6 hs6=>?_
       rw[ints_set] at f6
       have hBne:B≠blk:=fun hh=>by rw[←hh,hd] at hq3;cases hq3
       refine nxt H6 _ L k P _ (fun b o hb=>hk6 b o (e5 b o hb) (by have:=lt_of_get hb;omega)) (rc.keep fun b cs' hb hg=>hk6 b _ hg fun hh=>by rw[hh,hq3] at hg;cases hg) (hk6 _ _ hd hBne) f6 hP (by omega) ?_
       have hn1:n=n-1+1:=by omega
       rw[hn1] at hn
       refine(t.leaf ok hn (by show s<s+1;omega) (by show ¬s<s;omega) (k:=st) hst (fun i hi=>by show i<s+1;have:i<s:=hi;omega) (fun j hj=>?_)).mono2 (fun i hi=>?_) (fun i n' hi _ _=>?_) (fun i hi=>hi)
       ·obtain⟨i,hi⟩:=path j (by omega)
        refine⟨i,?_⟩
        have:n-1+1-j=n-j:=by omega
        rw[this];exact hi
       ·rcases hi with hi|rfl
        ·have:i<s:=hi
         show i<s+1;omega
        ·show i<i+1;omega
       ·have hi:i<s+1:=hi
        by_cases h:i<s
        ·exact .inl h
        ·exact .inr (by omega)
     |succ k0 ihk=>
      intro st H5 q L k P F hk0 e5 rc hd fs hP hL t hst path
      have hstl:=(List.getElem?_eq_some_iff.1 hst).1
      have hFl:=t.len
      have wk:IntKind.wrap .i64 (((k0+1:Nat):Int)-1)=(k0:Int):=by rw[wrap_id (by omega) (by omega)];omega
      have hbit:andI .i64 (shrI .i64 (codeM ls s) ((k0+1:Nat):Int)) (1:Int)=codeM ls s/2^(k0+1)%2:=by
       rw[andI_one,shr64 (by omega) (by omega),Int.toNat_natCast]
      have hhalf:codeM ls s/2^(k0+1+1)=codeM ls s/2^(k0+1)/2:=div_two_pow _ _
      generalize hv:codeM ls s/2^(k0+1)=v at hbit hhalf
      rw[hhalf] at hst
      have hbt:(v%2).toNat<2:=by omega
      have hvv:2*(v/2)+((v%2).toNat:Int)=v:=by omega
      refine hY _ _ H5 (br_y (by omega) ⟨_,rfl,by omega,by omega,codeM ls s,by simpa using cget rc s (by omega),by omega,?_⟩)
      rw[hbit,wk]
      refine br_f (by simp;omega) ?_
      intro J hJ
      obtain⟨x,hx⟩:=t.get hst hbt
      -- behind the look at the child
      have go: ∀(H6:Heap) (q:Option Addr) (L k:Nat) (P:List (Nat×Int)) (F:List Int) (x:Int),Ext H H6→RS H6 (some ⟨cb,0,none⟩) l 3 1 (ints (codesM ls))→H6[B]?=some (.cells #[.slice q L k] 188)→FS H.size H6 q L k 189 2 (ints F)→
       P.length=L→L≤1+16*s+(n-1-k0)→Trie ls (· <s) (· <s+1) P F→st<P.length→F[st*2+(v%2).toNat]?=some x→0<x→P[x.toNat]?=some (n-1-k0,codeM ls s/2^(k0+1))→(∀j,j≤n-1-k0→ ∃i:Nat,P[i]?=some (j,codeM ls s/2^(n-j)))→J [] H6:=by
       intro H6 q L k P F x e6 rc hd fs hP hL t hstl hx hx0 hPx path
       have hFl:=t.len
       rcases fs.at_ with ⟨hq0,hk00⟩|⟨blk,cs,hq,hq2,hq3,hq4,hq5⟩
       ·have:=fs.le;omega
       ·obtain⟨blk',hq',cx⟩:=fs.rs.cell (ints_get hx)
        rw[hq] at hq';cases hq'
        have hxl:=(List.getElem?_eq_some_iff.1 hPx).1
        refine hJ H6 ⟨_,rfl,q,L,k,by simpa using dget hd,_,hq,by omega,by omega,by omega,by omega,x,?_,?_⟩
        ·simp only[add_none,Nat.zero_add,Nat.mul_one,Int.toNat_natCast];exact cx
        ·have hxn:x=((x.toNat:Nat):Int):=by omega
         rw[hxn]
         exact ihk x.toNat H6 q L k P F (by omega) e6 rc hd fs hP hL t hPx path
      rcases fs.at_ with ⟨hq0,hk00⟩|⟨blk,cs,hq,hq2,hq3,hq4,hq5⟩
      ·have:=fs.le;omega
      obtain⟨blk',hq',cx⟩:=fs.rs.cell (ints_get hx)
      rw[hq] at hq';cases hq'
      refine⟨_,rfl,q,L,k,by simpa using dget hd,_,hq,by omega,by omega,by omega,by omega,x,?_,br_eq (fun hx0=>?_) (fun hxne=>?_)⟩
      ·simp only[add_none,Nat.zero_add,Nat.mul_one,Int.toNat_natCast];exact cx
      ·-- a new node
       subst hx0
       refine⟨_,rfl,q,L,k,by simpa using dget hd,rfl,by omega,?_⟩
       have hz:(List.toArray (setL [Value.int .i64 0,Value.int .i64 0] 0 (Array.toList #[Value.int .i64 0,Value.int .i64 0])))=#[Value.int .i64 0,Value.int .i64 0]:=rfl
       rw[hz]
       have hb6:=get_push_self H5 (.cells #[Value.int .i64 0,Value.int .i64 0] 189)
       have e6:Ext H5 (H5.push (.cells #[Value.int .i64 0,Value.int .i64 0] 189)):=Ext.push _ _
       generalize H5.push (.cells #[Value.int .i64 0,Value.int .i64 0] 189)=H6 at hb6 e6
       have src:RS H6 (some ⟨H5.size,0,none⟩) 1 189 2 (ints [0,0]):=⟨rfl,ints_one _,.inr ⟨H5.size,_,rfl,hb6,fun i v hv=>by simpa[ints] using hv⟩⟩
       have f6:=fs.ext e6
       have hd6:=e6 _ _ hd
       have rc6:=rc.ext e6
       refine f6.app src (by decide) (by have:=(e5.trans e6).size;omega) rfl (by omega) (by omega) fun q7 k7 H7 f7 hk7 hs7=>⟨_,rfl,?_⟩
       rw[←ints_append] at f7
       have hBne:q≠some ⟨B,0,none⟩:=fun hh=>by rw[hq] at hh;cases hh;rw[hd] at hq3;cases hq3
       have hd7:=hk7 _ _ hd6 hBne
       have rc7:RS H7 (some ⟨cb,0,none⟩) l 3 1 (ints (codesM ls)):=rc6.keep fun b cs' hb hg=>hk7 b _ hg fun hh=>by
        rw[hq] at hh;cases hh;rw[e6 _ _ hq3] at hg;cases hg
       have e7:Ext H H7:=fun b o hb=>hk7 b o ((e5.trans e6) b o hb) fun hh=>by
        rw[hq] at hh;cases hh;have:=lt_of_get hb;omega
       simp only[add_none,Nat.zero_add]
       refine stAt_one hd7 (by show 0<1;omega) rfl ?_
       have hset:(#[Value.slice q L k]:Array Value).setIfInBounds 0 (Value.slice q7 (L+1) k7)=#[Value.slice q7 (L+1) k7]:=rfl
       rw[hset]
       have hd8:=get_set_self (o:=Obj.cells #[Value.slice q7 (L+1) k7] 188 (0,0)) hd7
       have hk8: ∀(b:Nat) (o:Obj),H7[b]?=some o→b≠B→(H7.setIfInBounds B (.cells #[Value.slice q7 (L+1) k7] 188 (0,0)))[b]?=some o:=fun b o hb hn=>get_set_ne (Ne.symm hn) hb
       generalize H7.setIfInBounds B (.cells #[Value.slice q7 (L+1) k7] 188 (0,0))=H8 at hd8 hk8
       have f8:FS H.size H8 q7 (L+1) k7 189 2 (ints (F++[0,0])):=f7.keep fun b cs' hb hg=>hk8 b _ hg fun hh=>by rw[hh,hd7] at hg;cases hg
       have rc8:RS H8 (some ⟨cb,0,none⟩) l 3 1 (ints (codesM ls)):=rc7.keep fun b cs' hb hg=>hk8 b _ hg fun hh=>by rw[hh,hd7] at hg;cases hg
       have e8:Ext H H8:=fun b o hb=>hk8 b o (e7 b o hb) (by have:=lt_of_get hb;omega)
       have wl:IntKind.wrap .i64 (((L+1:Nat):Int)-1)=(L:Int):=by rw[wrap_id (by omega) (by omega)];omega
       rcases f8.at_ with ⟨hq0,hk00⟩|⟨blk8,cs8,hq8,hq82,hq83,hq84,hq85⟩
       ·have:=f8.le;omega
       ·refine⟨_,rfl,q7,L+1,k7,by simpa using dget hd8,_,rfl,q7,L+1,k7,by simpa using dget hd8,_,hq8,by omega,by omega,by omega,by omega,?_⟩
        subst hq8
        rw[wl]
        simp only[add_none,Nat.zero_add,Nat.mul_one,Int.toNat_natCast]
        refine f8.set (by rw[ints_len];simp;omega) rfl fun H9 f9 hk9 hs9=>?_
        rw[ints_set] at f9
        have hB9:B≠blk8:=fun hh=>by rw[←hh,hd8] at hq83;cases hq83
        have ndc:codeM ls s/2^(n-(n-1-(k0+1)+1))=2*(v/2)+((v%2).toNat:Int):=by
         have:n-(n-1-(k0+1)+1)=k0+1:=by omega
         rw[this,hv,hvv]
        have t9:=t.node ok (s:=s) (m:=n) (b:=(v%2).toNat) hn (by show s<s+1;omega) (by omega) hst hbt ndc hx
        rw[hvv] at t9
        have hdep:n-1-(k0+1)+1=n-1-k0:=by omega
        rw[hdep] at t9
        have e9:Ext H H9:=fun b o hb=>hk9 b o (e8 b o hb) (by have:=lt_of_get hb;omega)
        rw[hP] at t9
        refine go H9 _ (L+1) k7 (P++[(n-1-k0,v)]) _ (L:Int) e9 (rc8.keep fun b cs' hb hg=>hk9 b _ hg fun hh=>by rw[hh,hq83] at hg;cases hg) (hk9 _ _ hd8 hB9) f9 (by simp;omega) (by omega) t9 (by simp;omega) ?_ (by omega) ?_ (fun j hj=>?_)
        ·rw[List.getElem?_set_self (by simp;omega)]
        ·rw[Int.toNat_natCast,←hP,hv];simp
        ·by_cases hj1:j≤n-1-(k0+1)
         ·obtain⟨i,hi⟩:=path j hj1
          exact⟨i,by rw[List.getElem?_append_left (List.getElem?_eq_some_iff.1 hi).1];exact hi⟩
         ·have hje:j=n-1-k0:=by omega
          refine⟨P.length,?_⟩
          have:n-j=k0+1:=by omega
          rw[this,hv,hje];simp
      ·-- the child is there
       have hxpos:0<x:=by
        rcases Int.lt_trichotomy x 0 with h|h|h
        ·obtain⟨s',i',_,l',c'⟩:=t.sy _ _ _ _ _ hst hbt hx h
         have i':s'<s:=i'
         rw[hvv] at c'
         have:=no_prefix ok (i:=s') (j:=s) (by omega) l' hn (by omega) (by omega)
         have e:n-(n-1-(k0+1)+1)=k0+1:=by omega
         rw[e,hv] at this
         exact absurd c'.symm this
        ·exact absurd h hxne
        ·exact h
       have hPx:=t.up _ _ _ _ _ hst hbt hx hxpos
       rw[hvv] at hPx
       have hdep:n-1-(k0+1)+1=n-1-k0:=by omega
       rw[hdep] at hPx
       refine go H5 q L k P F x e5 rc hd fs hP (by omega) t hstl hx hxpos (by rw[hv];exact hPx) (fun j hj=>?_)
       by_cases hj1:j≤n-1-(k0+1)
       ·exact path j hj1
       ·have hje:j=n-1-k0:=by omega
        refine⟨x.toNat,?_⟩
        have:n-j=k0+1:=by omega
        rw[this,hv,hje];exact hPx
    have hcode0:codeM ls s/2^n=0:=Int.ediv_eq_zero_of_lt crng.1 crng.2
    refine inner (n-1) 0 H4 q L k P F (by omega) e4 rc hd fs hP (by omega) (t.mono2 (fun i hi=>hi) (fun i n' hi _ _=>hi) (fun i hi=>by have:i<s:=hi;show i<s+1;omega)) ?_ (fun j hj=>⟨0,?_⟩)
    ·have e1:n-1-(n-1)=0:=by omega
     have e2:n-1+1=n:=by omega
     rw[e1,e2,hcode0];exact t.root
    ·have e1:j=0:=by omega
     subst e1
     rw[Nat.sub_zero,hcode0];exact t.root
 refine outer l 0 H3 (some ⟨H1.size,0,none⟩) 1 1 [(0,0)] [0,0] (by omega) (by omega) (e1.trans (e2.trans e3)) (fc.rs.ext (e2.trans e3)) hb3 fs3 rfl (by omega) ((Trie.first ls (· <0)).mono2 (fun i hi=>hi.elim) (fun i n hi=>absurd hi (by omega)) (fun i hi=>hi))
def stepM(F:List Int)(L:Nat)(st bit:Int):Int×Int:=
 if st<0∨st≥L then(-1,-1)
 else if F.getD (st.toNat*2+(bit%2).toNat) 0>0 then(F.getD (st.toNat*2+(bit%2).toNat) 0,-1)
 else if F.getD (st.toNat*2+(bit%2).toNat) 0<0 then(0,-1-F.getD (st.toNat*2+(bit%2).toNat) 0) else(-1,-1)
theorem c101{H:Heap}{b:Nat}{q:Option Addr}{L k:Nat}{F:List Int}(hd:H[b]?=some (.cells #[.slice q L k] 188))(hf:RS H q L 189 2 (ints F))(hr: ∀x∈F,-1000000≤x∧x≤1000000)(hL:L≤1000000)(st bit:Int){R:Value→Heap→Prop}
 (h:R (.tuple #[.int .i64 (stepM F L st bit).1,.int .i64 (stepM F L st bit).2]) H):CallsH Tryz.prog 101 #[.pointer (some ⟨b,0,none⟩),.int .i64 st,.int .i64 bit] H R:=by
 have hFl:F.length=L*2:=by have:=hf.len;rw[ints_len] at this;exact this
 have dget:cell H ⟨b,0,none⟩=some (.slice q L k):=cell_get hd rfl
 refine Tryz.s101 ?_
 unfold Tryz.S101
 rw[andI_one]
 intro J hJ
 unfold stepM at h
 refine br_dec (fun hn=>?_) (fun h0=>⟨_,rfl,q,L,k,by simpa using dget,br_dec (fun hge=>?_) (fun hlt=>hJ H ?_)⟩)
 ·rw[if_pos (.inl hn)] at h;exact h
 ·rw[if_pos (.inr hge)] at h;exact h
 ·rw[if_neg (by omega)] at h
  have hb2:(bit%2).toNat<2:=by omega
  have hx:F[st.toNat*2+(bit%2).toNat]?=some (F.getD (st.toNat*2+(bit%2).toNat) 0):=by
   rw[List.getD_eq_getElem?_getD,List.getElem?_eq_getElem (by omega)];rfl
  have hxr:=hr _ (List.mem_of_getElem? hx)
  obtain⟨blk,hq,cx⟩:=hf.cell (ints_get hx)
  generalize F.getD (st.toNat*2+(bit%2).toNat) 0=x at h hx cx hxr
  refine⟨_,rfl,q,L,k,by simpa using dget,_,hq,by omega,by omega,by omega,by omega,x,?_,br_dec (fun hp=>?_) (fun hp=>br_dec (fun hn=>?_) (fun hn=>?_))⟩
  ·simp only[add_none,Nat.zero_add,Nat.mul_one];exact cx
  ·rw[if_pos hp] at h;exact h
  ·rw[if_neg hp,if_pos hn] at h
   rw[wrap_id (by omega) (by omega)];exact h
  ·rw[if_neg hp,if_neg hn] at h;exact h
end Go.Proofs
namespace Go.Proofs
open Go.Sh
theorem rank_ex{ls:List Int}{n r:Nat}: ∀{S:Nat},S≤ls.length→r<rank ls S n→ ∃s:Nat,s<S∧ls[s]?=some (n:Int)∧rank ls s n=r
 |0,_,h=>by simp[rank] at h
 |S+1,hS,h=>by
  have hv:ls[S]?=some ls[S]:=List.getElem?_eq_getElem (by omega)
  rw[rank_snoc hv] at h
  by_cases hr:r<rank ls S n
  ·obtain⟨s,a,b⟩:=rank_ex (by omega) hr
   exact⟨s,by omega,b⟩
  ·split at h
   ·rename_i he
    exact⟨S,by omega,by rw[hv,he],by omega⟩
   ·omega
theorem whole{ls:List Int}(ok:OkC ls)(hw:wtM ls=65536){x:Int}(h0:0≤x)(h1:x<65536): ∃s n:Nat,ls[s]?=some (n:Int)∧1≤n∧n≤16∧codeM ls s=x/2^(16-n):=by
 have hW:W ls 16=65536:=by rw[W_all ok.w.rng,hw]
 have find: ∀m:Nat,m≤16→x<W ls m→ ∃n,n<m∧W ls n≤x∧x<W ls (n+1):=by
  intro m
  induction m with
  |zero=>intro _ h;simp[W] at h;omega
  |succ m ih=>
   intro hm h
   by_cases hx:x<W ls m
   ·obtain⟨n,a,b⟩:=ih (by omega) hx
    exact⟨n,by omega,b⟩
   ·exact⟨m,by omega,by omega,h⟩
 obtain⟨n,hn,w1,w2⟩:=find 16 (Nat.le_refl _) (by omega)
 have b1:=base_W ls n (by omega)
 have b2:=base_W ls (n+1) (by omega)
 have hp:(0:Int)<2^(16-(n+1)):=Int.pow_pos (by omega)
 have hb:base ls (n+1)*2^(16-(n+1))=W ls n:=by
  rw[←b1]
  have e:16-n=16-(n+1)+1:=by omega
  rw[e,Int.pow_succ]
  show 2*(base ls n+cnt ls n)*2^(16-(n+1))=_
  generalize (2:Int)^(16-(n+1))=z
  rw[Int.mul_comm z 2,←Int.mul_assoc,Int.mul_comm (base ls n+(cnt ls n:Int)) 2]
 have y1:base ls (n+1)≤x/2^(16-(n+1)):=(Int.le_ediv_iff_mul_le hp).2 (by omega)
 have y2:x/2^(16-(n+1))<base ls (n+1)+cnt ls (n+1):=Int.ediv_lt_of_lt_mul hp (by omega)
 have hc:cnt ls (n+1)=rank ls ls.length (n+1):=by unfold cnt;rw[if_neg (by omega)]
 obtain⟨s,_,hs,hr⟩:=rank_ex (ls:=ls) (n:=n+1) (r:=(x/2^(16-(n+1))-base ls (n+1)).toNat) (S:=ls.length) (Nat.le_refl _) (by omega)
 refine⟨s,n+1,hs,by omega,by omega,?_⟩
 rw[codeM_pos hs (by omega),hr]
 omega
section
variable {ls:List Int} {P:List (Nat×Int)} {F:List Int}
theorem stepM_of{L:Nat}(hP:P.length=L)(t:Trie ls (· <ls.length) (· <ls.length) P F){k:Nat}{y:Nat×Int}(hk:P[k]?=some y)(bit:Int): ∃x,F[k*2+(bit%2).toNat]?=some x∧stepM F L (k:Int) bit=if x>0 then(x,-1) else if x<0 then(0,-1-x) else(-1,-1):=by
 have hb:(bit%2).toNat<2:=by omega
 obtain⟨x,hx⟩:=t.get hk hb
 have hkl:=(List.getElem?_eq_some_iff.1 hk).1
 refine⟨x,hx,?_⟩
 unfold stepM
 rw[if_neg (by omega),Int.toNat_natCast,List.getD_eq_getElem?_getD,hx]
 rfl
theorem step_sym{L:Nat}(ok:OkC ls)(hP:P.length=L)(t:Trie ls (· <ls.length) (· <ls.length) P F){k n s:Nat}{v bit:Int}(hk:P[k]?=some (n,v))(hs:ls[s]?=some ((n+1:Nat):Int))(hc:codeM ls s=2*v+bit%2):stepM F L (k:Int) bit=(0,(s:Int)):=by
 obtain⟨x,hx,e⟩:=stepM_of hP t hk bit
 have hb:(bit%2).toNat<2:=by omega
 have hsl:=(List.getElem?_eq_some_iff.1 hs).1
 have:=(t.step ok (fun s hs=>hs) hk hb hx).1 s hsl hs (by omega)
 rw[e,if_neg (by omega),if_pos (by omega)]
 congr 1;omega
theorem step_on{L:Nat}(ok:OkC ls)(hP:P.length=L)(t:Trie ls (· <ls.length) (· <ls.length) P F){k n s m:Nat}{v bit:Int}(hk:P[k]?=some (n,v))(hs:ls[s]?=some (m:Int))(hm:n+1<m)(hc:codeM ls s/2^(m-(n+1))=2*v+bit%2):
 ∃j:Nat,0<j∧stepM F L (k:Int) bit=((j:Int),-1)∧P[j]?=some (n+1,2*v+bit%2):=by
 obtain⟨x,hx,e⟩:=stepM_of hP t hk bit
 have hb:(bit%2).toNat<2:=by omega
 have hsl:=(List.getElem?_eq_some_iff.1 hs).1
 have hbb:2*v+((bit%2).toNat:Int)=2*v+bit%2:=by omega
 obtain⟨h0,hp⟩:=(t.step ok (fun s hs=>hs) hk hb hx).2 s m hsl hs hm (by rw[hbb];exact hc)
 rw[hbb] at hp
 refine⟨x.toNat,by omega,?_,hp⟩
 rw[e,if_pos h0]
 congr 1;omega
theorem step_off{L:Nat}(hP:P.length=L)(t:Trie ls (· <ls.length) (· <ls.length) P F){k n:Nat}{v bit:Int}(hk:P[k]?=some (n,v))(h1: ∀s:Nat,ls[s]?=some ((n+1:Nat):Int)→codeM ls s≠2*v+bit%2)
 (h2: ∀s m:Nat,ls[s]?=some (m:Int)→n+1<m→codeM ls s/2^(m-(n+1))≠2*v+bit%2):stepM F L (k:Int) bit=(-1,-1):=by
 obtain⟨x,hx,e⟩:=stepM_of hP t hk bit
 have hb:(bit%2).toNat<2:=by omega
 have hbb:2*v+((bit%2).toNat:Int)=2*v+bit%2:=by omega
 have n1: ¬x>0:=fun h=>by
  have hp:=t.up _ _ _ _ _ hk hb hx h
  obtain⟨s,m,_,a,b,c⟩:=t.beg _ _ _ hp (by omega)
  rw[hbb] at c
  exact h2 s m a b c
 have n2: ¬x<0:=fun h=>by
  obtain⟨s,_,_,a,b⟩:=t.sy _ _ _ _ _ hk hb hx h
  rw[hbb] at b
  exact h1 s a b
 rw[e,if_neg n1,if_neg n2]
theorem Trie.rng2{L:Nat}(hP:P.length=L)(hL:L≤5000)(hl:ls.length≤300)(t:Trie ls (· <ls.length) (· <ls.length) P F): ∀x∈F,-1000000≤x∧x≤1000000:=fun x hx=>by
 have:=t.rng x hx;omega
theorem Trie.val(ok:OkC ls)(t:Trie ls (· <ls.length) (· <ls.length) P F){k n:Nat}{v:Int}(hk:P[k]?=some (n,v))(hn:0<n):n≤16∧0≤v∧v≤65536:=by
 obtain⟨s,m,_,a,b,c⟩:=t.beg _ _ _ hk hn
 have hm:=ok.w.rng _ (List.mem_of_getElem? a)
 have hr:=code_rng ok a (by omega)
 have h2:(2:Int)^m≤65536:=by
  have h2:2^m≤2^16:=Nat.pow_le_pow_right (by omega) (by omega)
  have h3:((2^m:Nat):Int)=(2:Int)^m:=by simp
  have h4:(2:Nat)^16=65536:=rfl
  omega
 have h5:0≤codeM ls s/2^(m-n):=Int.ediv_nonneg hr.1 (Int.pow_nonneg (by omega))
 have h6:codeM ls s/2^(m-n)≤codeM ls s:=Int.ediv_le_self _ hr.1
 omega
end
theorem div_bit(x:Int)(k:Nat):2*(x/2^(k+1))+x/2^k%2=x/2^k:=by rw[div_two_pow];omega
end Go.Proofs
namespace Go.Proofs
open Go.Sh
def findM(ls:List Int)(n:Nat)(v:Int):Option Nat:=(List.range ls.length).find? fun s=>ls.getD s 0==(n:Int)&&codeM ls s==v
def begM(ls:List Int)(n:Nat)(v:Int):Bool:=(List.range ls.length).any fun s=>decide ((n:Int)<ls.getD s 0)&&codeM ls s/2^((ls.getD s 0).toNat-n)==v
theorem findM_some{ls:List Int}{n s:Nat}{v:Int}(h:findM ls n v=some s):ls[s]?=some (n:Int)∧codeM ls s=v:=by
 unfold findM at h
 have h1:=List.find?_some h
 have h2:=List.mem_range.1 (List.mem_of_find?_eq_some h)
 simp only[Bool.and_eq_true,beq_iff_eq] at h1
 exact⟨by rw[get_gD ls 0 h2,h1.1],h1.2⟩
theorem findM_none{ls:List Int}{n:Nat}{v:Int}(h:findM ls n v=none){s:Nat}(hs:ls[s]?=some (n:Int)):codeM ls s≠v:=fun hc=>by
 unfold findM at h
 rw[List.find?_eq_none] at h
 have:=h s (List.mem_range.2 (List.getElem?_eq_some_iff.1 hs).1)
 rw[gD_get hs,hc] at this
 simp at this
theorem findM_eq{ls:List Int}(ok:OkC ls){n s:Nat}{v:Int}(hn:0<n)(hs:ls[s]?=some (n:Int))(hc:codeM ls s=v):findM ls n v=some s:=by
 cases h:findM ls n v with
 |none=>exact absurd hc (findM_none h hs)
 |some t=>
  obtain⟨h1,h2⟩:=findM_some h
  by_cases he:t=s
  ·rw[he]
  ·have:=no_prefix ok he h1 hs hn (Nat.le_refl n)
   rw[Nat.sub_self,Int.pow_zero,Int.ediv_one] at this
   exact absurd (hc.trans h2.symm) this
theorem begM_true{ls:List Int}(hr: ∀x∈ls,0≤x∧x≤16){n:Nat}{v:Int}(h:begM ls n v=true): ∃s m:Nat,ls[s]?=some (m:Int)∧n<m∧codeM ls s/2^(m-n)=v:=by
 unfold begM at h
 rw[List.any_eq_true] at h
 obtain⟨s,h1,h2⟩:=h
 have h1:=List.mem_range.1 h1
 simp only[Bool.and_eq_true,decide_eq_true_eq,beq_iff_eq] at h2
 have hs:=get_gD ls 0 h1
 have:=hr _ (List.mem_of_getElem? hs)
 refine⟨s,(ls.getD s 0).toNat,by rw[hs];congr 1;omega,by omega,h2.2⟩
theorem begM_false{ls:List Int}{n:Nat}{v:Int}(h:begM ls n v=false){s m:Nat}(hs:ls[s]?=some (m:Int))(hm:n<m):codeM ls s/2^(m-n)≠v:=fun hc=>by
 unfold begM at h
 rw[List.any_eq_false] at h
 have:=h s (List.mem_range.2 (List.getElem?_eq_some_iff.1 hs).1)
 rw[gD_get hs] at this
 simp only[Int.toNat_natCast,hc,beq_self_eq_true,Bool.and_true,decide_eq_true_eq] at this
 omega
theorem begM_mk{ls:List Int}{n s m:Nat}{v:Int}(hs:ls[s]?=some (m:Int))(hm:n<m)(hc:codeM ls s/2^(m-n)=v):begM ls n v=true:=by
 cases h:begM ls n v with
 |true=>rfl
 |false=>exact absurd hc (begM_false h hs hm)
def copyM(d:Nat):Nat→List Int→List Int
 |0,out=>out
 |n+1,out=>copyM d n (out++[out.getD (out.length-d) 0])
theorem copyM_len(d:Nat): ∀(n:Nat) (out:List Int),(copyM d n out).length=out.length+n
 |0,out=>rfl
 |n+1,out=>by rw[copyM,copyM_len d n,List.length_append,List.length_singleton];omega
end Go.Proofs
