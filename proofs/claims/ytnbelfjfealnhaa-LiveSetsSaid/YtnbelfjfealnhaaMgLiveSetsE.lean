/-
  OWN WORK. Several texts in one: RnC, RnD, RnE, TrU, TrV, RnF, TrW, TrX, TrY, TrZ, RnG, RnH, RnI, RnJ.
-/
import Derived.Test.YtnbelfjfealnhaaMgLiveSetsD

set_option linter.unusedVariables false
set_option linter.unusedSimpArgs false
set_option maxRecDepth 100000
namespace Go.Proofs
open Go.Sh
variable {H0 H:Heap} {σ:List Rs} {R:Value→Heap→Prop}
theorem c86{p:Option Addr}{cp:Nat}{t:List Int}{c:C4}(ht:IS H p 256 (ints t))(hok:TabOk8 t)(h1:byte c.r)(h2:byte c.g)(h3:byte c.b)(h4:byte c.a)(hR: ∀H',Ext H H'→R (.agg (ints (mapP t c).l).toArray) H'):CallsH Try.prog 86 #[.slice p 256 cp,.agg (ints c.l).toArray] H R:=by
 have b1:=bareP_byte h1.1 h4.1
 have b2:=bareP_byte h2.1 h4.1
 have b3:=bareP_byte h3.1 h4.1
 have t1:=hok (bareP c.r c.a).toNat
 have t2:=hok (bareP c.g c.a).toNat
 have t3:=hok (bareP c.b c.a).toNat
 unfold byte at h1 h2 h3 h4 b1 b2 b3 t1 t2 t3
 refine Try.s86 ?_
 unfold Try.S86
 refine(St.nil H).alc fun ba H4 hs4=>hs4.alc fun bb H6 hs6=>?_
 intro X hX
 refine hX _ _ (br_y (by decide) ⟨by decide,by decide,c.r,hs6.rdA 1 (j:=0) rfl rfl,by decide,by decide,c.a,hs6.rdA 1 (j:=3) rfl rfl,by decide,by decide,c.a,hs6.rdA 1 (j:=3) rfl rfl,c91 (by omega) (by omega) ⟨_,rfl,.inl (Ext.refl _),rdG (ht.ext hs6.ext) b1.1 (by omega) (mul_call (by omega) (by omega) ⟨_,rfl,by decide,by decide,hs6.putA 1 (j:=0) rfl (Nat.le_of_ble_eq_true rfl) fun H7 hs7=>?_⟩)⟩⟩)
 refine hX _ _ (br_y (by decide) ⟨by decide,by decide,c.g,hs7.rdA 1 (j:=1) rfl rfl,by decide,by decide,c.a,hs7.rdA 1 (j:=3) rfl rfl,by decide,by decide,c.a,hs7.rdA 1 (j:=3) rfl rfl,c91 (by omega) (by omega) ⟨_,rfl,.inl (Ext.refl _),rdG (ht.ext hs7.ext) b2.1 (by omega) (mul_call (by omega) (by omega) ⟨_,rfl,by decide,by decide,hs7.putA 1 (j:=1) rfl (Nat.le_of_ble_eq_true rfl) fun H8 hs8=>?_⟩)⟩⟩)
 refine hX _ _ (br_y (by decide) ⟨by decide,by decide,c.b,hs8.rdA 1 (j:=2) rfl rfl,by decide,by decide,c.a,hs8.rdA 1 (j:=3) rfl rfl,by decide,by decide,c.a,hs8.rdA 1 (j:=3) rfl rfl,c91 (by omega) (by omega) ⟨_,rfl,.inl (Ext.refl _),rdG (ht.ext hs8.ext) b3.1 (by omega) (mul_call (by omega) (by omega) ⟨_,rfl,by decide,by decide,hs8.putA 1 (j:=2) rfl (Nat.le_of_ble_eq_true rfl) fun H9 hs9=>?_⟩)⟩⟩)
 exact hX _ _ (br_n (by decide) ⟨_,rfl,rowIn_whole (hs9.block 1 rfl),rfl,hs9.putAllA 0 (l:=(mapP t c).l) rfl rfl fun H11 hs11=>⟨_,rfl,rowIn_whole (hs11.block 0 rfl),hR H11 hs11.ext⟩⟩)
theorem c77{mode:Int}{s d:C4}(hs:OkC s)(hd:OkC d)(hR: ∀H',Ext H H'→R (.agg (ints (blendP mode s d).l).toArray) H'):CallsH Try.prog 77 #[.int .i64 mode,.agg (ints s.l).toArray,.agg (ints d.l).toArray] H R:=by
 obtain⟨s1,s2,s3,s4⟩:=hs.bytes
 obtain⟨d1,d2,d3,d4⟩:=hd.bytes
 have ov:=over_bd s4 d4
 have mv:=mulP_byte s4 d4
 have w1:=blP_bd mode (bareP_byte d1.1 d4.1) (bareP_byte s1.1 s4.1)
 have w2:=blP_bd mode (bareP_byte d2.1 d4.1) (bareP_byte s2.1 s4.1)
 have w3:=blP_bd mode (bareP_byte d3.1 d4.1) (bareP_byte s3.1 s4.1)
 -- one colour
 have one: ∀{si di:Int},byte si→byte di→ ∀{K:Int→Prop},K (mixP mode s.a d.a si di)→K (min (IntKind.wrap .i64 (IntKind.wrap .i64 (s.a+d.a)-mulP s.a d.a)) (IntKind.wrap .i64 (IntKind.wrap .i64 (mulP si (255-d.a)+mulP di (255-s.a))+mulP (mulP s.a d.a) (blP mode (bareP di d.a) (bareP si s.a))))):=by
  intro si di hsi hdi K hK
  have q1:=mulP_bd (a:=si) (b:=255-d.a) hsi (by unfold byte at*;omega)
  have q2:=mulP_bd (a:=di) (b:=255-s.a) hdi (by unfold byte at*;omega)
  have q3:=mulP_two mv (b:=blP mode (bareP di d.a) (bareP si s.a)) (by have:=blP_bd mode (bareP_byte hdi.1 d4.1) (bareP_byte hsi.1 s4.1);omega)
  unfold byte at*
  rw[wrap_id (n:=s.a+d.a) (by omega) (by omega),wrap_id (n:=s.a+d.a-mulP s.a d.a) (by omega) (by omega),wrap_id (n:=mulP si (255-d.a)+mulP di (255-s.a)) (by omega) (by omega),wrap_id (by omega) (by omega)]
  exact hK
 have w255s:IntKind.wrap .i64 (255-s.a)=255-s.a:=by unfold byte at*;exact wrap_id (by omega) (by omega)
 have w255d:IntKind.wrap .i64 (255-d.a)=255-d.a:=by unfold byte at*;exact wrap_id (by omega) (by omega)
 have hsum:IntKind.wrap .i64 (IntKind.wrap .i64 (s.a+d.a)-mulP s.a d.a)=s.a+d.a-mulP s.a d.a:=by
  unfold byte at*
  rw[wrap_id (n:=s.a+d.a) (by omega) (by omega),wrap_id (by omega) (by omega)]
 refine Try.s77 ?_
 unfold Try.S77
 refine(St.nil H).alc fun b4 H5 hs5=>hs5.alc fun b6 H7 hs7=>hs7.alc fun b8 H9 hs9=>⟨by decide,by decide,s.a,hs9.rdA 2 (j:=3) rfl rfl,by decide,by decide,d.a,hs9.rdA 1 (j:=3) rfl rfl,?_⟩
 have bm: ∀{x:Int},byte x→0≤x∧x≤1000000:=fun h=>⟨h.1,by have:=h.2;omega⟩
 refine mul_call (bm s4) (bm d4) ⟨_,rfl,by decide,by decide,s.a,hs9.rdA 2 (j:=3) rfl rfl,by decide,by decide,d.a,hs9.rdA 1 (j:=3) rfl rfl,hs9.alc fun b17 H18 hs18=>⟨rfl,?_⟩⟩
 refine hs18.putAllA 0 (l:=[0,0,0,IntKind.wrap .i64 (IntKind.wrap .i64 (s.a+d.a)-mulP s.a d.a)]) rfl rfl fun H19 hs19=>?_
 have hc: ∀{x:Int},byte x→byte (255-x):=fun h=>by unfold byte at*;omega
 intro X hX
 rw[hsum] at hs19
 have fin: ∀{si di:Int},byte si→byte di→min (s.a+d.a-mulP s.a d.a) (IntKind.wrap .i64 (IntKind.wrap .i64 (mulP si (255-d.a)+mulP di (255-s.a))+mulP (mulP s.a d.a) (blP mode (bareP di d.a) (bareP si s.a))))=mixP mode s.a d.a si di:=by
  intro si di hsi hdi
  have:=one hsi hdi (K:=fun x=>x=mixP mode s.a d.a si di) rfl
  rw[hsum] at this;exact this
 refine hX _ _ (br_y (by decide) ⟨by decide,by decide,d.r,hs19.rdA 2 (j:=0) rfl rfl,by decide,by decide,d.a,hs19.rdA 2 (j:=3) rfl rfl,by decide,by decide,s.r,hs19.rdA 3 (j:=0) rfl rfl,by decide,by decide,s.a,hs19.rdA 3 (j:=3) rfl rfl,c91 (bm d1) (bm d4) ⟨_,rfl,.inl (Ext.refl _),c91 (bm s1) (bm s4) ⟨_,rfl,c90 (bareP_byte d1.1 d4.1) (bareP_byte s1.1 s4.1) ⟨_,rfl,by decide,by decide,s.a+d.a-mulP s.a d.a,hs19.rdA 0 (j:=3) rfl rfl,by decide,by decide,s.r,hs19.rdA 3 (j:=0) rfl rfl,by decide,by decide,d.a,hs19.rdA 2 (j:=3) rfl rfl,by decide,by decide,d.r,hs19.rdA 2 (j:=0) rfl rfl,by decide,by decide,s.a,hs19.rdA 3 (j:=3) rfl rfl,?_⟩⟩⟩⟩)
 rw[w255d,w255s]
 refine mul_call (bm s1) (bm (hc d4)) ⟨_,rfl,.inl (Ext.refl _),mul_call (bm d1) (bm (hc s4)) ⟨_,rfl,.inl (Ext.refl _),mul_call (bm mv) ⟨w1.1,by omega⟩ ⟨_,rfl,.inl (Ext.refl _),by decide,by decide,?_⟩⟩⟩
 rw[fin s1 d1]
 refine hs19.putA 0 (j:=0) rfl (Nat.le_of_ble_eq_true rfl) fun H20 hs20=>?_
 refine hX _ _ (br_y (by decide) ⟨by decide,by decide,d.g,hs20.rdA 2 (j:=1) rfl rfl,by decide,by decide,d.a,hs20.rdA 2 (j:=3) rfl rfl,by decide,by decide,s.g,hs20.rdA 3 (j:=1) rfl rfl,by decide,by decide,s.a,hs20.rdA 3 (j:=3) rfl rfl,c91 (bm d2) (bm d4) ⟨_,rfl,.inl (Ext.refl _),c91 (bm s2) (bm s4) ⟨_,rfl,c90 (bareP_byte d2.1 d4.1) (bareP_byte s2.1 s4.1) ⟨_,rfl,by decide,by decide,s.a+d.a-mulP s.a d.a,hs20.rdA 0 (j:=3) rfl rfl,by decide,by decide,s.g,hs20.rdA 3 (j:=1) rfl rfl,by decide,by decide,d.a,hs20.rdA 2 (j:=3) rfl rfl,by decide,by decide,d.g,hs20.rdA 2 (j:=1) rfl rfl,by decide,by decide,s.a,hs20.rdA 3 (j:=3) rfl rfl,?_⟩⟩⟩⟩)
 rw[w255d,w255s]
 refine mul_call (bm s2) (bm (hc d4)) ⟨_,rfl,.inl (Ext.refl _),mul_call (bm d2) (bm (hc s4)) ⟨_,rfl,.inl (Ext.refl _),mul_call (bm mv) ⟨w2.1,by omega⟩ ⟨_,rfl,.inl (Ext.refl _),by decide,by decide,?_⟩⟩⟩
 rw[fin s2 d2]
 refine hs20.putA 0 (j:=1) rfl (Nat.le_of_ble_eq_true rfl) fun H21 hs21=>?_
 refine hX _ _ (br_y (by decide) ⟨by decide,by decide,d.b,hs21.rdA 2 (j:=2) rfl rfl,by decide,by decide,d.a,hs21.rdA 2 (j:=3) rfl rfl,by decide,by decide,s.b,hs21.rdA 3 (j:=2) rfl rfl,by decide,by decide,s.a,hs21.rdA 3 (j:=3) rfl rfl,c91 (bm d3) (bm d4) ⟨_,rfl,.inl (Ext.refl _),c91 (bm s3) (bm s4) ⟨_,rfl,c90 (bareP_byte d3.1 d4.1) (bareP_byte s3.1 s4.1) ⟨_,rfl,by decide,by decide,s.a+d.a-mulP s.a d.a,hs21.rdA 0 (j:=3) rfl rfl,by decide,by decide,s.b,hs21.rdA 3 (j:=2) rfl rfl,by decide,by decide,d.a,hs21.rdA 2 (j:=3) rfl rfl,by decide,by decide,d.b,hs21.rdA 2 (j:=2) rfl rfl,by decide,by decide,s.a,hs21.rdA 3 (j:=3) rfl rfl,?_⟩⟩⟩⟩)
 rw[w255d,w255s]
 refine mul_call (bm s3) (bm (hc d4)) ⟨_,rfl,.inl (Ext.refl _),mul_call (bm d3) (bm (hc s4)) ⟨_,rfl,.inl (Ext.refl _),mul_call (bm mv) ⟨w3.1,by omega⟩ ⟨_,rfl,.inl (Ext.refl _),by decide,by decide,?_⟩⟩⟩
 rw[fin s3 d3]
 refine hs21.putA 0 (j:=2) rfl (Nat.le_of_ble_eq_true rfl) fun H22 hs22=>?_
 exact hX _ _ (br_n (by decide) ⟨_,rfl,rowIn_whole (hs22.block 0 rfl),rfl,hs22.putAllA 1 (l:=(blendP mode s d).l) rfl rfl fun H11 hs11=>⟨_,rfl,rowIn_whole (hs11.block 1 rfl),hR H11 hs11.ext⟩⟩)
end Go.Proofs
namespace Go.Proofs
open Go.Sh
variable {H0 H:Heap} {σ:List Rs} {R:Value→Heap→Prop}
def segV(ps:List Int)(v:Int)(j:Nat):Int:=ps.getD (j+1) 0+((ps.getD (j+3) 0-ps.getD (j+1) 0)*(v-ps.getD j 0)).tdiv (ps.getD (j+2) 0-ps.getD j 0)
def crvG(ps:List Int)(v:Int):Nat→Nat→Int
 |0,_=>ps.getD (ps.length-1) 0
 |n+1,j=>if j+2<ps.length then(if v<ps.getD (j+2) 0 then segV ps v j else crvG ps v n (j+2)) else ps.getD (ps.length-1) 0
def crvV(ps:List Int)(v:Int):Int:=if v≤ps.getD 0 0 then ps.getD 1 0 else crvG ps v 16 0
def lvlV(ps:List Int)(v:Int):Int:=min 255 ((255*max 0 (v-ps.getD 0 0)+(ps.getD 1 0-ps.getD 0 0)/2)/(ps.getD 1 0-ps.getD 0 0))
def tabV(kind:Int)(ps:List Int)(v:Int):Int:=if kind=1 then crvV ps v else if kind=0 then lvlV ps v else if kind=2 then 255-v else if v≥ps.getD 0 0 then 255 else 0
def tabL(kind:Int)(ps:List Int):List Int:=(List.range 256).map fun v=>tabV kind ps (v:Nat)
theorem tabL_len(kind:Int)(ps:List Int):(tabL kind ps).length=256:=by simp[tabL]
theorem tabL_at{kind:Int}{ps:List Int}{k:Nat}(hk:k<256):(tabL kind ps).getD k 0=tabV kind ps (k:Nat):=tab_getD hk
theorem tdiv_between{d t w:Int}(ht:0≤t∧t≤w)(hw:0<w):(0≤d→0≤(d*t).tdiv w∧(d*t).tdiv w≤d)∧(d≤0→d≤(d*t).tdiv w∧(d*t).tdiv w≤0):=by
 have pos: ∀e:Int,0≤e→0≤(e*t).tdiv w∧(e*t).tdiv w≤e:=fun e he=>by
  have h0:0≤e*t:=Int.mul_nonneg he ht.1
  have h1:e*t≤e*w:=Int.mul_le_mul_of_nonneg_left ht.2 he
  rw[Int.tdiv_eq_ediv_of_nonneg h0]
  refine⟨Int.ediv_nonneg h0 (by omega),?_⟩
  have:=Int.ediv_le_ediv hw h1
  rwa [Int.mul_ediv_cancel _ (by omega)] at this
 refine⟨pos d,fun hd=>?_⟩
 have h:=pos (-d) (by omega)
 rw[Int.neg_mul,Int.neg_tdiv] at h
 omega
theorem segV_byte{ps:List Int}(hok:CrvOk ps){v:Int}{j:Nat}(he:j%2=0)(hj:j+2<ps.length)(h1:ps.getD j 0≤v)(h2:v<ps.getD (j+2) 0):byte (segV ps v j):=by
 have q1:=hok.rng (j+1)
 have q3:=hok.rng (j+3)
 have hb:=tdiv_between (d:=ps.getD (j+3) 0-ps.getD (j+1) 0) (t:=v-ps.getD j 0) (w:=ps.getD (j+2) 0-ps.getD j 0) ⟨by omega,by omega⟩ (by omega)
 unfold segV byte
 rcases Int.le_total 0 (ps.getD (j+3) 0-ps.getD (j+1) 0) with h|h
 ·have:=hb.1 h;omega
 ·have:=hb.2 h;omega
theorem crvG_byte{ps:List Int}(hok:CrvOk ps){v:Int}: ∀(n j:Nat),j%2=0→ps.getD j 0≤v→byte (crvG ps v n j)
 |0,j,_,_=>by have:=hok.rng (ps.length-1);unfold crvG byte;exact this
 |n+1,j,he,h1=>by
  unfold crvG
  split
  ·rename_i hj
   split
   ·rename_i h2;exact segV_byte hok he hj h1 h2
   ·rename_i h2;exact crvG_byte hok n (j+2) (by omega) (by omega)
  ·have:=hok.rng (ps.length-1);unfold byte;exact this
theorem crvV_byte{ps:List Int}(hok:CrvOk ps)(v:Int):byte (crvV ps v):=by
 unfold crvV
 split
 ·have:=hok.rng 1;unfold byte;exact this
 ·rename_i h;exact crvG_byte hok 16 0 rfl (by omega)
theorem tabV_byte{kind:Int}{ps:List Int}(h:tabB kind ps=true){v:Int}(hv:byte v):byte (tabV kind ps v):=by
 unfold tabV
 by_cases k1:kind=1
 ·rw[if_pos k1];subst k1;exact crvV_byte (tabB_crv h) v
 rw[if_neg k1]
 by_cases k0:kind=0
 ·rw[if_pos k0]
  have hk:=tabB_kind h
  unfold kindP at hk
  rw[if_pos k0] at hk
  have hk2:=(of_decide_eq_true hk).2
  have:0≤(255*max 0 (v-ps.getD 0 0)+(ps.getD 1 0-ps.getD 0 0)/2)/(ps.getD 1 0-ps.getD 0 0):=Int.ediv_nonneg (by omega) (by omega)
  unfold lvlV byte
  omega
 rw[if_neg k0]
 unfold byte at*
 split
 ·omega
 ·split<;>omega
theorem tabL_ok{kind:Int}{ps:List Int}(h:tabB kind ps=true):TabOk8 (tabL kind ps):=fun i=>by
 by_cases hi:i<256
 ·rw[tabL_at hi];exact tabV_byte h (by unfold byte;omega)
 ·rw[List.getD_eq_getElem?_getD,List.getElem?_eq_none (by rw[tabL_len];omega)];unfold byte;decide
theorem crvG_end{ps:List Int}(hok:CrvOk ps){v:Int}(h:ps.getD (ps.length-2) 0≤v): ∀(n j:Nat),j%2=0→crvG ps v n j=ps.getD (ps.length-1) 0
 |0,j,_=>rfl
 |n+1,j,he=>by
  obtain⟨l1,l2,l3⟩:=hok.len
  unfold crvG
  split
  ·rename_i hj
   have mono: ∀m i,i%2=0→i+2*m+2=ps.length→ps.getD i 0≤ps.getD (ps.length-2) 0:=by
    intro m
    induction m with
    |zero=>intro i _ hi;rw[show ps.length-2=i from by omega];exact Int.le_refl _
    |succ m ih=>
     intro i hi2 hi
     have:=ih (i+2) (by omega) (by omega)
     have h2:=hok.inc (i+2) (by omega) (by omega) (by omega)
     rw[show i+2-2=i from by omega] at h2
     omega
   have:=mono ((ps.length-(j+2)-2)/2) (j+2) (by omega) (by omega)
   rw[if_neg (by omega)]
   exact crvG_end hok h n (j+2) (by omega)
  ·rfl
theorem fill_put{L:List Int}{k:Nat}{v:Int}(hk:k<L.length)(hv:v=L.getD k 0):(fillA L k).set k v=fillA L (k+1):=by rw[hv];exact fillA_set hk
theorem crv_call{p:Option Addr}{n c:Nat}{ps:List Int}(h:IS H p n (ints ps))(hok:CrvOk ps)(hR: ∀b H',St H H' [.cell b (ints (tabL 1 ps)).toArray 3]→R (.slice (some ⟨b,0,none⟩) 256 256) H'):CallsH Try.prog 70 #[.slice p n c] H R:=by
 refine Try.s70 ?_
 unfold Try.S70
 have hlen:=h.length
 obtain⟨l1,l2,l3⟩:=hok.len
 refine⟨by decide,by decide,by decide,by decide,?_⟩
 rw[repsA256,wrap_id (n:=(n:Int)-2) (by omega) (by omega),wrap_id (n:=(n:Int)-1) (by omega) (by omega)]
 refine(St.nil H).alc fun b2 H3 hs3=>?_
 intro X hX
 have go: ∀k,k≤256→ ∀H1,St H H1 [.cell b2 (ints (fillA (tabL 1 ps) k)).toArray 3]→X [.int .i64 (k:Nat)] H1:=by
  refine upto fun k hk ih H1 hs1=>hX _ _ (br_dec (fun hlt=>?_) fun hge=>?_)
  ·have hk':k<256:=by have:(k:Int)<256:=hlt;omega
   have h1:=h.ext hs1.ext
   have put: ∀(v:Int),v=crvV ps (k:Nat)→ ∃a11:Addr,(some ⟨b2,0,none⟩)=some a11∧0≤(k:Int)∧(k:Int)<(((Int.toNat (256:Int)):Nat):Int)∧stAt H1 (Addr.add a11 (Int.toNat (k:Int)*1)) [Value.int .i64 v] fun H_12=>X [Value.int .i64 (IntKind.wrap .i64 ((k:Int)+(1:Int)))] H_12:=fun v hv=>by
    refine⟨_,rfl,by omega,hlt,?_⟩
    rw[show Int.toNat (k:Int)*1=k from Nat.mul_one k,add_none,Nat.zero_add,wrap_id (by omega) (by omega)]
    refine hs1.putA 0 rfl (by rw[fillA_len (by rw[tabL_len];omega),tabL_len];exact hk') fun H2 hs2=>ih hk' H2 ?_
    have e:=fill_put (L:=tabL 1 ps) (k:=k) (v:=v) (by rw[tabL_len];exact hk') (by rw[tabL_at hk',hv];unfold tabV;rw[if_pos rfl])
    have hs2:St H H2 [.cell b2 (ints ((fillA (tabL 1 ps) k).set k v)).toArray 3]:=hs2
    rw[e] at hs2
    exact hs2
   refine rdG (i:=0) h1 (by omega) (by omega) (br_dec (fun hv0=>rdG (i:=1) h1 (by omega) (by omega) (put _ (by unfold crvV;rw[if_pos (show(k:Int)≤ps.getD 0 0 from hv0)];rfl))) fun hv0=>?_)
   have hv0: ¬(k:Int)≤ps.getD 0 0:=hv0
   refine rdG (i:=(n:Int)-2) h1 (by omega) (by omega) (br_dec (fun hv1=>rdG (i:=(n:Int)-1) h1 (by omega) (by omega) (put _ ?_)) fun hv1=>?_)
   ·rw[show Int.toNat ((n:Int)-2)=ps.length-2 from by omega] at hv1
    rw[show Int.toNat ((n:Int)-1)=ps.length-1 from by omega]
    unfold crvV
    rw[if_neg hv0,crvG_end hok hv1 16 0 rfl]
   rw[show Int.toNat ((n:Int)-2)=n-2 from by omega] at hv1
   intro X2 hX2
   have go2: ∀j,j≤16→2*j+2≤n→ps.getD (2*j) 0≤(k:Int)→crvV ps (k:Nat)=crvG ps (k:Nat) (16-j) (2*j)→X2 [.int .i64 ((2*j:Nat):Int)] H1:=by
    refine upto fun j hj ih2 hjn hpj hcv=>hX2 _ _ ?_
    have hne:2*j+2≠n:=fun hh=>by
     have:2*j=n-2:=by omega
     rw[this] at hpj;omega
    have hj4:2*j+4≤n:=by omega
    rw[show 16-j=(16-(j+1))+1 from by omega] at hcv
    unfold crvG at hcv
    rw[if_pos (by omega)] at hcv
    rw[wrap_id (n:=((2*j:Nat):Int)+2) (by omega) (by omega),wrap_id (n:=((2*j:Nat):Int)+1) (by omega) (by omega),wrap_id (n:=((2*j:Nat):Int)+3) (by omega) (by omega)]
    refine rdG (i:=((2*j:Nat):Int)+2) h1 (by omega) (by omega) ?_
    rw[show Int.toNat (((2*j:Nat):Int)+2)=2*j+2 from by omega]
    refine br_dec (fun hle=>?_) fun hgt=>?_
    ·rw[if_neg (by omega)] at hcv
     have:=ih2 (by omega) (by omega) (by rw[show 2*(j+1)=2*j+2 from by omega];exact hle) (by rw[hcv,show 2*(j+1)=2*j+2 from by omega])
     rw[show((2*(j+1):Nat):Int)=((2*j:Nat):Int)+2 from by omega] at this
     exact this
    ·rw[if_pos (by omega)] at hcv
     refine rdG (i:=((2*j:Nat):Int)+1) h1 (by omega) (by omega) (rdG (i:=((2*j:Nat):Int)+3) h1 (by omega) (by omega) (rdG (i:=((2*j:Nat):Int)+1) h1 (by omega) (by omega) (rdG (i:=((2*j:Nat):Int)) h1 (by omega) (by omega) (rdG (i:=((2*j:Nat):Int)+2) h1 (by omega) (by omega) (rdG (i:=((2*j:Nat):Int)) h1 (by omega) (by omega) ⟨?_,put _ ?_⟩)))))
     ·have hi:=hok.inc (2*j+2) (by omega) (by omega) (by omega)
      rw[show 2*j+2-2=2*j from by omega] at hi
      rw[show Int.toNat (((2*j:Nat):Int)+2)=2*j+2 from by omega,Int.toNat_natCast]
      have r1:=hok.rng (2*j+2)
      have r2:=hok.rng (2*j)
      rw[wrap_id (by omega) (by omega)]
      omega
     ·rw[hcv,show Int.toNat (((2*j:Nat):Int)+2)=2*j+2 from by omega,Int.toNat_natCast,show Int.toNat (((2*j:Nat):Int)+1)=2*j+1 from by omega,show Int.toNat (((2*j:Nat):Int)+3)=2*j+3 from by omega]
      have r0:=hok.rng (2*j)
      have r1:=hok.rng (2*j+1)
      have r2:=hok.rng (2*j+2)
      have r3:=hok.rng (2*j+3)
      have hb:=segV_byte hok (v:=(k:Nat)) (j:=2*j) (by omega) (by omega) hpj (by omega)
      unfold segV byte at hb
      unfold segV
      generalize ps.getD (2*j) 0=a at*
      generalize ps.getD (2*j+1) 0=b at*
      generalize ps.getD (2*j+2) 0=cc at*
      generalize ps.getD (2*j+3) 0=d at*
      have hm: -65025≤(d-b)*((k:Int)-a)∧(d-b)*((k:Int)-a)≤65025:=mul_bd (x:=d-b) (y:=(k:Int)-a) (A:=255) (B:=255) (by omega) (by omega)
      rw[wrap_id (n:=d-b) (by omega) (by omega),wrap_id (n:=(k:Int)-a) (by omega) (by omega),wrap_id (n:=cc-a) (by omega) (by omega),wrap_id (n:=(d-b)*((k:Int)-a)) (by omega) (by omega)]
      generalize Int.tdiv ((d-b)*((k:Int)-a)) (cc-a)=q at hb ⊢
      rw[wrap_id (n:=q) (by omega) (by omega),wrap_id (by omega) (by omega)]
   exact go2 0 (by omega) (by omega) (by rw[Nat.mul_zero];omega) (by unfold crvV;rw[if_neg hv0])
  ·have hk6: ¬(k:Int)<256:=hge
   have:k=256:=by omega
   subst this
   have e:fillA (tabL 1 ps) 256=tabL 1 ps:=by have:=fillA_all (tabL 1 ps);rw[tabL_len] at this;exact this
   rw[e] at hs1
   exact hR b2 H1 hs1
 refine go 0 (by omega) H3 ?_
 rw[fillA_zero,tabL_len]
 exact hs3
theorem tab_call{kind:Int}{p:Option Addr}{n c:Nat}{ps:List Int}(h:IS H p n (ints ps))(hn:n≤1000000000000)(hb:tabB kind ps=true)
 (hR: ∀b H',St H H' [.cell b (ints (tabL kind ps)).toArray 3]→R (.tuple #[.slice (some ⟨b,0,none⟩) 256 256,.bool true]) H'):CallsH Try.prog 53 #[.int .i64 kind,.slice p n c] H R:=by
 refine Try.s53 ?_
 unfold Try.S53
 have hlen:=h.length
 refine c69 h hn ⟨_,rfl,br_not (fun hf=>by rw[hb] at hf;cases hf) fun _=>br_eq (fun hk1=>?_) fun hk1=>?_⟩
 ·subst hk1
  exact crv_call h (tabB_crv hb) fun b H' he=>⟨_,_,_,rfl,hR b H' he⟩
 refine⟨by decide,by decide,by decide,by decide,?_⟩
 rw[repsA256]
 refine(St.nil H).alc fun b9 H10 hs10=>?_
 intro X hX
 have hrng:=tabB_rng hb
 have hkind:=tabB_kind hb
 unfold kindP at hkind
 have go: ∀k,k≤256→ ∀H1,St H H1 [.cell b9 (ints (fillA (tabL kind ps) k)).toArray 3]→X [.int .i64 (k:Nat)] H1:=by
  refine upto fun k hk ih H1 hs1=>hX _ _ (br_dec (fun hlt=>?_) fun hge=>?_)
  ·have hk':k<256:=by have:(k:Int)<256:=hlt;omega
   have g1:=h.ext hs1.ext
   intro J hJ
   have same:(tabL kind ps).getD k 0=0→J [] H1:=fun hz=>hJ _ (by
    rw[wrap_id (by omega) (by omega)]
    refine ih hk' H1 ?_
    have e:=fillA_set (L:=tabL kind ps) (s:=k) (by rw[tabL_len];exact hk')
    rw[hz,fillA_set0 (by rw[tabL_len];exact hk')] at e
    rw[←e];exact hs1)
   have put: ∀(v:Int),v=tabV kind ps (k:Nat)→ ∃a11:Addr,(some ⟨b9,0,none⟩)=some a11∧0≤(k:Int)∧(k:Int)<(((Int.toNat (256:Int)):Nat):Int)∧stAt H1 (Addr.add a11 (Int.toNat (k:Int)*1)) [Value.int .i64 v] fun H_12=>J [] H_12:=fun v hv=>by
    refine⟨_,rfl,by omega,hlt,?_⟩
    rw[show Int.toNat (k:Int)*1=k from Nat.mul_one k,add_none,Nat.zero_add]
    refine hs1.putA 0 rfl (by rw[fillA_len (by rw[tabL_len];omega),tabL_len];exact hk') fun H2 hs2=>hJ _ ?_
    rw[wrap_id (by omega) (by omega)]
    refine ih hk' H2 ?_
    have e:=fill_put (L:=tabL kind ps) (k:=k) (v:=v) (by rw[tabL_len];exact hk') (by rw[tabL_at hk',hv])
    have hs2:St H H2 [.cell b9 (ints ((fillA (tabL kind ps) k).set k v)).toArray 3]:=hs2
    rw[e] at hs2
    exact hs2
   refine br_eq (fun k0=>?_) fun k0=>br_eq (fun k2=>put _ ?_) fun k2=>br_eq (fun k3=>?_) fun k3=>?_
   ·rw[if_pos k0] at hkind
    have hk2:=of_decide_eq_true hkind
    have r1:=hrng 1
    have r0:=hrng 0
    refine rdG (i:=1) g1 (by omega) (by omega) (rdG (i:=0) g1 (by omega) (by omega) (rdG (i:=0) g1 (by omega) (by omega) ⟨by decide,?_,put _ ?_⟩))
    ·show IntKind.wrap .i64 (ps.getD 1 0-ps.getD 0 0)≠0
     rw[wrap_id (by omega) (by omega)]
     omega
    ·show _=tabV kind ps (k:Nat)
     unfold tabV
     rw[if_neg hk1,if_pos k0]
     unfold lvlV
     show min 255 (IntKind.wrap .i64 (Int.tdiv (IntKind.wrap .i64 ((IntKind.wrap .i64 (255*max 0 (IntKind.wrap .i64 ((k:Int)-ps.getD 0 0))))+(IntKind.wrap .i64 (Int.tdiv (IntKind.wrap .i64 (ps.getD 1 0-ps.getD 0 0)) 2)))) (IntKind.wrap .i64 (ps.getD 1 0-ps.getD 0 0))))=_
     generalize ps.getD 0 0=a at*
     generalize ps.getD 1 0=b at*
     have hd:0≤(b-a)/2∧(b-a)/2≤255:=by omega
     rw[wrap_id (n:=(k:Int)-a) (by omega) (by omega),wrap_id (n:=b-a) (by omega) (by omega),Int.tdiv_eq_ediv_of_nonneg (a:=b-a) (by omega),wrap_id (n:=(b-a)/2) (by omega) (by omega),wrap_id (n:=255*max 0 ((k:Int)-a)) (by omega) (by omega),wrap_id (n:=255*max 0 ((k:Int)-a)+(b-a)/2) (by omega) (by omega),Int.tdiv_eq_ediv_of_nonneg (by omega)]
     have q1:0≤(255*max 0 ((k:Int)-a)+(b-a)/2)/(b-a):=Int.ediv_nonneg (by omega) (by omega)
     have q2:(255*max 0 ((k:Int)-a)+(b-a)/2)/(b-a)≤255*max 0 ((k:Int)-a)+(b-a)/2:=Int.ediv_le_self _ (by omega)
     rw[wrap_id (by omega) (by omega)]
   ·unfold tabV
    rw[if_neg hk1,if_neg k0,if_pos k2,wrap_id (by omega) (by omega)]
   ·rw[if_neg k0,if_neg hk1,if_neg k2,if_pos k3] at hkind
    have hk2:=of_decide_eq_true hkind
    have hv:tabV kind ps (k:Nat)=if (k:Int)≥ps.getD 0 0 then 255 else 0:=by
     unfold tabV
     rw[if_neg hk1,if_neg k0,if_neg k2]
    refine rdG (i:=0) g1 (by omega) (by omega) (br_dec (fun hge=>put _ ?_) fun hge=>same ?_)
    ·rw[hv,if_pos (show(k:Int)≥ps.getD 0 0 from hge)]
    ·rw[tabL_at hk',hv,if_neg (show ¬(k:Int)≥ps.getD 0 0 from hge)]
   ·rw[if_neg k0,if_neg hk1,if_neg k2,if_neg k3] at hkind
    cases hkind
  ·have hk6: ¬(k:Int)<256:=hge
   have:k=256:=by omega
   subst this
   have e:fillA (tabL kind ps) 256=tabL kind ps:=by have:=fillA_all (tabL kind ps);rw[tabL_len] at this;exact this
   rw[e] at hs1
   exact hR b9 H1 hs1
 refine go 0 (by omega) H10 ?_
 rw[fillA_zero,tabL_len]
 exact hs10
end Go.Proofs
namespace Go.Proofs
open Go.Sh
variable {H0 H:Heap} {σ:List Rs} {R:Value→Heap→Prop}
def picAt(w h:Int)(P:List Int)(x y:Int):Int:=if x<0∨x≥w∨y<0∨y≥h then 0 else P.getD (y*w+x).toNat 0
def wsum(x0 x1 x2 x3 s t:Int):Int:=(32768+x0*((256-s)*(256-t))+x1*(s*(256-t))+x2*((256-s)*t)+x3*(s*t))/65536
def smC(w h:Int)(P:List Int)(u v:Int):C4:=
 let i:=(u-32768)/65536;let j:=(v-32768)/65536;let s:=(u-32768)/256%256;let t:=(v-32768)/256%256
 let a:=spl (picAt w h P i j);let b:=spl (picAt w h P (i+1) j);let c:=spl (picAt w h P i (j+1));let d:=spl (picAt w h P (i+1) (j+1))
 ⟨wsum a.r b.r c.r d.r s t,wsum a.g b.g c.g d.g s t,wsum a.b b.b c.b d.b s t,wsum a.a b.a c.a d.a s t⟩
def atU(b0 b1 b4 x y:Int):Int:=(b0*(2*x+1)+b1*(2*y+1))/2+b4
def atP(w h:Int)(P:List Int)(m:M6)(x y:Int)(smooth:Bool):Int:=
 if smooth then joinP (smC w h P (atU m.a m.b m.e x y) (atU m.c m.d m.f x y)) else picAt w h P (atU m.a m.b m.e x y/65536) (atU m.c m.d m.f x y/65536)
theorem wsum_mono{x0 x1 x2 x3 y0 y1 y2 y3 s t:Int}(hs:byte s)(ht:byte t)(h0:x0≤y0)(h1:x1≤y1)(h2:x2≤y2)(h3:x3≤y3):wsum x0 x1 x2 x3 s t≤wsum y0 y1 y2 y3 s t:=by
 unfold byte at hs ht
 have e0:=Int.mul_le_mul_of_nonneg_right h0 (Int.mul_nonneg (show 0≤256-s by omega) (show 0≤256-t by omega))
 have e1:=Int.mul_le_mul_of_nonneg_right h1 (Int.mul_nonneg (show 0≤s by omega) (show 0≤256-t by omega))
 have e2:=Int.mul_le_mul_of_nonneg_right h2 (Int.mul_nonneg (show 0≤256-s by omega) (show 0≤t by omega))
 have e3:=Int.mul_le_mul_of_nonneg_right h3 (Int.mul_nonneg (show 0≤s by omega) (show 0≤t by omega))
 unfold wsum
 generalize x0*((256-s)*(256-t))=p0 at*
 generalize x1*(s*(256-t))=p1 at*
 generalize x2*((256-s)*t)=p2 at*
 generalize x3*(s*t)=p3 at*
 generalize y0*((256-s)*(256-t))=q0 at*
 generalize y1*(s*(256-t))=q1 at*
 generalize y2*((256-s)*t)=q2 at*
 generalize y3*(s*t)=q3 at*
 omega
theorem wsum_const(x s t:Int):wsum x x x x s t=x:=by
 have e:(256-s)*(256-t)+s*(256-t)+(256-s)*t+s*t=65536:=by
  rw[Int.sub_mul,Int.mul_sub,Int.mul_sub,Int.sub_mul];omega
 unfold wsum
 have e2:x*((256-s)*(256-t))+x*(s*(256-t))+x*((256-s)*t)+x*(s*t)=x*65536:=by
  rw[←Int.mul_add,←Int.mul_add,←Int.mul_add,e]
 generalize x*((256-s)*(256-t))=p0 at*
 generalize x*(s*(256-t))=p1 at*
 generalize x*((256-s)*t)=p2 at*
 generalize x*(s*t)=p3 at*
 omega
theorem wsum_bd{x0 x1 x2 x3 s t:Int}(hs:byte s)(ht:byte t)(h0:byte x0)(h1:byte x1)(h2:byte x2)(h3:byte x3):byte (wsum x0 x1 x2 x3 s t):=by
 have l:=wsum_mono hs ht h0.1 h1.1 h2.1 h3.1
 have u:=wsum_mono hs ht h0.2 h1.2 h2.2 h3.2
 rw[wsum_const] at l u
 exact⟨l,u⟩
structure PicOk(w h:Int)(P:List Int):Prop where
 hw:0≤w∧w≤32768
 hh:0≤h∧h≤32768
 len:(P.length:Int)=w*h
 px:P.all pixelB=true
theorem in_pic{w h x y:Int}{n:Nat}(hl:(n:Int)=w*h)(hx:0≤x∧x<w)(hy:0≤y∧y<h):0≤y*w+x∧y*w+x<n∧0≤y*w:=by
 have h1:0≤y*w:=Int.mul_nonneg hy.1 (by omega)
 have h2:(y+1)*w≤h*w:=Int.mul_le_mul_of_nonneg_right (by omega) (by omega)
 rw[Int.add_mul,Int.one_mul,Int.mul_comm h w] at h2
 omega
theorem PicOk.at{w h:Int}{P:List Int}(hp:PicOk w h P)(x y:Int):pixelB (picAt w h P x y)=true:=by
 unfold picAt
 split
 ·exact pixZ0
 ·rename_i hn
  have:=in_pic hp.len (x:=x) (y:=y) (by omega) (by omega)
  have hlt:(y*w+x).toNat<P.length:=by omega
  rw[List.getD_eq_getElem?_getD,List.getElem?_eq_getElem hlt]
  exact List.all_eq_true.1 hp.px _ (List.getElem_mem hlt)
theorem spl_ok{v:Int}(h:pixelB v=true):OkC (spl v):=(pixelB_iff.1 h).2
theorem smC_ok{w h:Int}{P:List Int}(hp:PicOk w h P)(u v:Int):OkC (smC w h P u v):=by
 have hs:byte ((u-32768)/256%256):=by unfold byte;omega
 have ht:byte ((v-32768)/256%256):=by unfold byte;omega
 have a:=spl_ok (hp.at ((u-32768)/65536) ((v-32768)/65536))
 have b:=spl_ok (hp.at ((u-32768)/65536+1) ((v-32768)/65536))
 have c:=spl_ok (hp.at ((u-32768)/65536) ((v-32768)/65536+1))
 have d:=spl_ok (hp.at ((u-32768)/65536+1) ((v-32768)/65536+1))
 obtain⟨a1,a2,a3,a4⟩:=a.bytes
 obtain⟨b1,b2,b3,b4⟩:=b.bytes
 obtain⟨c1,c2,c3,c4⟩:=c.bytes
 obtain⟨d1,d2,d3,d4⟩:=d.bytes
 exact⟨⟨(wsum_bd hs ht a1 b1 c1 d1).1,wsum_mono hs ht a.r.2 b.r.2 c.r.2 d.r.2⟩,⟨(wsum_bd hs ht a2 b2 c2 d2).1,wsum_mono hs ht a.g.2 b.g.2 c.g.2 d.g.2⟩,⟨(wsum_bd hs ht a3 b3 c3 d3).1,wsum_mono hs ht a.b.2 b.b.2 c.b.2 d.b.2⟩,(wsum_bd hs ht a4 b4 c4 d4).2⟩
theorem atP_ok{w h:Int}{P:List Int}(hp:PicOk w h P)(m:M6)(x y:Int)(sm:Bool):pixelB (atP w h P m x y sm)=true:=by
 unfold atP
 split
 ·exact ok_join (smC_ok hp _ _)
 ·exact hp.at _ _
def picA(w h:Int)(p:Option Addr)(l c:Nat):Array Value:=#[.int .i64 w,.int .i64 h,.slice p l c]
theorem c94{w h:Int}{p:Option Addr}{l c:Nat}{P:List Int}{x y:Int}(hp:IS H p l (ints P))(hw:0≤w∧w≤32768)(hh:0≤h∧h≤32768)(hl:(P.length:Int)=w*h)(hR: ∀H',Ext H H'→R (.int .i64 (picAt w h P x y)) H'):CallsH Try.prog 94 #[.agg (picA w h p l c),.int .i64 x,.int .i64 y] H R:=by
 refine Try.s94 ?_
 unfold Try.S94
 refine(St.nil H).alc fun b4 H5 hs5=>?_
 intro J6 hJ6
 have out:(x<0∨x≥w∨y<0∨y≥h)→R (.int .i64 0) H5:=fun ho=>by
  have:=hR H5 hs5.ext
  rw[show picAt w h P x y=0 from by unfold picAt;rw[if_pos ho]] at this;exact this
 refine br_dec (fun h1=>out (.inl h1)) fun h1=>⟨w,hs5.get 0 rfl (j:=0) rfl,br_dec (fun h2=>out (.inr (.inl h2))) fun h2=>br_dec (fun h3=>out (.inr (.inr (.inl h3)))) fun h3=>⟨h,hs5.get 0 rfl (j:=1) rfl,br_dec (fun h4=>out (.inr (.inr (.inr h4)))) fun h4=>hJ6 _ ?_⟩⟩
 have hin:=in_pic hl (x:=x) (y:=y) (by omega) (by omega)
 have hlen:=hp.length
 have hwh:w*h≤32768*32768:=Int.mul_le_mul hw.2 hh.2 hh.1 (by decide)
 refine⟨p,l,c,hs5.get 0 rfl (j:=2) rfl,w,hs5.get 0 rfl (j:=0) rfl,?_⟩
 rw[wrap_id (n:=y*w) (by omega) (by omega),wrap_id (n:=y*w+x) (by omega) (by omega)]
 refine rdG (hp.ext hs5.ext) hin.1 (by omega) ?_
 have:=hR H5 hs5.ext
 rw[show picAt w h P x y=P.getD (y*w+x).toNat 0 from by unfold picAt;rw[if_neg (by omega)]] at this
 exact this
theorem c93{w h:Int}{p:Option Addr}{l c:Nat}{P:List Int}{u v:Int}(hp:IS H p l (ints P))(hok:PicOk w h P)(hu: -1000000000000000≤u∧u≤1000000000000000)(hv: -1000000000000000≤v∧v≤1000000000000000)(hR: ∀H',Ext H H'→R (.int .i64 (joinP (smC w h P u v))) H'):CallsH Try.prog 93 #[.agg (picA w h p l c),.int .i64 u,.int .i64 v] H R:=by
 refine Try.s93 ?_
 unfold Try.S93
 have e16: ∀z,shrI .i64 z (16:Int)=z/65536:=shr16'
 have e8: ∀z,shrI .i64 z (8:Int)=z/256:=shr8'
 simp only[wrap_id (n:=u-32768) (by omega) (by omega),wrap_id (n:=v-32768) (by omega) (by omega),e16,e8,and255,wrap_id (n:=(u-32768)/65536+1) (by omega) (by omega),wrap_id (n:=(v-32768)/65536+1) (by omega) (by omega)]
 have hs:byte ((u-32768)/256%256):=by unfold byte;omega
 have ht:byte ((v-32768)/256%256):=by unfold byte;omega
 generalize hi:(u-32768)/65536=i
 generalize hj:(v-32768)/65536=j
 generalize hsx:(u-32768)/256%256=s at hs ⊢
 generalize htx:(v-32768)/256%256=t at ht ⊢
 have hsm:smC w h P u v=⟨wsum (spl (picAt w h P i j)).r (spl (picAt w h P (i+1) j)).r (spl (picAt w h P i (j+1))).r (spl (picAt w h P (i+1) (j+1))).r s t,wsum (spl (picAt w h P i j)).g (spl (picAt w h P (i+1) j)).g (spl (picAt w h P i (j+1))).g (spl (picAt w h P (i+1) (j+1))).g s t,wsum (spl (picAt w h P i j)).b (spl (picAt w h P (i+1) j)).b (spl (picAt w h P i (j+1))).b (spl (picAt w h P (i+1) (j+1))).b s t,wsum (spl (picAt w h P i j)).a (spl (picAt w h P (i+1) j)).a (spl (picAt w h P i (j+1))).a (spl (picAt w h P (i+1) (j+1))).a s t⟩:=by
  unfold smC;rw[hi,hj,hsx,htx]
 have hsmok:=smC_ok hok u v
 rw[hsm] at hR hsmok
 have y0:=spl_byte (picAt w h P i j)
 have y1:=spl_byte (picAt w h P (i+1) j)
 have y2:=spl_byte (picAt w h P i (j+1))
 have y3:=spl_byte (picAt w h P (i+1) (j+1))
 have at_: ∀{H1:Heap} {R1:Value→Heap→Prop} (x y:Int),Ext H H1→(∀H',Ext H1 H'→R1 (.int .i64 (picAt w h P x y)) H')→CallsH Try.prog 94 #[.agg (picA w h p l c),.int .i64 x,.int .i64 y] H1 R1:=fun x y he hr=>c94 (hp.ext he) hok.hw hok.hh hok.len hr
 have sp_: ∀{H1:Heap} {R1:Value→Heap→Prop} (z:Int),(∀H',Ext H1 H'→R1 (.agg (ints (spl z).l).toArray) H')→CallsH Try.prog 63 #[.int .i64 z] H1 R1:=fun z hr=>c63 hr
 obtain⟨A,hA⟩: ∃A,A=spl (picAt w h P i j):=⟨_,rfl⟩
 obtain⟨B,hB⟩: ∃B,B=spl (picAt w h P (i+1) j):=⟨_,rfl⟩
 obtain⟨C,hC⟩: ∃C,C=spl (picAt w h P i (j+1)):=⟨_,rfl⟩
 obtain⟨D,hD⟩: ∃D,D=spl (picAt w h P (i+1) (j+1)):=⟨_,rfl⟩
 rw[←hA,←hB,←hC,←hD] at hR hsmok
 rw[←hA] at y0
 rw[←hB] at y1
 rw[←hC] at y2
 rw[←hD] at y3
 have w0:IntKind.wrap .i64 (IntKind.wrap .i64 (256-s)*IntKind.wrap .i64 (256-t))=(256-s)*(256-t):=by
  unfold byte at hs ht
  have:=mul_bd (x:=256-s) (y:=256-t) (A:=256) (B:=256) (by omega) (by omega)
  rw[wrap_id (n:=256-s) (by omega) (by omega),wrap_id (n:=256-t) (by omega) (by omega),wrap_id (by omega) (by omega)]
 have w1:IntKind.wrap .i64 (s*IntKind.wrap .i64 (256-t))=s*(256-t):=by
  unfold byte at hs ht
  have:=mul_bd (x:=s) (y:=256-t) (A:=256) (B:=256) (by omega) (by omega)
  rw[wrap_id (n:=256-t) (by omega) (by omega),wrap_id (by omega) (by omega)]
 have w2:IntKind.wrap .i64 (IntKind.wrap .i64 (256-s)*t)=(256-s)*t:=by
  unfold byte at hs ht
  have:=mul_bd (x:=256-s) (y:=t) (A:=256) (B:=256) (by omega) (by omega)
  rw[wrap_id (n:=256-s) (by omega) (by omega),wrap_id (by omega) (by omega)]
 have w3:IntKind.wrap .i64 (s*t)=s*t:=by
  unfold byte at hs ht
  have:=mul_bd (x:=s) (y:=t) (A:=256) (B:=256) (by omega) (by omega)
  rw[wrap_id (by omega) (by omega)]
 rw[w0,w1,w2,w3]
 have wb:(0≤(256-s)*(256-t)∧(256-s)*(256-t)≤65536)∧(0≤s*(256-t)∧s*(256-t)≤65536)∧(0≤(256-s)*t∧(256-s)*t≤65536)∧(0≤s*t∧s*t≤65536):=by
  unfold byte at hs ht
  have q0:=mul_bd (x:=256-s) (y:=256-t) (A:=256) (B:=256) (by omega) (by omega)
  have q1:=mul_bd (x:=s) (y:=256-t) (A:=256) (B:=256) (by omega) (by omega)
  have q2:=mul_bd (x:=256-s) (y:=t) (A:=256) (B:=256) (by omega) (by omega)
  have q3:=mul_bd (x:=s) (y:=t) (A:=256) (B:=256) (by omega) (by omega)
  have p0:=Int.mul_nonneg (show 0≤256-s by omega) (show 0≤256-t by omega)
  have p1:=Int.mul_nonneg (show 0≤s by omega) (show 0≤256-t by omega)
  have p2:=Int.mul_nonneg (show 0≤256-s by omega) (show 0≤t by omega)
  have p3:=Int.mul_nonneg (show 0≤s by omega) (show 0≤t by omega)
  omega
 -- one product more
 have add1: ∀{acc x wt:Int},byte x→0≤wt∧wt≤65536→ -1000000000000≤acc∧acc≤1000000000000→IntKind.wrap .i64 (acc+IntKind.wrap .i64 (x*wt))=acc+x*wt∧0≤x*wt∧x*wt≤16777216:=by
  intro acc x wt hx hw ha
  have p:=Int.mul_nonneg hx.1 hw.1
  have q:=Int.mul_le_mul_of_nonneg_right hx.2 hw.1
  have q2:x*wt≤16777216:=by omega
  rw[wrap_id (n:=x*wt) (by omega) (by omega),wrap_id (by omega) (by omega)]
  exact⟨rfl,p,q2⟩
 refine(St.nil H).alc fun b4 H5 hs5=>⟨by decide,by decide,by decide,by decide,?_⟩
 intro J6 hJ6
 have after: ∀(bf:Nat) (H8:Heap),St H H8 [.cell bf (ints (A.l++B.l++C.l++D.l)).toArray 137]→J6 [.pointer (some ⟨bf,0,none⟩)] H8:=fun bf H8 hs8=>by
  refine hJ6 _ _ (hs8.alc fun b9 H10 hs10=>⟨rfl,hs10.putAllA 0 (l:=[(256-s)*(256-t),s*(256-t),(256-s)*t,s*t]) rfl rfl fun H11 hs11=>hs11.alc fun b12 H13 hs13=>?_⟩)
  intro X14 hX14
  have col: ∀(c:Nat) (H1:Heap) (L:List Int) (x0 x1 x2 x3:Int),c<4→L.length=4→(A.l++B.l++C.l++D.l)[c]?=some x0→(A.l++B.l++C.l++D.l)[4+c]?=some x1→(A.l++B.l++C.l++D.l)[8+c]?=some x2→(A.l++B.l++C.l++D.l)[12+c]?=some x3→byte x0→byte x1→byte x2→byte x3→
   St H H1 [.cell b12 (ints L).toArray 109,.cell b9 (ints [(256-s)*(256-t),s*(256-t),(256-s)*t,s*t]).toArray 109,.cell bf (ints (A.l++B.l++C.l++D.l)).toArray 137]→
   (∀H2,St H H2 [.cell b12 (ints (L.set c (wsum x0 x1 x2 x3 s t))).toArray 109,.cell b9 (ints [(256-s)*(256-t),s*(256-t),(256-s)*t,s*t]).toArray 109,.cell bf (ints (A.l++B.l++C.l++D.l)).toArray 137]→X14 [.int .i64 ((c+1:Nat):Int)] H2)→X14 [.int .i64 (c:Nat)] H1:=by
   intro c H1 L x0 x1 x2 x3 hc hL g0 g1 g2 g3 z0 z1 z2 z3 hs1 hK
   obtain⟨v0,v1,v2,v3⟩:=wb
   refine hX14 _ _ (br_y (by omega) ⟨_,rfl,rowIn_whole (hs1.block 1 rfl),?_⟩)
   intro X18 hX18
   have rd: ∀(k:Nat) (x:Int),(A.l++B.l++C.l++D.l)[4*k+c]?=some x→Sh.cell H1 (Addr.add (Addr.add ⟨bf,0,none⟩ (k*4)) (Int.toNat (c:Int)*1))=some (.int .i64 x):=fun k x hx=>by
    rw[Int.toNat_natCast,Nat.mul_one,add_none,add_none,Nat.zero_add,Nat.mul_comm k 4]
    exact hs1.rdA 2 rfl hx
   obtain⟨a0,p0,r0⟩:=add1 (acc:=32768) z0 v0 (by omega)
   obtain⟨a1,p1,r1⟩:=add1 (acc:=32768+x0*((256-s)*(256-t))) z1 v1 (by omega)
   obtain⟨a2,p2,r2⟩:=add1 (acc:=32768+x0*((256-s)*(256-t))+x1*(s*(256-t))) z2 v2 (by omega)
   obtain⟨a3,p3,r3⟩:=add1 (acc:=32768+x0*((256-s)*(256-t))+x1*(s*(256-t))+x2*((256-s)*t)) z3 v3 (by omega)
   refine hX18 _ _ _ (br_y (by decide) ⟨by decide,by decide,_,rfl,by decide,by decide,by omega,by omega,x0,rd 0 x0 (by simpa using g0),?_⟩)
   rw[a0]
   refine hX18 _ _ _ (br_y (by decide) ⟨by decide,by decide,_,rfl,by decide,by decide,by omega,by omega,x1,rd 1 x1 g1,?_⟩)
   rw[a1]
   refine hX18 _ _ _ (br_y (by decide) ⟨by decide,by decide,_,rfl,by decide,by decide,by omega,by omega,x2,rd 2 x2 g2,?_⟩)
   rw[a2]
   refine hX18 _ _ _ (br_y (by decide) ⟨by decide,by decide,_,rfl,by decide,by decide,by omega,by omega,x3,rd 3 x3 g3,?_⟩)
   rw[a3]
   refine hX18 _ _ _ (br_n (by decide) ⟨by decide,by omega,by omega,?_⟩)
   rw[Int.toNat_natCast,Nat.mul_one,add_none,Nat.zero_add]
   refine hs1.putA 0 rfl (by omega) fun H2 hs2=>?_
   have:=hK H2 hs2
   rw[wrap_id (by omega) (by omega)]
   exact this
  refine col 0 H13 [0,0,0,0] A.r B.r C.r D.r (by decide) rfl rfl rfl rfl rfl y0.1 y1.1 y2.1 y3.1 hs13 fun H14 hs14=>?_
  refine col 1 H14 _ A.g B.g C.g D.g (by decide) (by simp) rfl rfl rfl rfl y0.2.1 y1.2.1 y2.2.1 y3.2.1 hs14 fun H15 hs15=>?_
  refine col 2 H15 _ A.b B.b C.b D.b (by decide) (by simp) rfl rfl rfl rfl y0.2.2.1 y1.2.2.1 y2.2.2.1 y3.2.2.1 hs15 fun H16 hs16=>?_
  refine col 3 H16 _ A.a B.a C.a D.a (by decide) (by simp) rfl rfl rfl rfl y0.2.2.2 y1.2.2.2 y2.2.2.2 y3.2.2.2 hs16 fun H17 hs17=>?_
  refine hX14 _ _ (br_n (by decide) ⟨_,rfl,rowIn_whole (hs17.block 0 rfl),?_⟩)
  obtain⟨q1,q2,q3,q4⟩:=hsmok.bytes
  exact c76 q1 q2 q3 q4 fun H18 he18=>⟨_,rfl,hR H18 (hs17.step he18).ext⟩
 have rowE4: ∀{H1:Heap},Ext H5 H1→rowIn H1 ⟨b4,0,none⟩ (picA w h p l c):=fun he=>rowAt_ext he (rowIn_whole (hs5.block 0 rfl))
 refine⟨picA w h p l c,rfl,rowE4 (Ext.refl _),picA w h p l c,rfl,rowE4 (Ext.refl _),picA w h p l c,rfl,rowE4 (Ext.refl _),picA w h p l c,rfl,rowE4 (Ext.refl _),?_⟩
 have ex5:Ext H H5:=hs5.ext
 have x0:Ext H5 H5:=Ext.refl _
 have lay: ∀{H1:Heap} (b:Nat),St H H1 [.cell b (ints (List.replicate 16 0)).toArray 137]→(List.toArray (setL (setL (setL (setL [Value.int .i64 0,.int .i64 0,.int .i64 0,.int .i64 0,.int .i64 0,.int .i64 0,.int .i64 0,.int .i64 0,.int .i64 0,.int .i64 0,.int .i64 0,.int .i64 0,.int .i64 0,.int .i64 0,.int .i64 0,.int .i64 0] 0 (ints A.l).toArray.toList) 4 (ints B.l).toArray.toList) 8 (ints C.l).toArray.toList) 12 (ints D.l).toArray.toList)).size=16∧stAt H1 ⟨b,0,none⟩ (Array.toList (List.toArray (setL (setL (setL (setL [Value.int .i64 0,.int .i64 0,.int .i64 0,.int .i64 0,.int .i64 0,.int .i64 0,.int .i64 0,.int .i64 0,.int .i64 0,.int .i64 0,.int .i64 0,.int .i64 0,.int .i64 0,.int .i64 0,.int .i64 0,.int .i64 0] 0 (ints A.l).toArray.toList) 4 (ints B.l).toArray.toList) 8 (ints C.l).toArray.toList) 12 (ints D.l).toArray.toList))) fun H2=>J6 [.pointer (some ⟨b,0,none⟩)] H2:=fun b hs1=>
  ⟨rfl,hs1.putAllA 0 (l:=A.l++B.l++C.l++D.l) rfl rfl fun H2 hs2=>after b H2 hs2⟩
 have fin1: ∀{H1:Heap},Ext H5 H1→alc H1 (.cells #[.int .i64 0,.int .i64 0,.int .i64 0,.int .i64 0,.int .i64 0,.int .i64 0,.int .i64 0,.int .i64 0,.int .i64 0,.int .i64 0,.int .i64 0,.int .i64 0,.int .i64 0,.int .i64 0,.int .i64 0,.int .i64 0] 137) fun b H2=>(List.toArray (setL (setL (setL (setL [Value.int .i64 0,.int .i64 0,.int .i64 0,.int .i64 0,.int .i64 0,.int .i64 0,.int .i64 0,.int .i64 0,.int .i64 0,.int .i64 0,.int .i64 0,.int .i64 0,.int .i64 0,.int .i64 0,.int .i64 0,.int .i64 0] 0 (ints A.l).toArray.toList) 4 (ints B.l).toArray.toList) 8 (ints C.l).toArray.toList) 12 (ints D.l).toArray.toList)).size=16∧stAt H2 ⟨b,0,none⟩ (Array.toList (List.toArray (setL (setL (setL (setL [Value.int .i64 0,.int .i64 0,.int .i64 0,.int .i64 0,.int .i64 0,.int .i64 0,.int .i64 0,.int .i64 0,.int .i64 0,.int .i64 0,.int .i64 0,.int .i64 0,.int .i64 0,.int .i64 0,.int .i64 0,.int .i64 0] 0 (ints A.l).toArray.toList) 4 (ints B.l).toArray.toList) 8 (ints C.l).toArray.toList) 12 (ints D.l).toArray.toList))) fun H3=>J6 [.pointer (some ⟨b,0,none⟩)] H3:=fun{H1} he=>(St.of_ext (ex5.trans he)).alc fun b H2 hs2=>lay b hs2
 have spA: ∀{H1:Heap} {R1:Value→Heap→Prop},(∀H',Ext H1 H'→R1 (.agg (ints A.l).toArray) H')→CallsH Try.prog 63 #[.int .i64 (picAt w h P i j)] H1 R1:=fun hr=>sp_ _ fun H' he=>by rw[←hA];exact hr H' he
 have spB: ∀{H1:Heap} {R1:Value→Heap→Prop},(∀H',Ext H1 H'→R1 (.agg (ints B.l).toArray) H')→CallsH Try.prog 63 #[.int .i64 (picAt w h P (i+1) j)] H1 R1:=fun hr=>sp_ _ fun H' he=>by rw[←hB];exact hr H' he
 have spC: ∀{H1:Heap} {R1:Value→Heap→Prop},(∀H',Ext H1 H'→R1 (.agg (ints C.l).toArray) H')→CallsH Try.prog 63 #[.int .i64 (picAt w h P i (j+1))] H1 R1:=fun hr=>sp_ _ fun H' he=>by rw[←hC];exact hr H' he
 have spD: ∀{H1:Heap} {R1:Value→Heap→Prop},(∀H',Ext H1 H'→R1 (.agg (ints D.l).toArray) H')→CallsH Try.prog 63 #[.int .i64 (picAt w h P (i+1) (j+1))] H1 R1:=fun hr=>sp_ _ fun H' he=>by rw[←hD];exact hr H' he
 clear sp_
 repeat' first
  |(refine⟨rfl,by decide,rfl,by decide,rfl,by decide,rfl,by decide,?_⟩;first|exact fin1 ‹Ext H5 _› |exact lay _ ‹St H _ [Rs.cell _ (ints (List.replicate 16 0)).toArray _]›)
  |(refine at_ _ _ (ex5.trans ‹Ext H5 _›) fun Hn hn=>⟨_,rfl,?_⟩;have hxn:=Ext.trans ‹Ext H5 _› hn;(try have hsn:=St.step ‹St H _ [Rs.cell _ (ints (List.replicate 16 0)).toArray _]› hn);(try refine⟨.inl hn,?_⟩))
  |((first|refine spA fun Hn hn=>⟨_,rfl,?_⟩|refine spB fun Hn hn=>⟨_,rfl,?_⟩|refine spC fun Hn hn=>⟨_,rfl,?_⟩|refine spD fun Hn hn=>⟨_,rfl,?_⟩);have hxn:=Ext.trans ‹Ext H5 _› hn;(try have hsn:=St.step ‹St H _ [Rs.cell _ (ints (List.replicate 16 0)).toArray _]› hn);(try refine⟨.inl hn,?_⟩))
  |(refine St.alcE (St.of_ext (ex5.trans ‹Ext H5 _›)) fun bn Hn hn hs0=>?_;have hsn:St H Hn [.cell bn (ints (List.replicate 16 0)).toArray 137]:=hs0;have hxn:=Ext.trans ‹Ext H5 _› hn;clear hs0;(try refine⟨.inl hn,?_⟩))
  |refine⟨?_,?_⟩
end Go.Proofs
namespace Go.Proofs
open Go.Sh
structure DocL where
 w:Int
 h:Int
 next:Int
 ks:List Lay
def zeroD:DocL:=⟨0,0,0,[]⟩
def doD(D:DocL)(e:Ed):Int×DocL:=if (doL D.w D.h D.next D.ks e).1≠0 then((doL D.w D.h D.next D.ks e).1,zeroD) else(0,⟨D.w,D.h,(doL D.w D.h D.next D.ks e).2.1,(doL D.w D.h D.next D.ks e).2.2⟩)
def oneM:M6:=⟨65536,0,0,65536,0,0⟩
structure goodF(w h next:Int)(f:LayF):Prop where
 id:1≤f.id∧f.id<next
 kind:0≤f.kind∧f.kind≤2
 opacity:0≤f.opacity∧f.opacity≤255
 mode:0≤f.mode∧f.mode≤11
 maskLen:f.mask=[]∨(f.mask.length:Int)=w*h
 maskV: ∀c∈f.mask,c=0∨c=255
 bare:f.kind≠0→f.w=0∧f.h=0∧f.p=[]∧f.map=oneM∧f.smooth=false
 plain:f.kind≠2→f.table=2∧f.params=[]
 adj:f.kind=2→f.mode=0
 ras:f.kind=0→sizedB f.w f.h=true∧(f.p.length:Int)=f.w*f.h∧f.p.all pixelB=true∧(backM f.map).1=0
 tab:tabB f.table f.params=true
mutual
def gT(G:LayF→Prop):Lay→Prop
 | .mk f ks=>G f∧(f.kind=1∨ks=[])∧gKs G ks
def gKs(G:LayF→Prop):List Lay→Prop
 |[]=>True
 |t::ts=>gT G t∧gKs G ts
end
mutual
def idsT:Lay→List Int
 | .mk f ks=>f.id::idsKs ks
def idsKs:List Lay→List Int
 |[]=>[]
 |t::ts=>idsT t++idsKs ts
end
structure Inv(D:DocL):Prop where
 size:sizedB D.w D.h=true
 next:1≤D.next
 cnt:cntKs D.ks≤4096
 dep:depKs D.ks≤64
 ids:(idsKs D.ks).Nodup
 good:gKs (goodF D.w D.h D.next) D.ks
variable {G:LayF→Prop}
theorem gKs_app{a b:List Lay}:gKs G (a++b)↔gKs G a∧gKs G b:=by
 induction a with
 |nil=>simp[gKs]
 |cons t a ih=>rw[List.cons_append,gKs,ih,gKs,and_assoc]
theorem gKs_iff{ts:List Lay}:gKs G ts↔ ∀t∈ts,gT G t:=by
 induction ts with
 |nil=>simp[gKs]
 |cons t ts ih=>rw[gKs,ih,List.forall_mem_cons]
theorem gT_imp{G':LayF→Prop}(h: ∀f,G f→G' f): ∀t,gT G t→gT G' t:=Lay.ind fun f ks ih hg=>by
 rw[gT] at hg ⊢
 exact⟨h f hg.1,hg.2.1,gKs_iff.2 fun t ht=>ih t ht (gKs_iff.1 hg.2.2 t ht)⟩
theorem gKs_imp{G':LayF→Prop}(h: ∀f,G f→G' f){ts:List Lay}(hg:gKs G ts):gKs G' ts:=gKs_iff.2 fun t ht=>gT_imp h t (gKs_iff.1 hg t ht)
def gUp(G:LayF→Prop):List FrL→Prop
 |[]=>True
 |fr::u=>gKs G fr.pre∧gKs G fr.post∧G fr.f∧fr.f.kind=1∧gUp G u
theorem g_unplug: ∀{u:List FrL} {ks:List Lay},gKs G (plugL u ks)→ks≠[]→gUp G u∧gKs G ks
 |[],ks,h,_=>⟨trivial,h⟩
 |fr::u,ks,h,hne=>by
  rw[plugL] at h
  obtain⟨h1,h2⟩:=g_unplug h (by simp)
  rw[gKs_app,gKs,gT] at h2
  refine⟨⟨h2.1,h2.2.2,h2.2.1.1,?_,h1⟩,h2.2.1.2.2⟩
  rcases h2.2.1.2.1 with h|h
  ·exact h
  ·exact absurd h hne
theorem g_plug: ∀{u:List FrL} {ks:List Lay},gUp G u→gKs G ks→gKs G (plugL u ks)
 |[],ks,_,h=>h
 |fr::u,ks,hu,h=>by
  rw[plugL]
  refine g_plug hu.2.2.2.2 ?_
  rw[gKs_app,gKs,gT]
  exact⟨hu.1,⟨hu.2.2.1,.inl hu.2.2.2.1,h⟩,hu.2.1⟩
theorem g_node{fr:FrL}{u:List FrL}{ks:List Lay}(h:gKs G (plugL (fr::u) ks)):gUp G u∧gKs G fr.pre∧gT G (.mk fr.f ks)∧gKs G fr.post:=by
 rw[plugL] at h
 obtain⟨h1,h2⟩:=g_unplug h (by simp)
 rw[gKs_app,gKs] at h2
 exact⟨h1,h2.1,h2.2.1,h2.2.2⟩
theorem g_set{fr:FrL}{u:List FrL}{ks:List Lay}(h1:gUp G u)(h2:gKs G fr.pre)(h3:gT G (.mk fr.f ks))(h4:gKs G fr.post):gKs G (plugL (fr::u) ks):=by
 rw[plugL]
 refine g_plug h1 ?_
 rw[gKs_app,gKs]
 exact⟨h2,h3,h4⟩
def idsUp:List FrL→List Int
 |[]=>[]
 |fr::u=>fr.f.id::(idsKs fr.pre++idsKs fr.post++idsUp u)
theorem idsKs_app(a b:List Lay):idsKs (a++b)=idsKs a++idsKs b:=by
 induction a with
 |nil=>simp[idsKs]
 |cons t a ih=>rw[List.cons_append,idsKs,ih,idsKs,List.append_assoc]
theorem ids_plug: ∀(u:List FrL) (ks:List Lay),(idsKs (plugL u ks)).Perm (idsKs ks++idsUp u)
 |[],ks=>by rw[idsUp,List.append_nil];exact List.Perm.refl _
 |fr::u,ks=>by
  rw[plugL]
  refine(ids_plug u _).trans (List.perm_iff_count.2 fun x=>?_)
  simp only[idsKs_app,idsKs,idsT,idsUp,List.count_append,List.count_cons]
  ac_rfl
def depUp:List FrL→Nat→Nat
 |[],d=>d
 |fr::u,d=>depUp u (max (depKs fr.pre) (max (1+d) (depKs fr.post)))
theorem dep_plug: ∀(u:List FrL) (ks:List Lay),depKs (plugL u ks)=depUp u (depKs ks)
 |[],ks=>rfl
 |fr::u,ks=>by rw[plugL,dep_plug u,depKs_app,depKs,depL,depUp]
theorem depUp_mono: ∀(u:List FrL) {d d':Nat},d≤d'→depUp u d≤depUp u d'
 |[],d,d',h=>h
 |fr::u,d,d',h=>by rw[depUp,depUp];exact depUp_mono u (by omega)
theorem fl_plug(id:Int): ∀(t:Lay) (up:List FrL) (pre post:List Lay) (z:ZL),flT up pre post id t=some z→plugL z.1 z.2=plugL up (pre++t::post)∧ ∃fr u,z.1=fr::u∧fr.f.id=id:=by
 refine Lay.ind fun f ks ih up pre post z hz=>?_
 rw[flT] at hz
 split at hz
 ·rename_i h;cases hz;exact⟨rfl,_,_,rfl,h⟩
 ·have: ∀(ts:List Lay),(∀t∈ts,t∈ks)→ ∀(u:List FrL) (pre0:List Lay),flK u pre0 id ts=some z→plugL z.1 z.2=plugL u (pre0++ts)∧ ∃fr u,z.1=fr::u∧fr.f.id=id:=by
   intro ts
   induction ts with
   |nil=>intro _ u pre0 h;rw[flK] at h;cases h
   |cons t ts ih2=>
    intro hm u pre0 h
    rw[flK] at h
    split at h
    ·rename_i z' hz'
     cases h
     exact ih t (hm t List.mem_cons_self) _ _ _ _ hz'
    ·have:=ih2 (fun t ht=>hm t (List.mem_cons_of_mem _ ht)) _ _ h
     rw[List.append_assoc] at this
     exact this
  exact this ks (fun _ h=>h) _ _ hz
theorem flK_plug{id:Int}: ∀(ts:List Lay) (up:List FrL) (pre:List Lay) (z:ZL),flK up pre id ts=some z→plugL z.1 z.2=plugL up (pre++ts)∧ ∃fr u,z.1=fr::u∧fr.f.id=id
 |[],up,pre,z,h=>by rw[flK] at h;cases h
 |t::ts,up,pre,z,h=>by
  rw[flK] at h
  split at h
  ·rename_i z' hz'
   cases h
   exact fl_plug id t _ _ _ _ hz'
  ·have:=flK_plug ts _ _ _ h
   rw[List.append_assoc] at this
   exact this
theorem fl_cases(id:Int)(D:List Lay):flK [] [] id D=none∨ ∃fr u ks,flK [] [] id D=some (fr::u,ks)∧fr.f.id=id∧plugL (fr::u) ks=D:=by
 cases h:flK [] [] id D with
 |none=>exact .inl rfl
 |some z=>
  obtain⟨h1,fr,u,h2,h3⟩:=flK_plug D _ _ z h
  obtain⟨z1,z2⟩:=z
  simp only at h2 h1
  subst h2
  exact .inr ⟨fr,u,z2,rfl,h3,h1⟩
theorem Inv.okL{w h next:Int}(hsz:sizedB w h=true): ∀t,gT (goodF w h next) t→cntL t≤1000000→okL t:=Lay.ind fun f ks ih hg hc=>by
 rw[gT] at hg
 rw[cntL] at hc
 have hlen:=len_cnt ks
 obtain⟨q1,q2,q3,q4,q5⟩:=of_decide_eq_true hsz
 rw[Go.Proofs.okL]
 refine⟨?_,?_,?_,by omega,okKs_iff.2 fun t ht=>ih t ht (gKs_iff.1 hg.2.2 t ht) (by have:=cnt_mem ht;omega)⟩
 ·by_cases hk:f.kind=0
  ·obtain⟨h1,h2,_⟩:=hg.1.ras hk
   obtain⟨_,_,_,_,h3⟩:=of_decide_eq_true h1
   omega
  ·rw[(hg.1.bare hk).2.2.1];simp
 ·rcases hg.1.maskLen with h|h
  ·rw[h];simp
  ·omega
 ·by_cases hk:f.kind=2
  ·have ht:=tabB_kind hg.1.tab
   unfold kindP at ht
   split at ht
   ·have:=of_decide_eq_true ht;omega
   ·split at ht
    ·have:=of_decide_eq_true ht;omega
    ·split at ht
     ·have:=of_decide_eq_true ht;omega
     ·split at ht
      ·have:=of_decide_eq_true ht;omega
      ·cases ht
  ·rw[(hg.1.plain hk).2];simp
theorem Inv.ok{D:DocL}(h:Inv D):okKs D.ks:=okKs_iff.2 fun t ht=>Inv.okL h.size t (gKs_iff.1 h.good t ht) (by have:=cnt_mem ht;have:=h.cnt;omega)
theorem Inv.found{D:DocL}(h:Inv D){id:Int}{fr:FrL}{u:List FrL}{ks:List Lay}(hf:flK [] [] id D.ks=some (fr::u,ks)):goodF D.w D.h D.next fr.f∧(fr.f.kind=1∨ks=[]):=by
 have hp:=(flK_plug D.ks _ _ _ hf).1
 have hg:=h.good
 have hp:plugL (fr::u) ks=D.ks:=hp
 rw[←hp] at hg
 have:=(g_node hg).2.2.1
 rw[gT] at this
 exact⟨this.1,this.2.1⟩
theorem Inv.ras{D:DocL}(h:Inv D){id:Int}{fr:FrL}{u:List FrL}{ks:List Lay}(hf:flK [] [] id D.ks=some (fr::u,ks)):okRas fr.f:=fun hk=>⟨((h.found hf).1.ras hk).1,((h.found hf).1.ras hk).2.1⟩
theorem chg_inv{D:DocL}(h:Inv D){g:LayF→Int×LayF}{id:Int}(hg: ∀f,goodF D.w D.h D.next f→(g f).1=0→goodF D.w D.h D.next (g f).2∧(g f).2.id=f.id∧(g f).2.kind=f.kind)(h0:(chgL g D.ks id).1=0):Inv ⟨D.w,D.h,D.next,(chgL g D.ks id).2⟩:=by
 rcases fl_cases id D.ks with hn|⟨fr,u,ks,hf,hid,hp⟩
 ·rw[chg_none hn] at h0;exact absurd h0 (by decide)
 ·obtain⟨g1,g2⟩:=h.found hf
  by_cases he:(g fr.f).1=0
  ·have hge:g fr.f=(0,(g fr.f).2):=Prod.ext he rfl
   have hc:=chg_ok (g:=g) hf hge
   obtain⟨k1,k2,k3⟩:=hg fr.f g1 he
   rw[hc]
   have hgd:=h.good
   have hi:=h.ids
   have hcn:=h.cnt
   have hdp:=h.dep
   rw[←hp] at hgd hi hcn hdp
   obtain⟨u1,u2,u3,u4⟩:=g_node hgd
   rw[gT] at u3
   refine⟨h.size,h.next,?_,?_,?_,?_⟩
   ·show cntKs (plugL (⟨fr.pre,(g fr.f).2,fr.post⟩::u) ks)≤4096
    rw[cnt_plug] at hcn ⊢;exact hcn
   ·show depKs (plugL (⟨fr.pre,(g fr.f).2,fr.post⟩::u) ks)≤64
    rw[dep_plug] at hdp ⊢;exact hdp
   ·refine((ids_plug _ _).nodup_iff).2 ?_
    have:=((ids_plug _ _).nodup_iff).1 hi
    rw[idsUp] at this ⊢
    rw[k2];exact this
   ·refine g_set (fr:=⟨fr.pre,(g fr.f).2,fr.post⟩) u1 u2 ?_ u4
    rw[gT]
    exact⟨k1,by rw[k3];exact u3.2.1,u3.2.2⟩
  ·have:=chg_bad (g:=g) hf (show g fr.f=((g fr.f).1,(g fr.f).2) from rfl) he
   rw[this] at h0;exact absurd h0 he
end Go.Proofs
namespace Go.Proofs
open Go.Sh
theorem look_good{w h next:Int}{e:Ed}{f:LayF}(hg:goodF w h next f)(h0:(lookF e f).1=0):goodF w h next (lookF e f).2∧(lookF e f).2.id=f.id∧(lookF e f).2.kind=f.kind:=by
 unfold lookF at h0 ⊢
 split at h0
 ·simp at h0
 ·rename_i c1
  split at h0
  ·simp at h0
  ·rename_i c2
   rw[if_neg c1,if_neg c2]
   refine⟨⟨hg.id,hg.kind,by show 0≤e.n∧e.n≤255;omega,by show 0≤e.m∧e.m≤11;omega,hg.maskLen,hg.maskV,hg.bare,hg.plain,fun hk=>?_,hg.ras,hg.tab⟩,rfl,rfl⟩
   show e.m=0
   exact Decidable.byContradiction fun hm=>c2 ⟨hk,hm⟩
theorem hide_good{w h next:Int}{e:Ed}{f:LayF}(hg:goodF w h next f)(h0:(hideF e f).1=0):goodF w h next (hideF e f).2∧(hideF e f).2.id=f.id∧(hideF e f).2.kind=f.kind:=by
 unfold hideF at h0 ⊢
 split at h0
 ·simp at h0
 ·rename_i c1
  rw[if_neg c1]
  exact⟨⟨hg.id,hg.kind,hg.opacity,hg.mode,hg.maskLen,hg.maskV,hg.bare,hg.plain,hg.adj,hg.ras,hg.tab⟩,rfl,rfl⟩
theorem paint_good{w h next:Int}{e:Ed}{f:LayF}(hg:goodF w h next f)(h0:(paintF e f).1=0):goodF w h next (paintF e f).2∧(paintF e f).2.id=f.id∧(paintF e f).2.kind=f.kind:=by
 unfold paintF at h0 ⊢
 split at h0
 ·simp at h0
 rename_i c1
 split at h0
 ·simp at h0
 rename_i c2
 split at h0
 ·simp at h0
 rename_i c3
 split at h0
 ·simp at h0
 rename_i c4
 rw[if_neg c1,if_neg c2,if_neg c3,if_neg c4]
 refine⟨⟨hg.id,hg.kind,hg.opacity,hg.mode,hg.maskLen,hg.maskV,fun hk=>absurd hk c1,hg.plain,hg.adj,fun hk=>?_,hg.tab⟩,rfl,rfl⟩
 obtain⟨r1,r2,r3,r4⟩:=hg.ras hk
 refine⟨r1,?_,?_,r4⟩
 ·show((paintP e f.w f.p).length:Int)=_
  unfold paintP;rw[List.length_map,List.length_range];exact r2
 ·show(paintP e f.w f.p).all pixelB=true
  rw[List.all_eq_true]
  intro v hv
  unfold paintP at hv
  obtain⟨q,hq,rfl⟩:=List.mem_map.1 hv
  have hql:=List.mem_range.1 hq
  split
  ·rename_i hin
   have hr:=idxP_rng hin
   have hl:(e.p.length:Int)=e.w*e.h:=Decidable.byContradiction fun hh=>c2 (.inr (.inr (.inr (.inr hh))))
   have hlt:(idxP e f.w q).toNat<e.p.length:=by omega
   rw[List.getD_eq_getElem?_getD,List.getElem?_eq_getElem hlt]
   have hc3:e.p.any (fun v=> !pixelB v)=false:=by simpa using c3
   have:=List.any_eq_false.1 hc3 _ (List.getElem_mem hlt)
   simpa using this
  ·rw[List.getD_eq_getElem?_getD,List.getElem?_eq_getElem hql]
   exact List.all_eq_true.1 r3 _ (List.getElem_mem hql)
theorem mask_good{w h next:Int}(hsz:sizedB w h=true){e:Ed}{f:LayF}(hg:goodF w h next f)(h0:(maskF w h e f).1=0):goodF w h next (maskF w h e f).2∧(maskF w h e f).2.id=f.id∧(maskF w h e f).2.kind=f.kind:=by
 obtain⟨q1,q2,q3,q4,q5⟩:=of_decide_eq_true hsz
 have hpos:0≤w*h:=Int.mul_nonneg (by omega) (by omega)
 unfold maskF at h0 ⊢
 split at h0
 ·simp at h0
 rename_i c1
 rw[if_neg c1]
 split at h0
 ·rename_i c2
  rw[if_pos c2]
  exact⟨⟨hg.id,hg.kind,hg.opacity,hg.mode,.inl rfl,fun _ hc=>(by cases hc),hg.bare,hg.plain,hg.adj,hg.ras,hg.tab⟩,rfl,rfl⟩
 rename_i c2
 rw[if_neg c2]
 split at h0
 ·simp at h0
 rename_i c3
 rw[if_neg c3]
 refine⟨⟨hg.id,hg.kind,hg.opacity,hg.mode,.inr ?_,fun c hc=>?_,hg.bare,hg.plain,hg.adj,hg.ras,hg.tab⟩,rfl,rfl⟩
 ·show((maskL w h (fun x y=>withinB e.shape x y != (e.n==1))).length:Int)=w*h
  unfold maskL;rw[List.length_map,List.length_range];omega
 ·unfold maskL at hc
  obtain⟨q,hq,rfl⟩:=List.mem_map.1 hc
  split
  ·exact .inr rfl
  ·exact .inl rfl
theorem place_good{w h next:Int}{e:Ed}{f:LayF}(hg:goodF w h next f)(h0:(placeF e f).1=0):goodF w h next (placeF e f).2∧(placeF e f).2.id=f.id∧(placeF e f).2.kind=f.kind:=by
 unfold placeF at h0 ⊢
 split at h0
 ·simp at h0
 rename_i c1
 split at h0
 ·simp at h0
 rename_i c2
 split at h0
 ·rename_i c3;exact absurd h0 c3
 rename_i c3
 rw[if_neg c1,if_neg c2,if_neg c3]
 refine⟨⟨hg.id,hg.kind,hg.opacity,hg.mode,hg.maskLen,hg.maskV,fun hk=>absurd hk c1,hg.plain,hg.adj,fun hk=>?_,hg.tab⟩,rfl,rfl⟩
 obtain⟨r1,r2,r3,r4⟩:=hg.ras hk
 exact⟨r1,r2,r3,Decidable.byContradiction c3⟩
theorem adjust_good{w h next:Int}{e:Ed}{f:LayF}(hg:goodF w h next f)(h0:(adjustF e f).1=0):goodF w h next (adjustF e f).2∧(adjustF e f).2.id=f.id∧(adjustF e f).2.kind=f.kind:=by
 unfold adjustF at h0 ⊢
 split at h0
 ·simp at h0
 rename_i c1
 split at h0
 ·simp at h0
 rename_i c2
 rw[if_neg c1,if_neg c2]
 exact⟨⟨hg.id,hg.kind,hg.opacity,hg.mode,hg.maskLen,hg.maskV,hg.bare,fun hk=>absurd hk c1,hg.adj,hg.ras,by simpa using c2⟩,rfl,rfl⟩
theorem home_cases(D:List Lay)(to:Int){v:List FrL}{kh:List Lay}(h:homeL D to=(0,v,kh)):plugL v kh=D∧ ∀{G:LayF→Prop},gKs G D→gUp G v∧gKs G kh:=by
 unfold homeL at h
 split at h
 ·cases h;exact⟨rfl,fun hg=>⟨trivial,hg⟩⟩
 ·rcases fl_cases to D with hn|⟨fr,u,ks,hf,hid,hp⟩
  ·rw[hn] at h;cases h
  ·rw[hf] at h
   simp only at h
   split at h
   ·rename_i hk
    cases h
    refine⟨hp,fun{G} hg=>?_⟩
    rw[←hp] at hg
    obtain⟨u1,u2,u3,u4⟩:=g_node hg
    rw[gT] at u3
    exact⟨⟨u2,u4,u3.1,hk,u1⟩,u3.2.2⟩
   ·cases h
theorem home_tri{D:List Lay}{to:Int}(h:(homeL D to).1=0):homeL D to=(0,(homeL D to).2.1,(homeL D to).2.2):=by
 rw[←h]
theorem put_ok{v:List FrL}{kh:List Lay}{a:Int}{l:Lay}(h0:(putL v kh a l).1=0): ∃i,atL a kh.length=some i∧(putL v kh a l).2=plugL v (kh.take i++l::kh.drop i)∧depKs (plugL v (kh.take i++l::kh.drop i))≤64:=by
 unfold putL at h0 ⊢
 split at h0
 ·simp at h0
 ·rename_i i hi
  refine⟨i,hi,rfl,?_⟩
  simp only at h0
  split at h0
  ·simp at h0
  ·omega
theorem put_ids(v:List FrL)(kh:List Lay)(i:Nat)(l:Lay):(idsKs (plugL v (kh.take i++l::kh.drop i))).Perm (idsT l++idsKs (plugL v kh)):=by
 refine(ids_plug _ _).trans ?_
 refine List.Perm.trans ?_ (List.Perm.append_left _ (ids_plug v kh).symm)
 refine List.perm_iff_count.2 fun x=>?_
 have h:=idsKs_app (kh.take i) (kh.drop i)
 rw[List.take_append_drop] at h
 rw[h]
 simp only[idsKs_app,idsKs,List.count_append]
 ac_rfl
theorem put_cnt(v:List FrL)(kh:List Lay)(i:Nat)(l:Lay):cntKs (plugL v (kh.take i++l::kh.drop i))=cntL l+cntKs (plugL v kh):=by
 rw[cnt_plug,cnt_plug,cntKs_app,cntKs]
 have h:=cntKs_app (kh.take i) (kh.drop i)
 rw[List.take_append_drop] at h
 omega
theorem put_g{G:LayF→Prop}{v:List FrL}{kh:List Lay}{i:Nat}{l:Lay}(h1:gUp G v)(h2:gKs G kh)(h3:gT G l):gKs G (plugL v (kh.take i++l::kh.drop i)):=by
 refine g_plug h1 ?_
 have h:=gKs_app (G:=G) (a:=kh.take i) (b:=kh.drop i)
 rw[List.take_append_drop] at h
 rw[gKs_app,gKs]
 exact⟨(h.1 h2).1,h3,(h.1 h2).2⟩
theorem ids_lt{w h next:Int}: ∀t,gT (goodF w h next) t→ ∀x∈idsT t,1≤x∧x<next:=Lay.ind fun f ks ih hg x hx=>by
 rw[gT] at hg
 rw[idsT] at hx
 rcases List.mem_cons.1 hx with rfl|hx
 ·exact hg.1.id
 ·have: ∀(ts:List Lay),(∀t∈ts,t∈ks)→x∈idsKs ts→1≤x∧x<next:=by
   intro ts
   induction ts with
   |nil=>intro _ h;cases h
   |cons t ts ih2=>
    intro hm h
    rw[idsKs,List.mem_append] at h
    rcases h with h|h
    ·exact ih t (hm t List.mem_cons_self) (gKs_iff.1 hg.2.2 t (hm t List.mem_cons_self)) x h
    ·exact ih2 (fun t ht=>hm t (List.mem_cons_of_mem _ ht)) h
  exact this ks (fun _ h=>h) hx
theorem ids_ltKs{w h next:Int}: ∀{ts:List Lay},gKs (goodF w h next) ts→ ∀x∈idsKs ts,1≤x∧x<next
 |[],_,x,hx=>by cases hx
 |t::ts,hg,x,hx=>by
  rw[gKs] at hg
  rw[idsKs,List.mem_append] at hx
  rcases hx with hx|hx
  ·exact ids_lt t hg.1 x hx
  ·exact ids_ltKs hg.2 x hx
theorem good_next{w h next:Int}{f:LayF}(hg:goodF w h next f):goodF w h (next+1) f:=⟨by have:=hg.id;omega,hg.kind,hg.opacity,hg.mode,hg.maskLen,hg.maskV,hg.bare,hg.plain,hg.adj,hg.ras,hg.tab⟩
theorem pixel0:pixelB 0=true:=by decide
theorem new_good{w h next:Int}{e:Ed}(hnx:1≤next)(h1: ¬(e.n<0∨e.n>2))(h2: ¬(e.n=0∧sizedB e.w e.h=false)):goodF w h (next+1) (newL next e):=by
 refine⟨⟨hnx,by show next<next+1;omega⟩,by show 0≤e.n∧e.n≤2;omega,⟨by show(0:Int)≤255;decide,by show(255:Int)≤255;decide⟩,⟨by show(0:Int)≤0;decide,by show(0:Int)≤11;decide⟩,.inl rfl,fun _ hc=>(by cases hc),fun hk=>?_,fun _=>⟨rfl,rfl⟩,fun _=>rfl,fun hk=>?_,by show tabB 2 []=true;decide⟩
 ·have hk:e.n≠0:=hk
  unfold newL;rw[if_neg hk,if_neg hk,if_neg hk];exact⟨rfl,rfl,rfl,rfl,rfl⟩
 ·have hk:e.n=0:=hk
  have hsz:sizedB e.w e.h=true:=by
   cases hs:sizedB e.w e.h with
   |true=>rfl
   |false=>exact absurd ⟨hk,hs⟩ h2
  obtain⟨q1,q2,q3,q4,q5⟩:=of_decide_eq_true hsz
  have hpos:0≤e.w*e.h:=Int.mul_nonneg (by omega) (by omega)
  unfold newL
  rw[if_pos hk,if_pos hk,if_pos hk]
  refine⟨hsz,by rw[List.length_replicate];exact Int.toNat_of_nonneg hpos,?_,show(backM oneM).1=0 from by decide⟩
  rw[List.all_eq_true]
  intro v hv
  rw[(List.mem_replicate.1 hv).2]
  exact pixel0
theorem add_inv{D:DocL}(h:Inv D){e:Ed}(h0:(addL D.next D.ks e).1=0):Inv ⟨D.w,D.h,D.next+1,(addL D.next D.ks e).2⟩:=by
 unfold addL at h0 ⊢
 split at h0
 ·simp at h0
 rename_i c1
 split at h0
 ·simp at h0
 rename_i c2
 split at h0
 ·rename_i c3;exact absurd h0 c3
 rename_i c3
 split at h0
 ·rename_i c4;exact absurd h0 c4
 rename_i c4
 split at h0
 ·simp at h0
 rename_i c5
 rw[if_neg c1,if_neg c2,if_neg c3,if_neg c4,if_neg c5]
 have hho:=home_tri (Decidable.byContradiction c3)
 obtain⟨hp,hgu⟩:=home_cases D.ks e.to hho
 obtain⟨i,hi,hpu,hdp⟩:=put_ok (Decidable.byContradiction c4)
 obtain⟨g1,g2⟩:=hgu (gKs_imp (fun f=>good_next) h.good)
 rw[hpu]
 refine⟨h.size,by have:=h.next;show 1≤D.next+1;omega,?_,hdp,?_,?_⟩
 ·show cntKs (plugL _ _)≤4096
  rw[put_cnt,hp,cntL,cntKs];omega
 ·refine((put_ids _ _ i _).nodup_iff).2 ?_
  rw[hp,idsT,idsKs]
  show((newL D.next e).id::([]++idsKs D.ks)).Nodup
  rw[List.nil_append,List.nodup_cons]
  exact⟨fun hm=>by
   have h1:=(ids_ltKs h.good _ hm).2
   have h2:(newL D.next e).id=D.next:=rfl
   omega,h.ids⟩
 ·refine put_g g1 g2 ?_
  rw[gT]
  exact⟨new_good h.next c1 c2,.inr rfl,trivial⟩
theorem out_inv{D:DocL}(h:Inv D){id:Int}{fr:FrL}{u:List FrL}{ks:List Lay}(hf:flK [] [] id D.ks=some (fr::u,ks)):
 Inv ⟨D.w,D.h,D.next,plugL u (fr.pre++fr.post)⟩∧gT (goodF D.w D.h D.next) (.mk fr.f ks)∧(idsT (.mk fr.f ks)++idsKs (plugL u (fr.pre++fr.post))).Nodup∧cntL (.mk fr.f ks)+cntKs (plugL u (fr.pre++fr.post))=cntKs D.ks:=by
 have hp:plugL (fr::u) ks=D.ks:=(flK_plug D.ks _ _ _ hf).1
 have hgd:=h.good
 have hi:=h.ids
 have hcn:=h.cnt
 have hdp:=h.dep
 rw[←hp] at hgd hi hcn hdp
 obtain⟨u1,u2,u3,u4⟩:=g_node hgd
 have hids:(idsKs (plugL (fr::u) ks)).Perm (idsT (.mk fr.f ks)++idsKs (plugL u (fr.pre++fr.post))):=by
  refine(ids_plug _ _).trans (List.Perm.trans ?_ (List.Perm.append_left _ (ids_plug u _).symm))
  refine List.perm_iff_count.2 fun x=>?_
  simp only[idsUp,idsT,idsKs_app,List.count_append,List.count_cons]
  ac_rfl
 have hno:=(hids.nodup_iff).1 hi
 have hct:cntL (.mk fr.f ks)+cntKs (plugL u (fr.pre++fr.post))=cntKs D.ks:=by
  rw[←hp,cnt_plug,cnt_plug,cntUp,cntKs_app,cntL];omega
 refine⟨⟨h.size,h.next,by have:=h.cnt;show cntKs (plugL u (fr.pre++fr.post))≤4096;omega,?_,(List.nodup_append.1 hno).2.1,?_⟩,u3,hno,hct⟩
 ·show depKs (plugL u (fr.pre++fr.post))≤64
  rw[dep_plug] at hdp ⊢
  refine Nat.le_trans ?_ hdp
  rw[depUp,depKs_app]
  exact depUp_mono u (by omega)
 ·exact g_plug u1 (gKs_app.2 ⟨u2,u4⟩)
theorem move_inv{D:DocL}(h:Inv D){e:Ed}(h0:(moveL D.ks e).1=0):Inv ⟨D.w,D.h,D.next,(moveL D.ks e).2⟩:=by
 rcases fl_cases e.id D.ks with hn|⟨fr,u,ks,hf,hid,hp⟩
 ·unfold moveL at h0;rw[hn] at h0;simp at h0
 ·obtain⟨o1,o2,o3,o4⟩:=out_inv h hf
  unfold moveL at h0 ⊢
  rw[hf] at h0 ⊢
  simp only at h0 ⊢
  split at h0
  ·rename_i c;exact absurd h0 c
  rename_i c1
  split at h0
  ·simp at h0
  rename_i c2
  split at h0
  ·rename_i c;exact absurd h0 c
  rename_i c3
  rw[if_neg c1,if_neg c2,if_neg c3]
  have hho:=home_tri (Decidable.byContradiction c3)
  obtain⟨hp2,hgu⟩:=home_cases _ e.to hho
  obtain⟨i,hi,hpu,hdp⟩:=put_ok h0
  obtain⟨g1,g2⟩:=hgu o1.good
  rw[hpu]
  refine⟨h.size,h.next,?_,hdp,?_,put_g g1 g2 o2⟩
  ·show cntKs (plugL _ _)≤4096
   have:=h.cnt
   rw[put_cnt,hp2];omega
  ·refine((put_ids _ _ i _).nodup_iff).2 ?_
   rw[hp2];exact o3
theorem do_inv{D:DocL}(h:Inv D){e:Ed}(h0:(doD D e).1=0):Inv (doD D e).2:=by
 unfold doD at h0 ⊢
 by_cases hd:(doL D.w D.h D.next D.ks e).1≠0
 ·rw[if_pos hd] at h0;exact absurd h0 hd
 rw[if_neg hd]
 unfold doL at hd ⊢
 by_cases hk:e.kind<1∨e.kind>9
 ·rw[if_pos hk] at hd;simp at hd
 rw[if_neg hk] at hd ⊢
 by_cases hs:(stepL D.w D.h D.next D.ks e).1≠0
 ·rw[if_pos hs] at hd;exact absurd hs hd
 rw[if_neg hs]
 have hs:=Decidable.byContradiction hs
 show Inv ⟨D.w,D.h,nextL D.next e,(stepL D.w D.h D.next D.ks e).2⟩
 unfold stepL at hs ⊢
 by_cases k1:e.kind=1
 ·rw[if_pos k1] at hs ⊢;rw[show nextL D.next e=D.next+1 from by unfold nextL;rw[if_pos k1]];exact add_inv h hs
 rw[if_neg k1] at hs ⊢
 rw[show nextL D.next e=D.next from by unfold nextL;rw[if_neg k1]]
 by_cases k2:e.kind=2
 ·rw[if_pos k2] at hs ⊢
  rcases fl_cases e.id D.ks with hn|⟨fr,u,ks,hf,hid,hp⟩
  ·unfold removeL at hs;rw[hn] at hs;simp at hs
  ·have:=(out_inv h hf).1
   unfold removeL;rw[hf];exact this
 rw[if_neg k2] at hs ⊢
 by_cases k3:e.kind=3
 ·rw[if_pos k3] at hs ⊢;exact move_inv h hs
 rw[if_neg k3] at hs ⊢
 by_cases k4:e.kind=4
 ·rw[if_pos k4] at hs ⊢;exact chg_inv h (fun f=>paint_good) hs
 rw[if_neg k4] at hs ⊢
 by_cases k5:e.kind=5
 ·rw[if_pos k5] at hs ⊢;exact chg_inv h (fun f=>look_good) hs
 rw[if_neg k5] at hs ⊢
 by_cases k6:e.kind=6
 ·rw[if_pos k6] at hs ⊢;exact chg_inv h (fun f=>hide_good) hs
 rw[if_neg k6] at hs ⊢
 by_cases k7:e.kind=7
 ·rw[if_pos k7] at hs ⊢;exact chg_inv h (fun f=>mask_good h.size) hs
 rw[if_neg k7] at hs ⊢
 by_cases k8:e.kind=8
 ·rw[if_pos k8] at hs ⊢;exact chg_inv h (fun f=>place_good) hs
 rw[if_neg k8] at hs ⊢
 by_cases k9:e.kind=9
 ·rw[if_pos k9] at hs ⊢;exact chg_inv h (fun f=>adjust_good) hs
 ·rw[if_neg k9] at hs;simp at hs
theorem new_inv{w h:Int}(hs:sizedB w h=true):Inv ⟨w,h,1,[]⟩:=⟨hs,Int.le_refl _,by simp[cntKs],by simp[depKs],by simp[idsKs],trivial⟩
theorem do_next{D:DocL}{e:Ed}(h0:(doD D e).1=0):D.next≤(doD D e).2.next∧(doD D e).2.next≤D.next+1∧(doD D e).2.w=D.w∧(doD D e).2.h=D.h:=by
 unfold doD at h0 ⊢
 by_cases hd:(doL D.w D.h D.next D.ks e).1≠0
 ·rw[if_pos hd] at h0;exact absurd h0 hd
 rw[if_neg hd]
 unfold doL at hd ⊢
 by_cases hk:e.kind<1∨e.kind>9
 ·rw[if_pos hk] at hd;simp at hd
 rw[if_neg hk] at hd ⊢
 by_cases hs:(stepL D.w D.h D.next D.ks e).1≠0
 ·rw[if_pos hs] at hd;exact absurd hs hd
 rw[if_neg hs]
 refine⟨?_,?_,rfl,rfl⟩<;>(show _;unfold nextL;split<;>simp<;>omega)
end Go.Proofs
namespace Go.Proofs
open Go.Sh
variable {H0 H:Heap} {σ:List Rs} {R:Value→Heap→Prop}
theorem shr1'(x:Int):shrI .i64 x (1:Int)=x/2:=shrTo x rfl rfl (by decide)
structure MapOk(m:M6):Prop where
 ok:((-16777216≤m.a∧m.a≤16777216)∧(-16777216≤m.b∧m.b≤16777216)∧(-16777216≤m.c∧m.c≤16777216)∧(-16777216≤m.d∧m.d≤16777216)∧(-68719476736≤m.e∧m.e≤68719476736)∧(-68719476736≤m.f∧m.f≤68719476736))
theorem backM_ok(m:M6):MapOk (backM m).2:=by
 unfold backM
 split
 ·exact⟨by decide⟩
 split
 ·exact⟨by decide⟩
 split
 ·exact⟨by decide⟩
 split
 ·exact⟨by decide⟩
 ·rename_i h;exact⟨(rightM_iff _).1 (by simpa using h)⟩
theorem atU_eq{b0 b1 b4 x y:Int}(h0: -16777216≤b0∧b0≤16777216)(h1: -16777216≤b1∧b1≤16777216)(h4: -68719476736≤b4∧b4≤68719476736)(hx:0≤x∧x≤65536)(hy:0≤y∧y≤65536):
 IntKind.wrap .i64 (shrI .i64 (IntKind.wrap .i64 (IntKind.wrap .i64 (b0*IntKind.wrap .i64 (IntKind.wrap .i64 (2*x)+1))+IntKind.wrap .i64 (b1*IntKind.wrap .i64 (IntKind.wrap .i64 (2*y)+1)))) 1+b4)=atU b0 b1 b4 x y∧ -1000000000000000≤atU b0 b1 b4 x y∧atU b0 b1 b4 x y≤1000000000000000:=by
 have p0:=mul_bd (x:=b0) (y:=2*x+1) (A:=16777216) (B:=131073) h0 (by omega)
 have p1:=mul_bd (x:=b1) (y:=2*y+1) (A:=16777216) (B:=131073) h1 (by omega)
 unfold atU
 rw[wrap_id (n:=2*x) (by omega) (by omega),wrap_id (n:=2*y) (by omega) (by omega),wrap_id (n:=2*x+1) (by omega) (by omega),wrap_id (n:=2*y+1) (by omega) (by omega)]
 generalize b0*(2*x+1)=q0 at*
 generalize b1*(2*y+1)=q1 at*
 rw[wrap_id (n:=q0) (by omega) (by omega),wrap_id (n:=q1) (by omega) (by omega),wrap_id (n:=q0+q1) (by omega) (by omega),shr1',wrap_id (by omega) (by omega)]
 exact⟨rfl,by omega,by omega⟩
theorem c89{w h:Int}{p:Option Addr}{l c:Nat}{P:List Int}{m:M6}{x y:Int}{sm:Bool}(hp:IS H p l (ints P))(hok:PicOk w h P)(hm:MapOk m)(hx:0≤x∧x≤65536)(hy:0≤y∧y≤65536)(hR: ∀H',Ext H H'→R (.int .i64 (atP w h P m x y sm)) H'):CallsH Try.prog 89 #[.agg (picA w h p l c),.agg (ints m.l).toArray,.int .i64 x,.int .i64 y,.bool sm] H R:=by
 obtain⟨m0,m1,m2,m3,m4,m5⟩:=hm.ok
 obtain⟨eu,bu1,bu2⟩:=atU_eq m0 m1 m4 hx hy
 obtain⟨ev,bv1,bv2⟩:=atU_eq m2 m3 m5 hx hy
 refine Try.s89 ?_
 unfold Try.S89
 refine(St.nil H).alc fun b6 H7 hs7=>hs7.alc fun b8 H9 hs9=>⟨by decide,by decide,m.a,hs9.rdA 0 (j:=0) rfl rfl,by decide,by decide,m.b,hs9.rdA 0 (j:=1) rfl rfl,by decide,by decide,by decide,m.e,hs9.rdA 0 (j:=4) rfl rfl,by decide,by decide,m.c,hs9.rdA 0 (j:=2) rfl rfl,by decide,by decide,m.d,hs9.rdA 0 (j:=3) rfl rfl,by decide,by decide,by decide,m.f,hs9.rdA 0 (j:=5) rfl rfl,?_⟩
 rw[eu,ev]
 unfold atP at hR
 refine br_i (fun hsm=>?_) fun hsm=>?_
 ·rw[if_pos hsm] at hR
  refine⟨_,rfl,rowIn_whole (hs9.block 1 rfl),c93 (hp.ext hs9.ext) hok ⟨bu1,bu2⟩ ⟨bv1,bv2⟩ fun H18 he18=>⟨_,rfl,hR H18 (hs9.step he18).ext⟩⟩
 ·rw[if_neg (by rw[hsm];decide)] at hR
  refine⟨_,rfl,rowIn_whole (hs9.block 1 rfl),by decide,by decide,?_⟩
  rw[shr16',shr16']
  exact c94 (hp.ext hs9.ext) hok.hw hok.hh hok.len fun H18 he18=>⟨_,rfl,hR H18 (hs9.step he18).ext⟩
def partP(f:LayF)(at_:Int):Int:=if f.mask.length=0 then f.opacity else mulP f.opacity (f.mask.getD at_.toNat 0)
def overP(f:LayF)(g s out:Int):Int:=if s≠0∧g>0 then joinP (blendP f.mode (fadeP (spl s) g) (spl out)) else out
def adjustP(f:LayF)(g out:Int):Int:=joinP (adjP (tabL f.table f.params) g (spl out))
def seenP(f:LayF)(x y:Int):Int:=atP f.w f.h f.p (backM f.map).2 x y f.smooth
mutual
def layPx(W x y:Int):Lay→Int→Int
 | .mk f ks,out=>if f.hidden=true then out else if f.kind=2 then adjustP f (partP f (y*W+x)) out else overP f (partP f (y*W+x)) (if f.kind=0 then seenP f x y else lsPx W x y ks 0) out
def lsPx(W x y:Int):List Lay→Int→Int
 |[],out=>out
 |t::ts,out=>lsPx W x y ts (layPx W x y t out)
end
theorem lsPx_app(W x y:Int): ∀(a b:List Lay) (out:Int),lsPx W x y (a++b) out=lsPx W x y b (lsPx W x y a out)
 |[],b,out=>by rw[List.nil_append,lsPx]
 |t::a,b,out=>by rw[List.cons_append,lsPx,lsPx,lsPx_app W x y a b]
theorem part_byte{w h next:Int}{f:LayF}(hf:goodF w h next f)(i:Int):byte (partP f i):=by
 have ho:=hf.opacity
 unfold partP
 split
 ·exact ho
 ·refine mulP_byte ho ?_
  rw[List.getD_eq_getElem?_getD]
  cases hm:f.mask[i.toNat]? with
  |none=>unfold byte;decide
  |some c=>
   have:=hf.maskV c (List.mem_of_getElem? hm)
   unfold byte
   simp only[Option.getD_some]
   omega
theorem ras_pic{w h next:Int}{f:LayF}(hf:goodF w h next f)(hk:f.kind=0):PicOk f.w f.h f.p:=by
 obtain⟨h1,h2,h3,h4⟩:=hf.ras hk
 unfold sizedB at h1
 obtain⟨q1,q2,q3,q4,q5⟩:=of_decide_eq_true h1
 exact⟨by omega,by omega,h2,h3⟩
theorem over_px{w h next:Int}{f:LayF}{g s out:Int}(hg:byte g)(hs:pixelB s=true)(ho:pixelB out=true):pixelB (overP f g s out)=true:=by
 unfold overP
 split
 ·exact ok_join (blendP_ok _ (fadeP_ok (spl_ok hs) hg) (spl_ok ho))
 ·exact ho
theorem adjust_px{f:LayF}{g out:Int}(ht:tabB f.table f.params=true)(hg:byte g)(ho:pixelB out=true):pixelB (adjustP f g out)=true:=ok_join (adjP_ok (tabL_ok ht) hg (spl_ok ho))
theorem lay_px{w h next:Int}(W x y:Int): ∀t,gT (goodF w h next) t→ ∀out,pixelB out=true→pixelB (layPx W x y t out)=true:=by
 refine Lay.ind fun f ks ih hg out ho=>?_
 obtain⟨hf,_,hks⟩:=hg
 have ls: ∀(ts:List Lay),(∀t∈ts,t∈ks)→ ∀out,pixelB out=true→pixelB (lsPx W x y ts out)=true:=by
  intro ts
  induction ts with
  |nil=>intro _ out ho;rw[lsPx];exact ho
  |cons t ts ih2=>
   intro hsub out ho
   rw[lsPx]
   exact ih2 (fun u hu=>hsub u (List.mem_cons_of_mem _ hu)) _ (ih t (hsub t List.mem_cons_self) (gKs_iff.1 hks t (hsub t List.mem_cons_self)) out ho)
 have hb:=part_byte hf (y*W+x)
 rw[layPx]
 split
 ·exact ho
 split
 ·exact adjust_px hf.tab hb ho
 ·split
  ·rename_i hk0
   exact over_px (w:=w) (h:=h) (next:=next) hb (atP_ok (ras_pic hf hk0) _ _ _ _) ho
  ·exact over_px (w:=w) (h:=h) (next:=next) hb (ls ks (fun _ h=>h) 0 pixZ0) ho
theorem ls_px{w h next:Int}(W x y:Int){ts:List Lay}(hg:gKs (goodF w h next) ts): ∀{out:Int},pixelB out=true→pixelB (lsPx W x y ts out)=true:=by
 induction ts with
 |nil=>intro out ho;rw[lsPx];exact ho
 |cons t ts ih=>
  intro out ho
  rw[lsPx]
  exact ih hg.2 (lay_px W x y t hg.1 out ho)
end Go.Proofs
namespace Go.Proofs
open Go.Sh
variable {H0 H:Heap} {σ:List Rs} {R:Value→Heap→Prop}
def DocR(H:Heap)(A:Array Value)(D:DocL):Prop:= ∃K ks,A=docA D.w D.h D.next K∧grp H K ks∧layKs ks=D.ks
theorem DocR.ext{H H':Heap}{A:Array Value}{D:DocL}(h:DocR H A D)(he:Ext H H'):DocR H' A D:=let ⟨K,ks,h1,h2,h3⟩:=h;⟨K,ks,h1,h2.ext he,h3⟩
theorem DocR.size{H:Heap}{A:Array Value}{D:DocL}(h:DocR H A D):A.size=4:=by obtain⟨K,ks,rfl,_⟩:=h;rfl
theorem DocR.one{H:Heap}{A:Array Value}{D:DocL}(h:DocR H A D): ∀v∈A.toList,v.oneCell'=true:=by obtain⟨K,ks,rfl,_⟩:=h;exact docA_one _ _ _ _
theorem DocR.zero(H:Heap):DocR H (docA 0 0 0 .nil) zeroD:=⟨.nil,[],rfl,grp.nil H,rfl⟩
theorem DocR.new(H:Heap)(w h:Int):DocR H (docA w h 1 .nil) ⟨w,h,1,[]⟩:=⟨.nil,[],rfl,grp.nil H,rfl⟩
def parentL(D:List Lay)(id:Int):Int×Int×Bool:=
 match flK [] [] id D with
 |some (fr::u,_)=>(match u with|[]=>0|fp::_=>fp.f.id,fr.pre.length,true)
 |_=>(0,0,false)
def zeroF:LayF:=⟨0,0,false,0,0,0,0,[],[],⟨0,0,0,0,0,0⟩,false,0,[]⟩
def findL(D:List Lay)(id:Int):Option Lay:=
 match flK [] [] id D with
 |some (fr::_,ks)=>some (.mk fr.f ks)
 |_=>none
theorem rd_root{K:Sl3}{ks:List T}(hg:grp H K ks):rdT H (rootT K ks):=by
 unfold rootT
 rw[rdT]
 exact⟨⟨rfl,fun i v h=>by simp[rootF,ints] at h⟩,⟨rfl,fun i v h=>by simp[rootF,kints] at h⟩,⟨rfl,fun i v h=>by simp[rootF,ints] at h⟩,hg⟩
theorem fz_rd(id:Int): ∀(t:T) {H:Heap} (up:List Fr) (K:Sl3) (pre post:List T) (z:Z),grp H K (pre++t::post)→fzT up K pre post id t=some z→(∃fr u,z.1=fr::u∧ ∃a,fr.ad=some a∧rowIn H a (cellsT (fr.node z.2.1 z.2.2)).toArray∧rdT H (fr.node z.2.1 z.2.2))∧
 (∀(fp:Fr) (up':List Fr) (ap:Addr) (Kp:Sl3) (ksp:List T),up=fp::up'→fp.ad=some ap→rowIn H ap (cellsT (fp.node Kp ksp)).toArray→ ∃fr fq u,z.1=fr::fq::u∧ ∃aq Kq ksq,fq.ad=some aq∧rowIn H aq (cellsT (fq.node Kq ksq)).toArray):=by
 refine T.ind fun f P M A K' ks ih {H} up K pre post z hg hz=>?_
 obtain⟨a,h1,h2,h3⟩:=hg.get (i:=pre.length) (t:= .mk f P M A K' ks) (by rw[List.getElem?_append_right (Nat.le_refl _),Nat.sub_self];rfl)
 have had:(⟨K,pre,f,P,M,A,post⟩:Fr).ad=some (a.add (pre.length*19)):=by unfold Fr.ad;rw[h1];rfl
 rw[fzT] at hz
 split at hz
 ·cases hz
  exact⟨⟨_,_,rfl,_,had,h2,h3⟩,fun fp up' ap Kp ksp hup hap hrow=>⟨_,fp,up',by rw[hup],ap,Kp,ksp,hap,hrow⟩⟩
 ·have: ∀(ts done:List T),ks=done++ts→ ∀(u:List Fr),fzK (⟨K,pre,f,P,M,A,post⟩::up) K' done id ts=some z→(∃fr u,z.1=fr::u∧ ∃a,fr.ad=some a∧rowIn H a (cellsT (fr.node z.2.1 z.2.2)).toArray∧rdT H (fr.node z.2.1 z.2.2))∧
   ∃fr fq u,z.1=fr::fq::u∧ ∃aq Kq ksq,fq.ad=some aq∧rowIn H aq (cellsT (fq.node Kq ksq)).toArray:=by
   intro ts
   induction ts with
   |nil=>intro done _ u h;rw[fzK] at h;cases h
   |cons t ts ih2=>
    intro done hd u h
    rw[fzK] at h
    split at h
    ·rename_i z' hz'
     cases h
     obtain⟨g1,g2⟩:=ih t (by rw[hd];simp) _ _ _ _ _ (by rw[←hd];exact rdT.grp h3) hz'
     exact⟨g1,g2 _ _ _ K' ks rfl had h2⟩
    ·exact ih2 (done++[t]) (by rw[hd];simp) u h
  obtain⟨g1,g2⟩:=this ks [] rfl [] hz
  exact⟨g1,fun _ _ _ _ _ _ _ _=>g2⟩
theorem fzK_rd {id : Int} : ∀ (ts : List T) {H : Heap} (up : List Fr) (K : Sl3) (pre : List T) (z : Z), grp H K (pre ++ ts) → fzK up K pre id ts = some z → (∃ fr u, z.1 = fr :: u ∧ ∃ a, fr.ad = some a ∧ rowIn H a (cellsT (fr.node z.2.1 z.2.2)).toArray ∧ rdT H (fr.node z.2.1 z.2.2)) ∧
    (∀ (fp : Fr) (up' : List Fr) (ap : Addr) (Kp : Sl3) (ksp : List T), up = fp :: up' → fp.ad = some ap → rowIn H ap (cellsT (fp.node Kp ksp)).toArray → ∃ fr fq u, z.1 = fr :: fq :: u ∧ ∃ aq Kq ksq, fq.ad = some aq ∧ rowIn H aq (cellsT (fq.node Kq ksq)).toArray)
  | [], H, up, K, pre, z, _, h => by rw [fzK] at h; cases h
  | t :: ts, H, up, K, pre, z, hg, h => by
    rw [fzK] at h
    split at h
    · rename_i z' hz'
      cases h
      exact fz_rd id t _ _ _ _ _ hg hz'
    · exact fzK_rd ts up K (pre ++ [t]) z (by rw [List.append_assoc]; exact hg) h
theorem root_find{b:Nat}{K:Sl3}{ks:List T}{H1:Heap}(hg:grp H K ks)(he:Ext H H1)(hb:H1[b]?=some (.cells (cellsT (rootT K [])).toArray 45)){id:Int}(hc:cntKs (layKs ks)≤1000000000)
 (hR: ∀H',Ext H1 H'→(∀z,fzK [rootFr b] K [] id ks=some z→(resZ (some z)).1≠none)→
  R (.tuple #[.pointer (resZ (fzK [rootFr b] K [] id ks)).1,.pointer (resZ (fzK [rootFr b] K [] id ks)).2.1,.int .i64 (resZ (fzK [rootFr b] K [] id ks)).2.2]) H'):CallsH Try.prog 35 #[.pointer (some ⟨b,0,none⟩),.int .i64 id] H1 R:=
 c35 (rootT K ks) (fr:=rootFr b) (up:=[]) (root_ad b) (rowIn_whole hb) (rd_root (hg.ext he)) (by show cntKs (layKs ks)≤_;omega) hR
theorem c56{A:Array Value}{D:DocL}{id:Int}(hd:DocR H A D)(hc:cntKs D.ks≤1000000000)(hR: ∀H',Ext H H'→R (.tuple #[.int .i64 (parentL D.ks id).1,.int .i64 (parentL D.ks id).2.1,.bool (parentL D.ks id).2.2]) H'):CallsH Try.prog 56 #[.agg A,.int .i64 id] H R:=by
 obtain⟨K,ks,rfl,hg,hl⟩:=hd
 rw[←hl] at hc hR
 refine Try.s56 ?_
 unfold Try.S56
 refine(St.nil H).alc fun b3 H4 hs4=>?_
 refine c24 (hs4.block 0 rfl) fun rb H6 hp6=>⟨_,rfl,?_⟩
 have he6:=hs4.ext.trans hp6.ext
 refine root_find hg he6 (hp6.block 0 rfl) hc fun H9 he9 hne=>⟨_,_,_,rfl,?_⟩
 have he:=he6.trans he9
 rcases find_cases rb K ks id with ⟨hz,hf⟩|⟨fr,u,K',ks',hz,hid,hf⟩
 ·rw[hz]
  have hpl:parentL (layKs ks) id=(0,0,false):=by unfold parentL;rw[hf]
  have:=hR H9 he
  rw[hpl] at this
  exact br_t rfl this
 ·obtain⟨g1,g2⟩:=fzK_rd ks _ _ _ _ (hg.ext he) hz
  obtain⟨fr',fq,u',hz1,aq,Kq,ksq,haq,hrq⟩:=g2 (rootFr rb) [] ⟨rb,0,none⟩ K ks rfl (root_ad rb) (rowAt_ext he9 (rowIn_whole (hp6.block 0 rfl)))
  obtain⟨fr2,u2,hz2,a2,ha2,hr2,_⟩:=g1
  simp only at hz1 hz2
  rw[hz1] at hz2
  cases hz2
  have hfr:fr'=fr:=by simp only[List.cons.injEq] at hz1;exact hz1.1.symm
  subst hfr
  have hu:u++[rootFr rb]=fq::u':=by simp only[List.cons.injEq] at hz1;exact hz1.2
  have hpl:parentL (layKs ks) id=(fq.f.id,((fr'.pre.length:Nat):Int),true):=by
   unfold parentL
   rw[hf]
   cases u with
   |nil=>
    simp only[List.nil_append,List.cons.injEq] at hu
    rw[←hu.1]
    show((0:Int),(((layKs fr'.pre).length:Nat):Int),true)=_
    rw[layKs_len];rfl
   |cons x u=>
    simp only[List.cons_append,List.cons.injEq] at hu
    rw[←hu.1]
    show(x.f.id,(((layKs fr'.pre).length:Nat):Int),true)=_
    rw[layKs_len]
  have:=hR H9 he
  rw[hpl] at this
  rw[hz,hz1]
  refine br_f (by show Option.isNone fr'.ad=false;rw[ha2];rfl) ⟨aq,haq,fq.f.id,hrq 0 _ rfl,this⟩
def LayR(H:Heap)(A:Array Value)(l:Lay):Prop:= ∃t,A=(cellsT t).toArray∧rdT H t∧layT t=l
theorem LayR.ext{H H':Heap}{A:Array Value}{l:Lay}(h:LayR H A l)(he:Ext H H'):LayR H' A l:=let ⟨t,h1,h2,h3⟩:=h;⟨t,h1,rdT.ext he t h2,h3⟩
theorem LayR.zero(H:Heap):LayR H (cellsL zeroF Sl3.nil.v Sl3.nil.v Sl3.nil.v Sl3.nil.v).toArray (.mk zeroF []):=by
 refine⟨.mk zeroF .nil .nil .nil .nil [],rfl,?_,rfl⟩
 rw[rdT]
 exact⟨⟨rfl,fun i v h=>by simp[zeroF,ints] at h⟩,⟨rfl,fun i v h=>by simp[zeroF,kints] at h⟩,⟨rfl,fun i v h=>by simp[zeroF,ints] at h⟩,grp.nil H⟩
theorem c13{A:Array Value}{D:DocL}{id:Int}(hd:DocR H A D)(hc:cntKs D.ks≤1000000000)(hok:okKs D.ks)(hokf: ∀l,findL D.ks id=some l→okL l)
 (h0:findL D.ks id=none→ ∀H',Ext H H'→R (.tuple #[.agg (cellsL zeroF Sl3.nil.v Sl3.nil.v Sl3.nil.v Sl3.nil.v).toArray,.bool false]) H')
 (h1: ∀l,findL D.ks id=some l→ ∀t' H',layT t'=l→St H H' (resT t'++[])→R (.tuple #[.agg (cellsT t').toArray,.bool true]) H'):CallsH Try.prog 13 #[.agg A,.int .i64 id] H R:=by
 obtain⟨K,ks,rfl,hg,hl⟩:=hd
 rw[←hl] at hc hok hokf h0 h1
 refine Try.s13 ?_
 unfold Try.S13
 refine(St.nil H).alc fun b3 H4 hs4=>hs4.alc fun b5 H6 hs6=>?_
 refine c24 (hs6.block 1 rfl) fun rb H8 hp8=>⟨_,rfl,?_⟩
 have he8:=hs6.ext.trans hp8.ext
 refine root_find hg he8 (hp8.block 0 rfl) hc fun H11 he11 hne=>⟨_,_,_,rfl,?_⟩
 have he:=he8.trans he11
 have hs11:=(hs6.step hp8.ext).step he11
 rcases find_cases rb K ks id with ⟨hz,hf⟩|⟨fr,u,K',ks',hz,hid,hf⟩
 ·rw[hz]
  have hfl:findL (layKs ks) id=none:=by unfold findL;rw[hf]
  refine br_t rfl ⟨rfl,hs11.putAll 0 rfl rfl (cellsL_one zeroF .nil .nil .nil .nil) fun H15 hs15=>⟨(cellsL zeroF Sl3.nil.v Sl3.nil.v Sl3.nil.v Sl3.nil.v).toArray,rfl,rowIn_whole (hs15.block 0 rfl),h0 hfl H15 hs15.ext⟩⟩
 ·obtain⟨⟨fr2,u2,hz2,a2,ha2,hr2,hrd2⟩,_⟩:=fzK_rd ks _ _ _ _ (hg.ext he) hz
  simp only[List.cons.injEq] at hz2
  obtain⟨rfl,_⟩:=hz2
  have hfl:findL (layKs ks) id=some (layT (fr.node K' ks')):=by unfold findL;rw[hf];rfl
  have hre:(resZ (fzK [rootFr rb] K [] id ks)).1=some a2:=by rw[hz,←ha2];cases u<;>rfl
  refine br_f (by rw[hre];rfl) ⟨a2,hre,_,rfl,hr2,?_⟩
  refine c36 (fr.node K' ks') hrd2 (hokf _ hfl) fun t' H20 hlay hs20=>⟨_,rfl,by simp[cellsT_len],?_⟩
  have hs21:=hs11.callR hs20
  refine hs21.putAll 0 rfl (by simp[cellsT_len]) (by simpa using cellsT_one t') fun H22 hs22=>⟨(cellsT t').toArray,by simp[cellsT_len],rowIn_whole (hs22.block 0 rfl),?_⟩
  have hd2:St H H22 (resT t'++[]):=by rw[List.append_nil];exact hs22.drop 2
  exact h1 _ hfl t' H22 hlay hd2
end Go.Proofs
namespace Go.Proofs
open Go.Sh
variable {H0 H:Heap} {σ:List Rs} {R:Value→Heap→Prop}
mutual
def sameT:Lay→Lay→Bool
 | .mk f ks,.mk g ls=>decide (f=g)&&sameKs ks ls
def sameKs:List Lay→List Lay→Bool
 |[],[]=>true
 |t::ts,u::us=>sameT t u&&sameKs ts us
 |_,_=>false
end
theorem sameT_iff: ∀t u,sameT t u=true↔t=u:=Lay.ind fun f ks ih u=>by
 cases u with|mk g ls=>
 rw[sameT,Bool.and_eq_true,decide_eq_true_eq]
 have: ∀(ts us:List Lay),(∀t∈ts,t∈ks)→(sameKs ts us=true↔ts=us):=by
  intro ts
  induction ts with
  |nil=>intro us _;cases us<;>simp[sameKs]
  |cons t ts ih2=>
   intro us hm
   cases us with
   |nil=>simp[sameKs]
   |cons u us=>rw[sameKs,Bool.and_eq_true,ih t (hm t List.mem_cons_self) u,ih2 us fun t ht=>hm t (List.mem_cons_of_mem _ ht),List.cons.injEq]
 rw[this ks ls fun _ h=>h,Lay.mk.injEq]
theorem sameKs_iff: ∀{ts us:List Lay},sameKs ts us=true↔ts=us
 |[],[]=>by simp[sameKs]
 |[],u::us=>by simp[sameKs]
 |t::ts,[]=>by simp[sameKs]
 |t::ts,u::us=>by rw[sameKs,Bool.and_eq_true,sameT_iff,sameKs_iff,List.cons.injEq]
def sameD(D E:DocL):Bool:=decide (D.w=E.w)&&(decide (D.h=E.h)&&(decide (D.next=E.next)&&sameKs D.ks E.ks))
theorem sameD_iff{D E:DocL}:sameD D E=true↔D=E:=by
 unfold sameD
 rw[Bool.and_eq_true,Bool.and_eq_true,Bool.and_eq_true,decide_eq_true_eq,decide_eq_true_eq,decide_eq_true_eq,sameKs_iff]
 cases D;cases E;simp
theorem eq_take{α:Type}{xs ys:List α}{k:Nat}{x y:α}(h:xs.take k=ys.take k)(hx:xs[k]?=some x)(hy:ys[k]?=some y):xs.take (k+1)=ys.take (k+1)↔x=y:=by
 rw[take_succ hx,take_succ hy,h];simp
theorem ne_take{α:Type}{xs ys:List α}{k:Nat}(h:xs.take k≠ys.take k):xs≠ys:=fun hh=>h (by rw[hh])
theorem c58{p q:Option Addr}{l m c d:Nat}{xs ys:List Int}(hx:IS H p l (ints xs))(hy:IS H q m (ints ys))(hl:l≤1000000000000)(hR:R (.bool (decide (xs=ys))) H):CallsH Try.prog 58 #[.slice p l c,.slice q m d] H R:=by
 have hxl:=hx.length
 have hyl:=hy.length
 refine Try.s58 (br_ne (fun h=>?_) fun h=>?_)
 ·rw[decide_eq_false (fun hh=>h (by rw[←hxl,←hyl,hh]))] at hR;exact hR
 ·intro X hX
  have go: ∀k,k≤l→xs.take k=ys.take k→X [.int .i64 (k:Nat)] H:=by
   refine upto fun k hk ih ht=>hX _ _ (br_dec (fun hlt=>?_) fun hge=>?_)
   ·have hk':k<l:=by omega
    have e1:=List.getElem?_eq_getElem (show k<xs.length by omega)
    have e2:=List.getElem?_eq_getElem (show k<ys.length by omega)
    refine IS.rd (i:=(k:Int)) hx (by omega) hlt e1 (IS.rd (i:=(k:Int)) hy (by omega) (by omega) e2 ?_)
    refine br_ne (fun hne=>?_) fun heq=>?_
    ·rw[decide_eq_false (ne_take (k:=k+1) fun hh=>hne ((eq_take ht e1 e2).1 hh))] at hR;exact hR
    ·rw[wrap_id (by omega) (by omega)]
     exact ih hk' ((eq_take ht e1 e2).2 heq)
   ·have:k=l:=by omega
    subst this
    rw[List.take_of_length_le (by omega),List.take_of_length_le (by omega)] at ht
    rw[decide_eq_true ht] at hR;exact hR
  exact go 0 (Nat.zero_le _) rfl
theorem c59{p q:Option Addr}{l m c d:Nat}{xs ys:List Int}(hx:IS H p l (kints .u8 xs))(hy:IS H q m (kints .u8 ys))(hl:l≤1000000000000)(hR:R (.bool (decide (xs=ys))) H):CallsH Try.prog 59 #[.slice p l c,.slice q m d] H R:=by
 have hxl:=hx.length
 have hyl:=hy.length
 refine Try.s59 (br_ne (fun h=>?_) fun h=>?_)
 ·rw[decide_eq_false (fun hh=>h (by rw[←hxl,←hyl,hh]))] at hR;exact hR
 ·intro X hX
  have go: ∀k,k≤l→xs.take k=ys.take k→X [.int .i64 (k:Nat)] H:=by
   refine upto fun k hk ih ht=>hX _ _ (br_dec (fun hlt=>?_) fun hge=>?_)
   ·have hk':k<l:=by omega
    have e1:=List.getElem?_eq_getElem (show k<xs.length by omega)
    have e2:=List.getElem?_eq_getElem (show k<ys.length by omega)
    refine IS.rd (i:=(k:Int)) hx (by omega) hlt e1 (IS.rd (i:=(k:Int)) hy (by omega) (by omega) e2 ?_)
    refine br_ne (fun hne=>?_) fun heq=>?_
    ·rw[decide_eq_false (ne_take (k:=k+1) fun hh=>hne ((eq_take ht e1 e2).1 hh))] at hR;exact hR
    ·rw[wrap_id (by omega) (by omega)]
     exact ih hk' ((eq_take ht e1 e2).2 heq)
   ·have:k=l:=by omega
    subst this
    rw[List.take_of_length_le (by omega),List.take_of_length_le (by omega)] at ht
    rw[decide_eq_true ht] at hR;exact hR
  exact go 0 (Nat.zero_le _) rfl
def SameOk(t:T):Prop:= ∀(u:T) {H:Heap} {R:Value→Heap→Prop},rdT H t→rdT H u→okL (layT t)→(∀H',Ext H H'→R (.bool (sameT (layT t) (layT u))) H')→CallsH Try.prog 42 #[.agg (cellsT t).toArray,.agg (cellsT u).toArray] H R
theorem equalFunc_of{ks:List T}(ih: ∀t∈ks,SameOk t){ls:List T}{K L:Sl3}(hg:grp H K ks)(hh:grp H L ls)(ho:okKs (layKs ks))(hl:ks.length≤1000000000)(hR: ∀H',Ext H H'→R (.bool (sameKs (layKs ks) (layKs ls))) H'):
 CallsH Try.prog 41 #[.slice K.p K.l K.c,.slice L.p L.l L.c,.func (.func 42) #[] #[]] H R:=by
 have hKl:=hg.1.1
 have hLl:=hh.1.1
 have no: ¬(layKs ks=layKs ls)→ ∀{H'},Ext H H'→R (.bool false) H':=fun hn {H'} he=>by
  have:=hR H' he
  rw[show sameKs (layKs ks) (layKs ls)=false from by rw[Bool.eq_false_iff];exact fun hh=>hn (sameKs_iff.1 hh)] at this
  exact this
 refine Try.s41 (br_ne (fun h=>no (fun hh=>h (by have:=congrArg List.length hh;rw[layKs_len,layKs_len] at this;omega)) (Ext.refl H)) fun h=>?_)
 intro X hX
 have go: ∀k,k≤ks.length→ ∀H1,Ext H H1→(layKs ks).take k=(layKs ls).take k→X [.int .i64 (k:Nat)] H1:=by
  refine upto fun k hk ihk H1 he ht=>hX _ _ (br_dec (fun hlt=>?_) fun hge=>?_)
  ·have hk':k<ks.length:=by omega
   have e1:=List.getElem?_eq_getElem hk'
   have e2:=List.getElem?_eq_getElem (show k<ls.length by omega)
   have hm:=List.getElem_mem hk'
   generalize ks[k]=t at e1 hm
   generalize ls[k]'(by omega)=u at e2
   obtain⟨a,h1,h2,h3⟩:=(hg.ext he).get e1
   refine⟨a,h1,by omega,hlt,(cellsT t).toArray,by simp[cellsT_len],h2,(St.nil H1).alc fun b9 H10 hs10=>⟨by simp[cellsT_len],hs10.putAll 0 rfl (by simp[cellsT_len]) (by simpa using cellsT_one t) fun H11 hs11=>?_⟩⟩
   obtain⟨a',g1,g2,g3⟩:=(hh.ext (he.trans hs11.ext)).get e2
   refine⟨a',g1,by omega,by omega,(cellsT u).toArray,by simp[cellsT_len],g2,hs11.alc fun b14 H15 hs15=>⟨by simp[cellsT_len],hs15.putAll 0 rfl (by simp[cellsT_len]) (by simpa using cellsT_one u) fun H16 hs16=>?_⟩⟩
   refine⟨_,?_,rowIn_whole (hs16.block 1 rfl),_,?_,rowIn_whole (hs16.block 0 rfl),?_⟩
   ·simp[cellsT_len]
   ·simp[cellsT_len]
   show CallsH Try.prog 42 #[.agg (cellsT t).toArray,.agg (cellsT u).toArray] H16 _
   refine ih t hm u (rdT.ext hs16.ext t h3) (rdT.ext ((he.trans hs16.ext)) u (rdKs_iff.1 hh.2 u (List.mem_of_getElem? e2))) (okKs_iff.1 ho _ (List.mem_of_getElem? (layKs_get e1))) fun H20 he20=>⟨_,rfl,br_not (fun hf=>?_) fun htr=>?_⟩
   ·refine no (ne_take (k:=k+1) fun hh=>?_) (he.trans (hs16.ext.trans he20))
    have:=(eq_take ht (layKs_get e1) (layKs_get e2)).1 hh
    rw[(sameT_iff _ _).2 this] at hf;cases hf
   ·rw[wrap_id (by omega) (by omega)]
    exact ihk hk' H20 (he.trans (hs16.ext.trans he20)) ((eq_take ht (layKs_get e1) (layKs_get e2)).2 ((sameT_iff _ _).1 htr))
  ·have:k=ks.length:=by omega
   subst this
   rw[List.take_of_length_le (by rw[layKs_len];exact Nat.le_refl _),List.take_of_length_le (by rw[layKs_len];omega)] at ht
   have:=hR H1 he
   rw[sameKs_iff.2 ht] at this
   exact this
 exact go 0 (Nat.zero_le _) H (Ext.refl H) rfl
theorem M6_l{m n:M6}:m.l=n.l↔m=n:=by
 cases m;cases n;simp[M6.l]
theorem c42: ∀t,SameOk t:=by
 refine T.ind fun f P M A K ks ih=>?_
 intro u H R hr hu ho hR
 cases u with|mk g P2 M2 A2 K2 ks2=>
 rw[rdT] at hr hu
 obtain⟨hP,hM,hA,hK,hks⟩:=hr
 obtain⟨hP2,hM2,hA2,hK2,hks2⟩:=hu
 rw[layT,okL] at ho
 obtain⟨o1,o2,o3,o4,o5⟩:=ho
 rw[layKs_len] at o4
 have hPl:=hP.length
 have hMl:=hM.length
 have hAl:=hA.length
 refine Try.s42 ?_
 unfold Try.S42
 refine(St.nil H).alc fun b3 H4 hs4=>hs4.alc fun b5 H6 hs6=>?_
 have he6:=hs6.ext
 have hsame:sameT (layT (.mk f P M A K ks)) (layT (.mk g P2 M2 A2 K2 ks2))=(decide (f=g)&&sameKs (layKs ks) (layKs ks2)):=rfl
 rw[hsame] at hR
 have bad:f≠g→ ∀{H'},Ext H H'→R (.bool false) H':=fun hn {H'} he=>by
  have:=hR H' he
  rw[decide_eq_false hn,Bool.false_and] at this;exact this
 intro J hJ
 have jbad:f≠g→J [.bool false] H6:=fun hn=>hJ false H6 (br_f rfl (bad hn he6))
 refine⟨_,hs6.get 1 rfl (j:=0) rfl,_,hs6.get 0 rfl (j:=0) rfl,br_eq (fun q0=>?_) fun q0=>jbad fun hh=>q0 (by rw[hh])⟩
 refine⟨_,hs6.get 1 rfl (j:=1) rfl,_,hs6.get 0 rfl (j:=1) rfl,br_eq (fun q1=>?_) fun q1=>jbad fun hh=>q1 (by rw[hh])⟩
 refine⟨_,hs6.get 1 rfl (j:=2) rfl,_,hs6.get 0 rfl (j:=2) rfl,br_i (fun q2=>?_) fun q2=>jbad fun hh=>by rw[hh] at q2;simp at q2⟩
 refine⟨_,hs6.get 1 rfl (j:=3) rfl,_,hs6.get 0 rfl (j:=3) rfl,br_eq (fun q3=>?_) fun q3=>jbad fun hh=>q3 (by rw[hh])⟩
 refine⟨_,hs6.get 1 rfl (j:=4) rfl,_,hs6.get 0 rfl (j:=4) rfl,br_eq (fun q4=>?_) fun q4=>jbad fun hh=>q4 (by rw[hh])⟩
 refine⟨_,hs6.get 1 rfl (j:=5) rfl,_,hs6.get 0 rfl (j:=5) rfl,br_eq (fun q5=>?_) fun q5=>jbad fun hh=>q5 (by rw[hh])⟩
 refine⟨_,hs6.get 1 rfl (j:=6) rfl,_,hs6.get 0 rfl (j:=6) rfl,br_eq (fun q6=>?_) fun q6=>jbad fun hh=>q6 (by rw[hh])⟩
 have rowMap: ∀{b:Nat} {ff:LayF} {p m a k:Value},H6[b]?=some (.cells (cellsL ff p m a k).toArray 45)→rowIn H6 ⟨b,9,none⟩ (ints ff.map.l).toArray:=fun hb=>
  rowIn_block hb fun j v hv=>match j,hv with
   |0,hv=>hv
   |1,hv=>hv
   |2,hv=>hv
   |3,hv=>hv
   |4,hv=>hv
   |5,hv=>hv
   |j+6,hv=>by simp[ints,M6.l] at hv
 refine⟨_,rfl,rowMap (hs6.block 1 rfl),_,rfl,rowMap (hs6.block 0 rfl),rfl,f.map.l,g.map.l,rfl,rfl,rfl,rfl,br_dec (fun q7=>?_) fun q7=>jbad fun hh=>q7 (by rw[hh])⟩
 refine⟨_,hs6.get 1 rfl (j:=15) rfl,_,hs6.get 0 rfl (j:=15) rfl,br_i (fun q8=>?_) fun q8=>jbad fun hh=>by rw[hh] at q8;simp at q8⟩
 refine⟨_,hs6.get 1 rfl (j:=16) rfl,_,hs6.get 0 rfl (j:=16) rfl,?_⟩
 refine hJ _ _ (br_eq (fun q9=>?_) fun q9=>bad (fun hh=>q9 (by rw[hh])) he6)
 refine⟨_,_,_,hs6.get 1 rfl (j:=7) rfl,_,_,_,hs6.get 0 rfl (j:=7) rfl,?_⟩
 refine c58 (hP.ext he6) (hP2.ext he6) (by omega) ⟨_,rfl,br_dec (fun q10=>?_) fun q10=>bad (fun hh=>q10 (by rw[hh])) he6⟩
 refine⟨_,_,_,hs6.get 1 rfl (j:=8) rfl,_,_,_,hs6.get 0 rfl (j:=8) rfl,?_⟩
 refine c59 (hM.ext he6) (hM2.ext he6) (by omega) ⟨_,rfl,br_dec (fun q11=>?_) fun q11=>bad (fun hh=>q11 (by rw[hh])) he6⟩
 refine⟨_,_,_,hs6.get 1 rfl (j:=17) rfl,_,_,_,hs6.get 0 rfl (j:=17) rfl,?_⟩
 refine c58 (hA.ext he6) (hA2.ext he6) (by omega) ⟨_,rfl,br_dec (fun q12=>?_) fun q12=>bad (fun hh=>q12 (by rw[hh])) he6⟩
 refine⟨_,_,_,hs6.get 1 rfl (j:=18) rfl,_,_,_,hs6.get 0 rfl (j:=18) rfl,?_⟩
 have hfg:f=g:=by
  have p2:f.hidden=g.hidden:=by simpa using q2
  have p8:f.smooth=g.smooth:=by simpa using q8
  have p7:=M6_l.1 q7
  clear q2 q7 q8
  cases f;cases g
  simp only at q0 q1 p2 q3 q4 q5 q6 p7 p8 q9 q10 q11 q12
  subst q0 q1 p2 q3 q4 q5 q6 p7 p8 q9 q10 q11 q12
  rfl
 refine equalFunc_of ih (K:=K) (L:=K2) (grp.ext ⟨hK,hks⟩ he6) (grp.ext ⟨hK2,hks2⟩ he6) o5 o4 fun H28 he28=>⟨_,rfl,?_⟩
 have:=hR H28 (he6.trans he28)
 rw[decide_eq_true hfg,Bool.true_and] at this
 exact this
theorem c21{A B:Array Value}{D E:DocL}(hd:DocR H A D)(he:DocR H B E)(hok:okKs D.ks)(hc:cntKs D.ks≤1000000000)(hR: ∀H',Ext H H'→R (.bool (sameD D E)) H'):CallsH Try.prog 21 #[.agg A,.agg B] H R:=by
 obtain⟨K,ks,rfl,hg,hl⟩:=hd
 obtain⟨K2,ks2,rfl,hg2,hl2⟩:=he
 refine Try.s21 ?_
 unfold Try.S21
 refine(St.nil H).alc fun b3 H4 hs4=>hs4.alc fun b5 H6 hs6=>?_
 have no: ¬(D=E)→R (.bool false) H6:=fun hn=>by
  have:=hR H6 hs6.ext
  rw[show sameD D E=false from by rw[Bool.eq_false_iff];exact fun hh=>hn (sameD_iff.1 hh)] at this
  exact this
 refine⟨_,hs6.get 1 rfl (j:=0) rfl,_,hs6.get 0 rfl (j:=0) rfl,br_eq (fun q0=>?_) fun q0=>no fun hh=>q0 (by rw[hh])⟩
 refine⟨_,hs6.get 1 rfl (j:=1) rfl,_,hs6.get 0 rfl (j:=1) rfl,br_eq (fun q1=>?_) fun q1=>no fun hh=>q1 (by rw[hh])⟩
 refine⟨_,hs6.get 1 rfl (j:=2) rfl,_,hs6.get 0 rfl (j:=2) rfl,br_eq (fun q2=>?_) fun q2=>no fun hh=>q2 (by rw[hh])⟩
 refine⟨_,_,_,hs6.get 1 rfl (j:=3) rfl,_,_,_,hs6.get 0 rfl (j:=3) rfl,?_⟩
 have hlk:=len_cnt (layKs ks)
 rw[layKs_len,hl] at hlk
 refine equalFunc_of (fun t _=>c42 t) (K:=K) (L:=K2) (hg.ext hs6.ext) (hg2.ext hs6.ext) (by rw[hl];exact hok) (by omega) fun H16 he16=>⟨_,rfl,?_⟩
 have:=hR H16 (hs6.ext.trans he16)
 rw[show sameD D E=sameKs D.ks E.ks from by unfold sameD;rw[decide_eq_true q0,decide_eq_true q1,decide_eq_true q2];rfl] at this
 rw[hl,hl2]
 exact this
end Go.Proofs
namespace Go.Proofs
open Go.Sh
variable {H0 H:Heap} {σ:List Rs} {R:Value→Heap→Prop}
def ed0(kind id to at_ n m x y w h:Int):Ed:=⟨kind,id,to,at_,n,m,x,y,w,h,[],[],zeroM,[]⟩
def es0:EdS:=⟨.nil,.nil,.nil⟩
theorem ed0_ok(H:Heap)(kind id to at_ n m x y w h:Int):EdOk H (ed0 kind id to at_ n m x y w h) es0:=
 ⟨⟨⟨rfl,fun i v h=>by simp[ed0,ints] at h⟩,IS2.nil H,⟨rfl,fun i v h=>by simp[ed0,ints] at h⟩⟩,by simp[ed0],by simp[ed0]⟩
end Go.Proofs
namespace Go.Sh
variable {H0 H H':Heap} {σ τ:List Rs}
def starAll:List Rs→Rs
 |[]=> .emp
 |r::l=> .star r (starAll l)
theorem St.addEmp(hs:St H0 H σ):St H0 H (.emp::σ):=hs.new (Ext.refl H) (fp:=[]) rfl (by simp) (by simp)
theorem St.packAll: ∀(l:List Rs) {σ:List Rs},St H0 H (l++σ)→St H0 H (starAll l::σ)
 |[],σ,hs=>hs.addEmp
 |r::l,σ,hs=>by
  have h1:St H0 H (l++(r::σ)):=hs.perm List.perm_middle.symm
  exact(St.packAll l h1).swap.cat
theorem St.unpackAll: ∀(l:List Rs) {σ:List Rs},St H0 H (starAll l::σ)→St H0 H (l++σ)
 |[],σ,hs=>hs.tail
 |r::l,σ,hs=>by
  have h1:St H0 H (l++(r::σ)):=St.unpackAll l hs.cut.swap
  exact h1.perm List.perm_middle
end Go.Sh
namespace Go.Proofs
open Go.Sh
variable {H0 H:Heap} {σ:List Rs} {R:Value→Heap→Prop}
def docRs(A:Array Value)(D:DocL):Rs:= .ex fun(x:Sl3×List T)=> .pu (A=docA D.w D.h D.next x.1∧layKs x.2=D.ks) (starAll (resG x.1 x.2))
theorem St_docIn{A:Array Value}{D:DocL}{K:Sl3}{ks:List T}(hA:A=docA D.w D.h D.next K)(hl:layKs ks=D.ks)(hs:St H0 H (resG K ks++σ)):St H0 H (docRs A D::σ):=
 St.inex (f:=fun(x:Sl3×List T)=> .pu (A=docA D.w D.h D.next x.1∧layKs x.2=D.ks) (starAll (resG x.1 x.2))) (K,ks) (St.with ⟨hA,hl⟩ (St.packAll _ hs))
theorem St_docOut{A:Array Value}{D:DocL}(hs:St H0 H (docRs A D::σ)): ∃K ks,A=docA D.w D.h D.next K∧layKs ks=D.ks∧St H0 H (resG K ks++σ):=by
 obtain⟨⟨K,ks⟩,h1⟩:=St.unex hs
 obtain⟨⟨h2,h3⟩,h4⟩:=St.fact h1
 exact⟨K,ks,h2,h3,St.unpackAll _ h4⟩
theorem _root_.Go.Sh.St.doc(hs:St H0 H σ)(i:Nat){A:Array Value}{D:DocL}(hi:σ[i]?=some (docRs A D)):DocR H A D:=by
 obtain⟨K,ks,h1,h2,h3⟩:=St_docOut (hs.front i hi)
 exact⟨K,ks,h1,h3.grp,h2⟩
theorem _root_.Go.Sh.St.docNil(hs:St H0 H σ)(w h next:Int):St H0 H (docRs (docA w h next .nil) ⟨w,h,next,[]⟩::σ):=
 St_docIn (K:= .nil) (ks:=[]) rfl rfl (hs.nilSl _ _)
theorem do_gen{A:Array Value}{D:DocL}{e:Ed}{s:EdS}(hs:St H0 H σ)(hd:DocR H A D)(hok:okKs D.ks)(hcn:cntKs D.ks≤1000000000)(hnx:0≤D.next∧D.next≤1000000000000000)(hsz:e.kind=7→sizedB D.w D.h=true)(hras: ∀fr u ks',flK [] [] e.id D.ks=some (fr::u,ks')→okRas fr.f)(hed:EdOk H e s)
 (hR: ∀A' H',DocR H' A' (doD D e).2→St H0 H' (docRs A' (doD D e).2::σ)→R (.tuple #[.agg A',.int .i64 (doD D e).1]) H'):
 CallsH Try.prog 9 #[.agg A,.agg (edL e s).toArray] H R:=by
 obtain⟨K,ks,rfl,hg,hl⟩:=hd
 rw[←hl] at hok hcn hras
 refine c9 hg hok hcn hnx hsz hed hras (fun H' hne he=>?_) fun K' ks' H' h0 hl' hs'=>?_
 ·rw[hl] at hne ⊢
  have e1:doD D e=((doL D.w D.h D.next D.ks e).1,zeroD):=by unfold doD;rw[if_pos hne]
  have:=hR (docA 0 0 0 .nil) H' (by rw[e1];exact DocR.zero H') (by rw[e1];exact(hs.step he).docNil 0 0 0)
  rw[e1] at this;exact this
 ·rw[hl] at h0 hl' ⊢
  have e1:doD D e=(0,⟨D.w,D.h,(doL D.w D.h D.next D.ks e).2.1,(doL D.w D.h D.next D.ks e).2.2⟩):=by unfold doD;rw[if_neg (by rw[h0];simp)]
  have hs2:St H0 H' (docRs (docA D.w D.h (doL D.w D.h D.next D.ks e).2.1 K') ⟨D.w,D.h,(doL D.w D.h D.next D.ks e).2.1,(doL D.w D.h D.next D.ks e).2.2⟩::σ):=St_docIn rfl hl' (hs.call hs')
  have:=hR (docA D.w D.h (doL D.w D.h D.next D.ks e).2.1 K') H' (by rw[e1];exact hs2.doc 0 rfl) (by rw[e1];exact hs2)
  rw[e1] at this;exact this
theorem do_st{A:Array Value}{D:DocL}{e:Ed}{s:EdS}(hs:St H0 H σ)(hd:DocR H A D)(hi:Inv D)(hnx:D.next≤1000000000000000)(hed:EdOk H e s)(hR: ∀A' H',DocR H' A' (doD D e).2→St H0 H' (docRs A' (doD D e).2::σ)→R (.tuple #[.agg A',.int .i64 (doD D e).1]) H'):
 CallsH Try.prog 9 #[.agg A,.agg (edL e s).toArray] H R:=by
 have h1:=hi.next
 have h2:=hi.cnt
 exact do_gen hs hd hi.ok (by omega) ⟨by omega,hnx⟩ (fun _=>hi.size) (fun fr u ks' hf=>hi.ras hf) hed hR
end Go.Proofs
namespace Go.Proofs
open Go.Sh
variable {H0 H:Heap} {σ:List Rs} {R:Value→Heap→Prop}
theorem c75{t:T}{w h next at_:Int}(ht:rdT H t)(hf:goodF w h next t.f)(hat:0≤at_∧at_<w*h)(hR: ∀H',Ext H H'→R (.int .i64 (partP t.f at_)) H'):CallsH Try.prog 75 #[.agg (cellsT t).toArray,.int .i64 at_] H R:=by
 cases t with|mk f P M A K ks=>
 rw[rdT] at ht
 have hM:=ht.2.1
 have hf:goodF w h next f:=hf
 have hl:=hM.length
 have ho:=hf.opacity
 refine Try.s75 ?_
 unfold Try.S75
 refine(St.nil H).alc fun b3 H4 hs4=>⟨M.p,M.l,M.c,hs4.get 0 rfl (j:=8) rfl,br_eq (fun h0=>?_) fun h0=>?_⟩
 ·have:=hR H4 hs4.ext
  rw[show partP (T.mk f P M A K ks).f at_=f.opacity from by show partP f at_=_;unfold partP;rw[if_pos (by omega)]] at this
  exact⟨f.opacity,hs4.get 0 rfl (j:=3) rfl,this⟩
 ·have hlen:(f.mask.length:Int)=w*h:=by
   rcases hf.maskLen with hm|hm
   ·exfalso;rw[hm] at hl;simp at hl;omega
   ·exact hm
  have hlt:at_.toNat<f.mask.length:=by omega
  have hv:=List.getElem?_eq_getElem hlt
  have hc:=hf.maskV _ (List.getElem_mem hlt)
  refine⟨f.opacity,hs4.get 0 rfl (j:=3) rfl,M.p,M.l,M.c,hs4.get 0 rfl (j:=8) rfl,(hM.ext hs4.ext).rd (k:= .u8) (i:=at_) hat.1 (by omega) hv ?_⟩
  rw[wrap_id (by omega) (by omega)]
  refine mul_call (by omega) (by omega) ⟨_,rfl,?_⟩
  have:=hR H4 hs4.ext
  rw[show partP (T.mk f P M A K ks).f at_=mulP f.opacity f.mask[at_.toNat] from by
   show partP f at_=_
   unfold partP
   rw[if_neg (by omega),List.getD_eq_getElem?_getD,hv];rfl] at this
  exact this
structure Pn where
 W:Int
 hd:Int
 next:Int
 K:Sl3
 x:Int
 y:Int
 w:Int
 h:Int
def Pn.A(p:Pn):Array Value:=#[.int .i64 p.W,.int .i64 p.hd,.int .i64 p.next,p.K.v,.int .i64 p.x,.int .i64 p.y,.int .i64 p.w,.int .i64 p.h]
structure PnOk(p:Pn):Prop where
 W:0≤p.W∧p.W≤32768
 hd:0≤p.hd∧p.hd≤32768
 x:0≤p.x
 y:0≤p.y
 w:0≤p.w∧p.x+p.w≤p.W
 h:0≤p.h∧p.y+p.h≤p.hd
def Pn.n(p:Pn):Nat:=(p.w*p.h).toNat
def Pn.X(p:Pn)(i:Nat):Int:=p.x+(i:Int)%p.w
def Pn.Y(p:Pn)(i:Nat):Int:=p.y+(i:Int)/p.w
theorem PnOk.area{p:Pn}(hp:PnOk p):0≤p.w*p.h∧p.w*p.h≤1073741824:=by
 have h1:=hp.w;have h2:=hp.h;have h3:=hp.W;have h4:=hp.hd;have h5:=hp.x;have h6:=hp.y
 have:=mul_bd (x:=p.w) (y:=p.h) (A:=32768) (B:=32768) (by omega) (by omega)
 exact⟨Int.mul_nonneg h1.1 h2.1,by omega⟩
theorem PnOk.n{p:Pn}(hp:PnOk p):(p.n:Int)=p.w*p.h:=by have:=hp.area;unfold Pn.n;omega
theorem PnOk.at{p:Pn}(hp:PnOk p){i:Nat}(hi:i<p.n):0<p.w∧(0≤p.X i∧p.X i<p.W)∧(0≤p.Y i∧p.Y i<p.hd)∧(0≤(i:Int)%p.w∧(i:Int)%p.w<p.w)∧(0≤(i:Int)/p.w∧(i:Int)/p.w<p.h):=by
 have hn:=hp.n
 have h1:=hp.w;have h2:=hp.h;have h5:=hp.x;have h6:=hp.y
 have hw:0<p.w:=by
  by_cases h:0<p.w
  ·exact h
  ·have:p.w=0:=by omega
   rw[this,Int.zero_mul] at hn;omega
 have e1:=Int.emod_nonneg (i:Int) (show p.w≠0 by omega)
 have e2:=Int.emod_lt_of_pos (i:Int) hw
 have e3:0≤(i:Int)/p.w:=Int.ediv_nonneg (by omega) (by omega)
 have e4:(i:Int)/p.w<p.h:=Int.ediv_lt_of_lt_mul hw (by rw[Int.mul_comm];omega)
 unfold Pn.X Pn.Y
 omega
theorem PnOk.place{p:Pn}(hp:PnOk p){i:Nat}(hi:i<p.n):0≤p.Y i*p.W+p.X i∧p.Y i*p.W+p.X i<p.W*p.hd:=by
 obtain⟨_,hx,hy,_,_⟩:=hp.at hi
 have hq:((p.W*p.hd).toNat:Int)=p.W*p.hd:=Int.toNat_of_nonneg (Int.mul_nonneg hp.W.1 hp.hd.1)
 have:=in_pic (n:=(p.W*p.hd).toNat) hq hx hy
 omega
def eachA(p:Pn)(i:Nat)(ys:Array Value):Array Value:=(([]:List Value)++[Value.int .i64 i,Value.int .i64 (p.X i),Value.int .i64 (p.Y i),Value.int .i64 (p.Y i*p.W+p.X i)]++ys.toList).toArray
theorem each_call{p:Pn}{g:Nat}{ys:Array Value}{T:Nat→List Rs}(hp:PnOk p)(hs:St H0 H (T 0++σ))
 (step: ∀i,i<p.n→ ∀{σ':List Rs} {H1:Heap} {R1:Value→Heap→Prop},St H0 H1 (T i++σ')→(∀H',St H0 H' (T (i+1)++σ')→R1 (.tuple #[]) H')→CallsH Try.prog g (eachA p i ys) H1 R1)
 (hR: ∀H',St H0 H' (T p.n++σ)→R (.tuple #[]) H'):CallsH Try.prog 73 #[.agg p.A,.func (.func g) #[] ys] H R:=by
 have hn:=hp.n
 have har:=hp.area
 refine Try.s73 ?_
 unfold Try.S73
 refine hs.alc fun b3 H4 hs4=>⟨p.w,hs4.get 0 rfl (j:=6) rfl,p.h,hs4.get 0 rfl (j:=7) rfl,?_⟩
 rw[wrap_id (n:=p.w*p.h) (by omega) (by omega)]
 intro X7 hX7
 have mid: ∀{H1:Heap} {i:Nat},St H0 H1 (.cell b3 p.A 104::(T i++σ))→St H0 H1 (T i++(.cell b3 p.A 104::σ)):=fun h=>h.perm List.perm_middle.symm
 have go: ∀i,i≤p.n→ ∀H1,St H0 H1 (T i++(.cell b3 p.A 104::σ))→X7 [.int .i64 (i:Nat)] H1:=by
  refine upto fun i hi ih H1 hs1=>hX7 _ _ (br_dec (fun hlt=>?_) fun hge=>?_)
  ·have hi':i<p.n:=by omega
   obtain⟨hw,hx,hy,hm,hd⟩:=hp.at hi'
   have hpl:=hp.place hi'
   have hW:=hp.W
   have hhd:=hp.hd
   have hh:=hp.h
   have hy0:=hp.y
   have h9:St H0 H1 (.cell b3 p.A 104::(T i++σ)):=hs1.perm List.perm_middle
   refine⟨p.x,h9.get 0 rfl (j:=4) rfl,p.w,h9.get 0 rfl (j:=6) rfl,by omega,p.y,h9.get 0 rfl (j:=5) rfl,p.w,h9.get 0 rfl (j:=6) rfl,by omega,p.W,h9.get 0 rfl (j:=0) rfl,?_⟩
   have hX:p.x+(i:Int)%p.w=p.X i:=rfl
   have hY:p.y+(i:Int)/p.w=p.Y i:=rfl
   have hYW:=mul_bd (x:=p.Y i) (y:=p.W) (A:=32768) (B:=32768) (by omega) (by omega)
   rw[Int.tmod_eq_emod_of_nonneg (show(0:Int)≤i by omega),Int.tdiv_eq_ediv_of_nonneg (show(0:Int)≤i by omega),wrap_id (n:=(i:Int)/p.w) (by omega) (by omega),hX,hY,wrap_id (n:=p.X i) (by omega) (by omega),wrap_id (n:=p.Y i) (by omega) (by omega),wrap_id (n:=p.Y i*p.W) (by omega) (by omega),wrap_id (n:=p.Y i*p.W+p.X i) (by omega) (by omega)]
   refine step i hi' hs1 fun H' hs'=>⟨rfl,?_⟩
   rw[wrap_id (by omega) (by omega)]
   exact ih hi' H' hs'
  ·obtain rfl:i=p.n:=by omega
   refine hR H1 (hs1.perm List.perm_middle).tail
 exact go 0 (Nat.zero_le _) H4 (mid hs4)
def twoL(new old:List Int)(i:Nat):List Int:=new.take i++old.drop i
theorem twoL_len{new old:List Int}{i:Nat}(h:new.length=old.length)(hi:i≤old.length):(twoL new old i).length=old.length:=by unfold twoL;simp;omega
theorem twoL_set{new old:List Int}{i:Nat}{v:Int}(h:new.length=old.length)(hi:i<old.length)(hv:v=new.getD i 0):(twoL new old i).set i v=twoL new old (i+1):=by
 unfold twoL
 have ht:new.take (i+1)=new.take i++[v]:=by rw[List.take_add_one,getD_some new 0 (by omega),hv];rfl
 rw[List.set_append_right _ _ (by rw[List.length_take];omega),List.length_take,Nat.min_eq_left (by omega),Nat.sub_self,List.drop_eq_getElem_cons hi,List.set_cons_zero,ht,List.append_assoc]
 rfl
theorem twoL_at{new old:List Int}{i:Nat}(h:new.length=old.length)(hi:i<old.length):(twoL new old i)[i]?=some (old.getD i 0):=by
 unfold twoL
 rw[List.getElem?_append_right (by rw[List.length_take];omega),List.length_take,Nat.min_eq_left (by omega),Nat.sub_self,List.getElem?_drop,Nat.add_zero]
 exact getD_some old 0 hi
theorem twoL_zero(new old:List Int):twoL new old 0=old:=by simp[twoL]
theorem twoL_all{new old:List Int}(h:new.length=old.length):twoL new old old.length=new:=by unfold twoL;rw[List.take_of_length_le (by omega),List.drop_eq_nil_of_le (by omega),List.append_nil]
theorem rdB(hs:St H0 H σ)(q:Nat){b n:Nat}{l:List Int}{ty:TypeId}(hq:σ[q]?=some (.cell b (ints l).toArray ty))(hn:l.length=n){i:Nat}(hi:i<n){K:Int→Prop}(hK:K (l.getD i 0)):
 ∃a:Addr,(some ⟨b,0,none⟩:Option Addr)=some a∧0≤(i:Int)∧(i:Int)<((n:Nat):Int)∧ ∃v:Int,Sh.cell H (Addr.add a (Int.toNat (i:Int)*1))=some (.int .i64 v)∧K v:=by
 refine⟨_,rfl,by omega,by omega,l.getD i 0,?_,hK⟩
 rw[Int.toNat_natCast,Nat.mul_one,add_none,Nat.zero_add]
 exact hs.rdA q hq (getD_some l 0 (by omega))
end Go.Proofs
namespace Go.Proofs
open Go.Sh
variable {H0 H:Heap} {σ:List Rs} {R:Value→Heap→Prop}
def slV(b n:Nat):Value:= .slice (some ⟨b,0,none⟩) n n
def ptV1(b:Nat):Value:= .pointer (some ⟨b,0,none⟩)
def plL(p:Pn)(f:Nat→Int):List Int:=(List.range p.n).map f
theorem plL_len(p:Pn)(f:Nat→Int):(plL p f).length=p.n:=by simp[plL]
theorem plL_at{p:Pn}{f:Nat→Int}{i:Nat}(h:i<p.n):(plL p f).getD i 0=f i:=tab_getD h
def seenL(p:Pn)(f:LayF):List Int:=plL p fun i=>seenP f (p.X i) (p.Y i)
theorem source_step{p:Pn}(hp:PnOk p){f:LayF}{P M A K:Sl3}{w h next:Int}(hr:IS H0 P.p P.l (ints f.p))(hf:goodF w h next f)(hk:f.kind=0){bo bp bm bl bs:Nat}{i:Nat}(hi:i<p.n){σ':List Rs}{H1:Heap}{R1:Value→Heap→Prop}
 (hs:St H0 H1 ([.cell bo (ints (fillA (seenL p f) i)).toArray 3,.cell bs #[slV bo p.n] 23,.cell bp (picA f.w f.h P.p P.l P.c) 54,.cell bm (ints (backM f.map).2.l).toArray 26,.cell bl (cellsL f P.v M.v A.v K.v).toArray 45]++σ'))
 (hR: ∀H',St H0 H' ([.cell bo (ints (fillA (seenL p f) (i+1))).toArray 3,.cell bs #[slV bo p.n] 23,.cell bp (picA f.w f.h P.p P.l P.c) 54,.cell bm (ints (backM f.map).2.l).toArray 26,.cell bl (cellsL f P.v M.v A.v K.v).toArray 45]++σ')→R1 (.tuple #[]) H'):
 CallsH Try.prog 88 (eachA p i #[ptV1 bp,ptV1 bm,ptV1 bl,ptV1 bs]) H1 R1:=by
 obtain⟨_,hx,hy,_,_⟩:=hp.at hi
 have hW:=hp.W;have hhd:=hp.hd
 show CallsH Try.prog 88 #[.int .i64 i,.int .i64 (p.X i),.int .i64 (p.Y i),.int .i64 (p.Y i*p.W+p.X i),.pointer (some ⟨bp,0,none⟩),.pointer (some ⟨bm,0,none⟩),.pointer (some ⟨bl,0,none⟩),.pointer (some ⟨bs,0,none⟩)] H1 R1
 refine Try.s88 ?_
 unfold Try.S88
 refine⟨some ⟨bo,0,none⟩,p.n,p.n,hs.get 1 rfl (j:=0) rfl,_,rfl,rowIn_whole (hs.block 2 rfl),_,rfl,rowIn_whole (hs.block 3 rfl),f.smooth,hs.get 4 rfl (j:=15) rfl,?_⟩
 refine c89 (hr.ext hs.ext) (ras_pic hf hk) (backM_ok f.map) (by omega) (by omega) fun H14 he14=>⟨_,rfl,.inl he14,_,rfl,by omega,by omega,?_⟩
 rw[Int.toNat_natCast,Nat.mul_one,add_none,Nat.zero_add]
 refine(hs.step he14).putA 0 rfl (by rw[fillA_len (by rw[seenL,plL_len];omega),seenL,plL_len];exact hi) fun H17 hs17=>hR H17 ?_
 have e:=fill_put (L:=seenL p f) (k:=i) (v:=seenP f (p.X i) (p.Y i)) (by rw[seenL,plL_len];exact hi) (by rw[seenL,plL_at hi])
 rw[←e]
 exact hs17
def partAt(p:Pn)(f:LayF)(i:Nat):Int:=partP f (p.Y i*p.W+p.X i)
def overL(p:Pn)(f:LayF)(S O:List Int):List Int:=plL p fun i=>overP f (partAt p f i) (S.getD i 0) (O.getD i 0)
def adjL(p:Pn)(f:LayF)(O:List Int):List Int:=plL p fun i=>adjustP f (partAt p f i) (O.getD i 0)
theorem all_getD{l:List Int}(h:l.all pixelB=true)(i:Nat):pixelB (l.getD i 0)=true:=by
 by_cases hi:i<l.length
 ·rw[List.getD_eq_getElem?_getD,List.getElem?_eq_getElem hi];exact List.all_eq_true.1 h _ (List.getElem_mem hi)
 ·rw[List.getD_eq_getElem?_getD,List.getElem?_eq_none (by omega)];exact pixZ0
theorem plL_all{p:Pn}{f:Nat→Int}(h: ∀i,i<p.n→pixelB (f i)=true):(plL p f).all pixelB=true:=by
 rw[List.all_eq_true]
 intro v hv
 obtain⟨i,hi,rfl⟩:=List.mem_map.1 hv
 exact h i (List.mem_range.1 hi)
theorem over_step{p:Pn}(hp:PnOk p){t:T}{next:Int}{S O:List Int}(hS:S.length=p.n)(hO:O.length=p.n)(hSp:S.all pixelB=true)(hOp:O.all pixelB=true)(ht:rdT H0 t)(hf:goodF p.W p.hd next t.f){bo bs bl bx by_:Nat}{i:Nat}(hi:i<p.n){σ':List Rs}{H1:Heap}{R1:Value→Heap→Prop}
 (hs:St H0 H1 ([.cell bo (ints (twoL (overL p t.f S O) O i)).toArray 3,.cell bx #[slV bo p.n] 23,.cell bs (ints S).toArray 3,.cell by_ #[slV bs p.n] 23,.cell bl (cellsT t).toArray 45]++σ'))
 (hR: ∀H',St H0 H' ([.cell bo (ints (twoL (overL p t.f S O) O (i+1))).toArray 3,.cell bx #[slV bo p.n] 23,.cell bs (ints S).toArray 3,.cell by_ #[slV bs p.n] 23,.cell bl (cellsT t).toArray 45]++σ')→R1 (.tuple #[]) H'):
 CallsH Try.prog 74 (eachA p i #[ptV1 bl,ptV1 by_,ptV1 bx]) H1 R1:=by
 have hpl:=hp.place hi
 have hNl:(overL p t.f S O).length=O.length:=by rw[overL,plL_len,hO]
 have hiO:i<O.length:=by omega
 have hg:=part_byte hf (p.Y i*p.W+p.X i)
 have hso:=spl_ok (all_getD hSp i)
 have hoo:=spl_ok (all_getD hOp i)
 have hval:(overL p t.f S O).getD i 0=overP t.f (partAt p t.f i) (S.getD i 0) (O.getD i 0):=plL_at hi
 have hmode:(cellsT t).toArray[4]?=some (.int .i64 t.f.mode):=by cases t;rfl
 -- where nothing is laid
 have skip: ∀H',St H0 H' ([.cell bo (ints (twoL (overL p t.f S O) O i)).toArray 3,.cell bx #[slV bo p.n] 23,.cell bs (ints S).toArray 3,.cell by_ #[slV bs p.n] 23,.cell bl (cellsT t).toArray 45]++σ')→overP t.f (partAt p t.f i) (S.getD i 0) (O.getD i 0)=O.getD i 0→R1 (.tuple #[]) H':=fun H' h e=>hR H' (by
  have e2:=twoL_set hNl hiO (v:=O.getD i 0) (by rw[hval,e])
  have e3:(twoL (overL p t.f S O) O i).set i (O.getD i 0)=twoL (overL p t.f S O) O i:=by
   have h1:=twoL_at (new:=overL p t.f S O) hNl hiO
   obtain⟨h2,h3⟩:=List.getElem?_eq_some_iff.1 h1
   rw[←h3,List.set_getElem_self]
  rw[←e2,e3];exact h)
 show CallsH Try.prog 74 #[.int .i64 i,.int .i64 (p.X i),.int .i64 (p.Y i),.int .i64 (p.Y i*p.W+p.X i),.pointer (some ⟨bl,0,none⟩),.pointer (some ⟨by_,0,none⟩),.pointer (some ⟨bx,0,none⟩)] H1 R1
 refine Try.s74 ?_
 unfold Try.S74
 refine⟨_,by simp[cellsT_len],rowIn_whole (hs.block 4 rfl),c75 (rdT.ext hs.ext t ht) hf hpl fun H10 he10=>⟨_,rfl,?_⟩⟩
 have hs10:=hs.step he10
 refine⟨some ⟨bs,0,none⟩,p.n,p.n,hs10.get 3 rfl (j:=0) rfl,rdB hs10 2 rfl hS hi (br_ne (fun hne=>br_dec (fun hgt=>?_) fun hgt=>?_) fun h0=>?_)⟩
 ·have hov:overP t.f (partAt p t.f i) (S.getD i 0) (O.getD i 0)=joinP (blendP t.f.mode (fadeP (spl (S.getD i 0)) (partAt p t.f i)) (spl (O.getD i 0))):=by
   unfold overP;rw[if_pos ⟨hne,hgt⟩]
  refine⟨some ⟨bo,0,none⟩,p.n,p.n,hs10.get 1 rfl (j:=0) rfl,t.f.mode,?_,some ⟨bs,0,none⟩,p.n,p.n,hs10.get 3 rfl (j:=0) rfl,rdB hs10 2 rfl hS hi ⟨some ⟨bo,0,none⟩,p.n,p.n,hs10.get 1 rfl (j:=0) rfl,_,rfl,by omega,by omega,O.getD i 0,?_,?_⟩⟩
  ·have:=hs10.get 4 rfl (j:=4) hmode
   simpa using this
  ·rw[Int.toNat_natCast,Nat.mul_one,add_none,Nat.zero_add]
   exact hs10.rdA 0 rfl (twoL_at hNl hiO)
  refine c63 fun H24 he24=>⟨_,rfl,.inl he24,?_⟩
  obtain⟨q1,q2,q3,q4⟩:=hso.bytes
  refine c78 (c:=spl (S.getD i 0)) q1 q2 q3 q4 hg fun H27 he27=>⟨_,rfl,.inl he27,?_⟩
  refine c63 fun H30 he30=>⟨_,rfl,.inl he30,?_⟩
  refine c77 (fadeP_ok hso hg) (d:=spl (O.getD i 0)) hoo fun H33 he33=>⟨_,rfl,.inl he33,?_⟩
  obtain⟨z1,z2,z3,z4⟩:=(blendP_ok t.f.mode (fadeP_ok hso hg) hoo).bytes
  refine c76 z1 z2 z3 z4 fun H36 he36=>⟨_,rfl,.inl he36,_,rfl,by omega,by omega,?_⟩
  have hs36:=hs10.step ((((he24.trans he27).trans he30).trans he33).trans he36)
  rw[Int.toNat_natCast,Nat.mul_one,add_none,Nat.zero_add]
  refine hs36.putA 0 rfl (by rw[twoL_len hNl (by omega)];exact hiO) fun H39 hs39=>hR H39 ?_
  rw[←twoL_set hNl hiO (v:=joinP (blendP t.f.mode (fadeP (spl (S.getD i 0)) (partP t.f (p.Y i*p.W+p.X i))) (spl (O.getD i 0)))) (by rw[hval,hov];rfl)]
  exact hs39
 ·exact skip H10 hs10 (by unfold overP;rw[if_neg (fun hh=>hgt hh.2)])
 ·exact skip H10 hs10 (by unfold overP;rw[if_neg (fun hh=>hh.1 h0)])
theorem adj_step{p:Pn}(hp:PnOk p){t:T}{next:Int}{O:List Int}(hO:O.length=p.n)(hOp:O.all pixelB=true)(ht:rdT H0 t)(hf:goodF p.W p.hd next t.f){bo bl bx bt by_:Nat}{i:Nat}(hi:i<p.n){σ':List Rs}{H1:Heap}{R1:Value→Heap→Prop}
 (hs:St H0 H1 ([.cell bo (ints (twoL (adjL p t.f O) O i)).toArray 3,.cell bx #[slV bo p.n] 23,.cell bt (ints (tabL t.f.table t.f.params)).toArray 3,.cell by_ #[slV bt 256] 23,.cell bl (cellsT t).toArray 45]++σ'))
 (hR: ∀H',St H0 H' ([.cell bo (ints (twoL (adjL p t.f O) O (i+1))).toArray 3,.cell bx #[slV bo p.n] 23,.cell bt (ints (tabL t.f.table t.f.params)).toArray 3,.cell by_ #[slV bt 256] 23,.cell bl (cellsT t).toArray 45]++σ')→R1 (.tuple #[]) H'):
 CallsH Try.prog 85 (eachA p i #[ptV1 bl,ptV1 bx,ptV1 by_]) H1 R1:=by
 have hpl:=hp.place hi
 have hNl:(adjL p t.f O).length=O.length:=by rw[adjL,plL_len,hO]
 have hiO:i<O.length:=by omega
 have hg:=part_byte hf (p.Y i*p.W+p.X i)
 have hoo:=spl_ok (all_getD hOp i)
 have hval:(adjL p t.f O).getD i 0=adjustP t.f (partAt p t.f i) (O.getD i 0):=plL_at hi
 have htb:=tabL_ok hf.tab
 generalize hc:spl (O.getD i 0)=c at hoo
 generalize htl:tabL t.f.table t.f.params=tl at hs hR htb
 have htlen:tl.length=256:=by rw[←htl];exact tabL_len _ _
 obtain⟨q1,q2,q3,q4⟩:=hoo.bytes
 have bm: ∀{x:Int},byte x→0≤x∧x≤1000000:=fun h=>⟨h.1,by have:=h.2;omega⟩
 show CallsH Try.prog 85 #[.int .i64 i,.int .i64 (p.X i),.int .i64 (p.Y i),.int .i64 (p.Y i*p.W+p.X i),.pointer (some ⟨bl,0,none⟩),.pointer (some ⟨bx,0,none⟩),.pointer (some ⟨by_,0,none⟩)] H1 R1
 refine Try.s85 ?_
 unfold Try.S85
 refine⟨_,by simp[cellsT_len],rowIn_whole (hs.block 4 rfl),c75 (rdT.ext hs.ext t ht) hf hpl fun H10 he10=>⟨_,rfl,?_⟩⟩
 have hs10:=hs.step he10
 generalize hge:partP t.f (p.Y i*p.W+p.X i)=g at hg
 refine⟨some ⟨bo,0,none⟩,p.n,p.n,hs10.get 1 rfl (j:=0) rfl,_,rfl,by omega,by omega,O.getD i 0,?_,?_⟩
 ·rw[Int.toNat_natCast,Nat.mul_one,add_none,Nat.zero_add]
  exact hs10.rdA 0 rfl (twoL_at hNl hiO)
 refine c63 fun H16 he16=>⟨_,rfl,?_⟩
 rw[splitL_spl,hc]
 have hs16:=hs10.step he16
 refine hs16.alc fun b18 H19 hs19=>⟨rfl,hs19.putAllA 0 (l:=c.l) rfl rfl fun H20 hs20=>⟨some ⟨bt,0,none⟩,256,256,hs20.get 4 rfl (j:=0) rfl,_,rfl,rowIn_whole (hs20.block 0 rfl),?_⟩⟩
 refine c86 (hs20.isA 3 rfl htlen) htb q1 q2 q3 q4 fun H24 he24=>⟨_,rfl,?_⟩
 refine(hs20.step he24).alc fun b26 H27 hs27=>⟨rfl,hs27.putAllA 0 (l:=(mapP tl c).l) rfl rfl fun H28 hs28=>?_⟩
 have k1:=mapP1_bd (c:=c.r) htb q4
 have k2:=mapP1_bd (c:=c.g) htb q4
 have k3:=mapP1_bd (c:=c.b) htb q4
 have y1:byte (mapP1 tl c.r c.a):=by unfold byte at*;omega
 have y2:byte (mapP1 tl c.g c.a):=by unfold byte at*;omega
 have y3:byte (mapP1 tl c.b c.a):=by unfold byte at*;omega
 have hg2:byte (255-g):=by unfold byte at*;omega
 have wg:IntKind.wrap .i64 (255-g)=255-g:=by unfold byte at*;exact wrap_id (by omega) (by omega)
 have one: ∀{x m:Int},byte x→byte m→min c.a (IntKind.wrap .i64 (mulP m g+mulP x (255-g)))=min c.a (mulP m g+mulP x (255-g)):=fun hx hm=>by
  have u1:=mulP_byte hm hg
  have u2:=mulP_byte hx hg2
  unfold byte at u1 u2
  rw[wrap_id (by omega) (by omega)]
 intro X29 hX29
 refine hX29 _ _ (br_y (by decide) ⟨by decide,by decide,c.a,hs28.rdA 1 (j:=3) rfl rfl,by decide,by decide,mapP1 tl c.r c.a,hs28.rdA 0 (j:=0) rfl rfl,by decide,by decide,c.r,hs28.rdA 1 (j:=0) rfl rfl,mul_call (bm y1) (bm hg) ⟨_,rfl,.inl (Ext.refl _),?_⟩⟩)
 rw[wg]
 refine mul_call (bm q1) (bm hg2) ⟨_,rfl,.inl (Ext.refl _),by decide,by decide,?_⟩
 rw[one q1 y1]
 refine hs28.putA 1 (j:=0) rfl (Nat.le_of_ble_eq_true rfl) fun H29 hs29=>?_
 refine hX29 _ _ (br_y (by decide) ⟨by decide,by decide,c.a,hs29.rdA 1 (j:=3) rfl rfl,by decide,by decide,mapP1 tl c.g c.a,hs29.rdA 0 (j:=1) rfl rfl,by decide,by decide,c.g,hs29.rdA 1 (j:=1) rfl rfl,mul_call (bm y2) (bm hg) ⟨_,rfl,.inl (Ext.refl _),?_⟩⟩)
 rw[wg]
 refine mul_call (bm q2) (bm hg2) ⟨_,rfl,.inl (Ext.refl _),by decide,by decide,?_⟩
 rw[one q2 y2]
 refine hs29.putA 1 (j:=1) rfl (Nat.le_of_ble_eq_true rfl) fun H30 hs30=>?_
 refine hX29 _ _ (br_y (by decide) ⟨by decide,by decide,c.a,hs30.rdA 1 (j:=3) rfl rfl,by decide,by decide,mapP1 tl c.b c.a,hs30.rdA 0 (j:=2) rfl rfl,by decide,by decide,c.b,hs30.rdA 1 (j:=2) rfl rfl,mul_call (bm y3) (bm hg) ⟨_,rfl,.inl (Ext.refl _),?_⟩⟩)
 rw[wg]
 refine mul_call (bm q3) (bm hg2) ⟨_,rfl,.inl (Ext.refl _),by decide,by decide,?_⟩
 rw[one q3 y3]
 refine hs30.putA 1 (j:=2) rfl (Nat.le_of_ble_eq_true rfl) fun H31 hs31=>?_
 have hs31:St H0 H31 (.cell b26 (ints (mapP tl c).l).toArray 109:: .cell b18 (ints (adjP tl g c).l).toArray 109::([.cell bo (ints (twoL (adjL p t.f O) O i)).toArray 3,.cell bx #[slV bo p.n] 23,.cell bt (ints tl).toArray 3,.cell by_ #[slV bt 256] 23,.cell bl (cellsT t).toArray 45]++σ')):=hs31
 refine hX29 _ _ (br_n (by decide) ⟨some ⟨bo,0,none⟩,p.n,p.n,hs31.get 3 rfl (j:=0) rfl,_,rfl,rowIn_whole (hs31.block 1 rfl),?_⟩)
 obtain⟨z1,z2,z3,z4⟩:=(adjP_ok htb hg hoo).bytes
 refine c76 z1 z2 z3 z4 fun H48 he48=>⟨_,rfl,.inl he48,_,rfl,by omega,by omega,?_⟩
 rw[Int.toNat_natCast,Nat.mul_one,add_none,Nat.zero_add]
 refine(hs31.step he48).putA 2 rfl (by rw[twoL_len hNl (by omega)];exact hiO) fun H51 hs51=>hR H51 ?_
 rw[←twoL_set hNl hiO (v:=joinP (adjP tl g c)) (by rw[hval];unfold adjustP partAt;rw[htl,hge,hc])]
 exact hs51.tail.tail
end Go.Proofs
namespace Go.Proofs
open Go.Sh
variable {H0 H:Heap} {σ:List Rs} {R:Value→Heap→Prop}
theorem plL_congr{p:Pn}{f g:Nat→Int}(h: ∀i,i<p.n→f i=g i):plL p f=plL p g:=by
 unfold plL
 exact List.map_congr_left fun i hi=>h i (List.mem_range.1 hi)
def picL(p:Pn)(ls:List Lay):List Int:=plL p fun i=>lsPx p.W (p.X i) (p.Y i) ls 0
theorem picL_px{p:Pn}{ls:List Lay}{w h next:Int}(hg:gKs (goodF w h next) ls):(picL p ls).all pixelB=true:=plL_all fun i hi=>ls_px _ _ _ hg pixZ0
theorem picL_nil(p:Pn):picL p []=List.replicate p.n 0:=by
 unfold picL plL
 refine List.ext_getElem (by simp) fun i h1 h2=>?_
 simp[lsPx]
theorem replA{p:Pn}(hp:PnOk p):(List.toArray (reps (Int.toNat (p.w*p.h)) (Array.toList #[Value.int .i64 0])))=(ints (List.replicate p.n 0)).toArray:=repsA p.n
theorem c71{p:Pn}(hp:PnOk p){t:T}{next:Int}{O:List Int}(hO:O.length=p.n)(hOp:O.all pixelB=true)(ht:rdT H0 t)(hf:goodF p.W p.hd next t.f){bo:Nat}(hs:St H0 H (.cell bo (ints O).toArray 3::σ))(hA:t.f.params.length≤1000000000000)
 (hR: ∀H',St H0 H' (.cell bo (ints (adjL p t.f O)).toArray 3::σ)→R (.tuple #[]) H'):CallsH Try.prog 71 #[.agg p.A,.agg (cellsT t).toArray,slV bo p.n] H R:=by
 show CallsH Try.prog 71 #[.agg p.A,.agg (cellsT t).toArray,.slice (some ⟨bo,0,none⟩) p.n p.n] H R
 have hN:(adjL p t.f O).length=O.length:=by rw[adjL,plL_len,hO]
 cases t with|mk f P M A K ks=>
 have ht':=ht
 rw[rdT] at ht'
 have hAr:=ht'.2.2.1
 have hAl:=hAr.length
 have hA:f.params.length≤1000000000000:=hA
 refine Try.s71 ?_
 unfold Try.S71
 refine hs.alc fun b4 H5 hs5=>hs5.alc fun b6 H7 hs7=>hs7.alc fun b8 H9 hs9=>⟨f.table,hs9.get 1 rfl (j:=16) rfl,A.p,A.l,A.c,hs9.get 1 rfl (j:=17) rfl,?_⟩
 refine tab_call (hAr.ext hs9.ext) (by omega) hf.tab fun bt H13 hs13=>⟨_,_,_,_,rfl,?_⟩
 refine(hs9.call hs13).alc fun b16 H17 hs17=>hs17.putAll 0 rfl rfl (by simp[Value.oneCell']) fun H18 hs18=>⟨p.A,rfl,rowIn_whole (hs18.block 4 rfl),?_⟩
 have h18:St H0 H18 ([.cell bo (ints O).toArray 3,.cell b8 #[slV bo p.n] 23,.cell bt (ints (tabL f.table f.params)).toArray 3,.cell b16 #[slV bt 256] 23,.cell b6 (cellsT (.mk f P M A K ks)).toArray 45]++(.cell b4 p.A 104::σ)):=
  hs18.perm ((permC (a:=[_,_,_,_,_,_]) (b:=[_,_,_,_,_,_]) fun _ y=>by simp only[List.count_cons,List.count_nil];ac_rfl).append_right σ)
 refine each_call (T:=fun i=>[.cell bo (ints (twoL (adjL p f O) O i)).toArray 3,.cell b8 #[slV bo p.n] 23,.cell bt (ints (tabL f.table f.params)).toArray 3,.cell b16 #[slV bt 256] 23,.cell b6 (cellsT (.mk f P M A K ks)).toArray 45]) hp (by rw[twoL_zero];exact h18) (fun i hi {σ' H1 R1} h1 h2=>adj_step hp hO hOp ht hf hi h1 h2) fun H21 hs21=>⟨rfl,hR H21 ?_⟩
 rw[show twoL (adjL p f O) O p.n=adjL p f O from by rw[←hO];exact twoL_all hN] at hs21
 exact(((((hs21.del 1).del 1).del 1).del 1).del 1)
def srcL(p:Pn)(t:T):List Int:=if t.f.kind=0 then seenL p t.f else picL p (layKs t.kids)
def PicOkT(t:T):Prop:= ∀{H:Heap} {R:Value→Heap→Prop} {p:Pn} {next:Int},PnOk p→grp H t.K t.kids→gKs (goodF p.W p.hd next) (layKs t.kids)→okKs (layKs t.kids)→t.kids.length≤1000000000→(∀b H',St H H' [.cell b (ints (picL p (layKs t.kids))).toArray 3]→R (slV b p.n) H')→CallsH Try.prog 57 #[.agg p.A,t.K.v] H R
theorem c72{p:Pn}(hp:PnOk p){t:T}{next:Int}(iht:PicOkT t)(ht:rdT H t)(hg:gT (goodF p.W p.hd next) (layT t))(hok:okL (layT t))(hk2:t.f.kind≠2)(hR: ∀b H',St H H' [.cell b (ints (srcL p t)).toArray 3]→R (slV b p.n) H'):CallsH Try.prog 72 #[.agg p.A,.agg (cellsT t).toArray] H R:=by
 have har:=hp.area
 cases t with|mk f P M A K ks=>
 have ht':=ht
 rw[rdT] at ht'
 rw[layT] at hg hok
 obtain⟨hf,_,hgk⟩:=hg
 obtain⟨o1,o2,o3,o4,o5⟩:=hok
 have hkind:=hf.kind
 have hk2:f.kind≠2:=hk2
 refine Try.s72 ?_
 unfold Try.S72
 refine(St.nil H).alc fun b3 H4 hs4=>hs4.alc fun b5 H6 hs6=>⟨f.kind,hs6.get 0 rfl (j:=1) rfl,br_eq (fun hk0=>?_) fun hk0=>br_eq (fun hk1=>?_) fun hk1=>by omega⟩
 ·refine⟨f.w,hs6.get 0 rfl (j:=5) rfl,f.h,hs6.get 0 rfl (j:=6) rfl,P.p,P.l,P.c,hs6.get 0 rfl (j:=7) rfl,hs6.alc fun b11 H12 hs12=>⟨rfl,hs12.putAll 0 rfl rfl (by simp[Value.oneCell']) fun H13 hs13=>⟨(ints f.map.l).toArray,rfl,?_,?_⟩⟩⟩
  ·exact rowIn_block (hs13.block 1 rfl) fun j v hv=>by
    have hj:j<6:=(Array.getElem?_eq_some_iff.1 hv).1
    rw[←hv]
    rcases j with _|_|_|_|_|_|j<;>first|rfl|omega
  refine c52 fun H16 he16=>⟨_,_,rfl,?_⟩
  refine(hs13.step he16).alc fun b19 H20 hs20=>⟨rfl,hs20.putAllA 0 (l:=(backM f.map).2.l) rfl rfl fun H21 hs21=>⟨p.w,hs21.get 3 rfl (j:=6) rfl,p.h,hs21.get 3 rfl (j:=7) rfl,?_⟩⟩
  rw[wrap_id (n:=p.w*p.h) (by omega) (by omega)]
  refine⟨har.1,Int.le_refl _,by omega,by omega,?_⟩
  rw[replA hp]
  refine hs21.alc fun b24 H25 hs25=>hs25.alc fun b26 H27 hs27=>hs27.putAll 0 rfl rfl (by simp[Value.oneCell']) fun H28 hs28=>⟨p.A,rfl,rowIn_whole (hs28.block 5 rfl),?_⟩
  have hs28:St H H28 [.cell b26 #[slV b24 p.n] 23,.cell b24 (ints (List.replicate p.n 0)).toArray 3,.cell b19 (ints (backM f.map).2.l).toArray 26,.cell b11 (picA f.w f.h P.p P.l P.c) 54,.cell b5 (cellsL f P.v M.v A.v K.v).toArray 45,.cell b3 p.A 104]:=hs28
  have h28:St H H28 ([.cell b24 (ints (List.replicate p.n 0)).toArray 3,.cell b26 #[slV b24 p.n] 23,.cell b11 (picA f.w f.h P.p P.l P.c) 54,.cell b19 (ints (backM f.map).2.l).toArray 26,.cell b5 (cellsL f P.v M.v A.v K.v).toArray 45]++[.cell b3 p.A 104]):=
   hs28.perm (permC (a:=[_,_,_,_,_,_]) (b:=[_,_,_,_,_,_]) fun _ y=>by simp only[List.count_cons,List.count_nil];ac_rfl)
  have e0:List.replicate p.n 0=fillA (seenL p f) 0:=by rw[fillA_zero,seenL,plL_len]
  rw[e0] at h28
  refine each_call (T:=fun i=>[.cell b24 (ints (fillA (seenL p f) i)).toArray 3,.cell b26 #[slV b24 p.n] 23,.cell b11 (picA f.w f.h P.p P.l P.c) 54,.cell b19 (ints (backM f.map).2.l).toArray 26,.cell b5 (cellsL f P.v M.v A.v K.v).toArray 45]) hp h28 (fun i hi {σ' H1 R1} h1 h2=>source_step hp ht'.1 hf hk0 hi h1 h2) fun H31 hs31=>⟨rfl,some ⟨b24,0,none⟩,p.n,p.n,hs31.get 1 rfl (j:=0) rfl,hR b24 H31 ?_⟩
  have e1:fillA (seenL p f) p.n=seenL p f:=by have:=fillA_all (seenL p f);rw[seenL,plL_len] at this;exact this
  rw[e1] at hs31
  rw[show srcL p (.mk f P M A K ks)=seenL p f from by unfold srcL;rw[if_pos (show(T.mk f P M A K ks).f.kind=0 from hk0)];rfl]
  exact hs31.take 1
 ·refine⟨p.A,rfl,rowIn_whole (hs6.block 1 rfl),K.p,K.l,K.c,hs6.get 0 rfl (j:=18) rfl,?_⟩
  rw[show srcL p (.mk f P M A K ks)=picL p (layKs ks) from by unfold srcL;rw[if_neg (show ¬(T.mk f P M A K ks).f.kind=0 from hk0)];rfl] at hR
  rw[layKs_len] at o4
  refine iht hp (grp.ext ⟨ht'.2.2.2.1,ht'.2.2.2.2⟩ hs6.ext) hgk o5 o4 fun b H36 hs36=>⟨_,_,_,rfl,hR b H36 ?_⟩
  exact(hs6.call hs36).take 1
theorem list_of{ks:List T}(ih: ∀t∈ks,PicOkT t){K:Sl3}{p:Pn}{next:Int}(hp:PnOk p)(hg:grp H K ks)(hgk:gKs (goodF p.W p.hd next) (layKs ks))(hok:okKs (layKs ks))(hl:ks.length≤1000000000)(hR: ∀b H',St H H' [.cell b (ints (picL p (layKs ks))).toArray 3]→R (slV b p.n) H'):CallsH Try.prog 57 #[.agg p.A,K.v] H R:=by
 show CallsH Try.prog 57 #[.agg p.A,.slice K.p K.l K.c] H R
 have har:=hp.area
 have hKl:=hg.1.1
 refine Try.s57 ?_
 unfold Try.S57
 refine(St.nil H).alc fun b3 H4 hs4=>⟨p.w,hs4.get 0 rfl (j:=6) rfl,p.h,hs4.get 0 rfl (j:=7) rfl,?_⟩
 rw[wrap_id (n:=p.w*p.h) (by omega) (by omega)]
 refine⟨har.1,Int.le_refl _,by omega,by omega,?_⟩
 rw[replA hp]
 refine hs4.alc fun b7 H8 hs8=>hs8.alc fun b9 H10 hs10=>hs10.putAll 0 rfl rfl (by simp[Value.oneCell']) fun H11 hs11=>?_
 intro X12 hX12
 have go: ∀k,k≤ks.length→ ∀H1,St H H1 [.cell b7 (ints (picL p ((layKs ks).take k))).toArray 3,.cell b9 #[slV b7 p.n] 23,.cell b3 p.A 104]→X12 [.int .i64 (k:Nat)] H1:=by
  refine upto fun k hk ihk H1 hs1=>hX12 _ _ (br_dec (fun hlt=>?_) fun hge=>?_)
  ·have hk':k<ks.length:=by omega
   have ht:=List.getElem?_eq_getElem hk'
   generalize ks[k]=t at ht
   have htm:=List.mem_of_getElem? ht
   have hlt2:(layKs ks)[k]?=some (layT t):=by rw[layKs_map,List.getElem?_map,ht];rfl
   have hmem:=List.mem_of_getElem? hlt2
   have hgt:=gKs_iff.1 hgk _ hmem
   have hot:=okKs_iff.1 hok _ hmem
   have htk:(layKs ks).take (k+1)=(layKs ks).take k++[layT t]:=by rw[List.take_add_one,hlt2];rfl
   have hgood:goodF p.W p.hd next t.f:=by cases t;exact hgt.1
   have hprev:gKs (goodF p.W p.hd next) ((layKs ks).take k):=gKs_iff.2 fun u hu=>gKs_iff.1 hgk u (List.mem_of_mem_take hu)
   have hOp:=picL_px (p:=p) hprev
   have hO:(picL p ((layKs ks).take k)).length=p.n:=plL_len _ _
   have hOat: ∀i,i<p.n→(picL p ((layKs ks).take k)).getD i 0=lsPx p.W (p.X i) (p.Y i) ((layKs ks).take k) 0:=fun i hi=>plL_at hi
   obtain⟨a,h1,h2,h3⟩:=(hg.ext hs1.ext).get ht
   have hrd:rdT H t:=rdKs_iff.1 hg.2 t htm
   have next': ∀H2,St H H2 [.cell b7 (ints (picL p ((layKs ks).take (k+1)))).toArray 3,.cell b9 #[slV b7 p.n] 23,.cell b3 p.A 104]→X12 [.int .i64 (IntKind.wrap .i64 ((k:Int)+1))] H2:=fun H2 hs2=>by
    rw[wrap_id (by omega) (by omega)]
    exact ihk hk' H2 hs2
   have hshape:layT t= .mk t.f (layKs t.kids):=by cases t;rfl
   have step: ∀i,lsPx p.W (p.X i) (p.Y i) ((layKs ks).take (k+1)) 0=layPx p.W (p.X i) (p.Y i) (.mk t.f (layKs t.kids)) (lsPx p.W (p.X i) (p.Y i) ((layKs ks).take k) 0):=fun i=>by
    rw[htk,lsPx_app,lsPx,lsPx,hshape]
   refine⟨a,h1,by omega,hlt,(cellsT t).toArray,by simp[cellsT_len],h2,hs1.alc fun b17 H18 hs18=>⟨by simp[cellsT_len],hs18.putAll 0 rfl (by simp[cellsT_len]) (by simpa using cellsT_one t) fun H19 hs19=>⟨t.f.hidden,?_,br_i (fun hh=>next' H19 ?_) fun hh=>⟨t.f.kind,?_,br_eq (fun hk2=>?_) fun hk2=>?_⟩⟩⟩⟩
   ·have:=hs19.get 0 rfl (j:=2) (v:= .bool t.f.hidden) (by cases t;rfl)
    simpa using this
   ·have e:picL p ((layKs ks).take (k+1))=picL p ((layKs ks).take k):=plL_congr fun i hi=>by rw[step i,layPx,if_pos hh]
    rw[e];exact hs19.tail
   ·have:=hs19.get 0 rfl (j:=1) (v:= .int .i64 t.f.kind) (by cases t;rfl)
    simpa using this
   ·refine⟨p.A,rfl,rowIn_whole (hs19.block 3 rfl),_,by simp[cellsT_len],rowIn_whole (hs19.block 0 rfl),some ⟨b7,0,none⟩,p.n,p.n,hs19.get 2 rfl (j:=0) rfl,?_⟩
    have h19:St H H19 [.cell b7 (ints (picL p ((layKs ks).take k))).toArray 3,.cell b17 (cellsT t).toArray 45,.cell b9 #[slV b7 p.n] 23,.cell b3 p.A 104]:=hs19.swap
    refine c71 hp hO hOp hrd hgood h19 (by rw[hshape] at hot;obtain⟨_,_,o3,_⟩:=hot;omega) fun H26 hs26=>⟨rfl,next' H26 ?_⟩
    have e:picL p ((layKs ks).take (k+1))=adjL p t.f (picL p ((layKs ks).take k)):=plL_congr fun i hi=>by
     rw[step i,layPx,if_neg (by rw[hh];decide),if_pos hk2,hOat i hi];rfl
    rw[e];exact hs26.del 1
   ·refine⟨p.A,rfl,rowIn_whole (hs19.block 3 rfl),_,by simp[cellsT_len],rowIn_whole (hs19.block 0 rfl),?_⟩
    refine c72 hp (ih t htm) (rdT.ext hs19.ext t hrd) hgt hot hk2 fun bs H30 hs30=>⟨_,_,_,rfl,?_⟩
    refine(hs19.call hs30).alc fun b32 H33 hs33=>hs33.putAll 0 rfl rfl (by simp[Value.oneCell',slV]) fun H34 hs34=>⟨p.A,rfl,rowIn_whole (hs34.block 5 rfl),?_⟩
    have hSl:(srcL p t).length=p.n:=by unfold srcL;split<;>exact plL_len _ _
    have hSp:(srcL p t).all pixelB=true:=by
     unfold srcL
     split
     ·rename_i hk0;exact plL_all fun i hi=>atP_ok (ras_pic hgood hk0) _ _ _ _
     ·exact picL_px (w:=p.W) (h:=p.hd) (next:=next) (by rw[hshape] at hgt;exact hgt.2.2)
    have h34:St H H34 ([.cell b7 (ints (picL p ((layKs ks).take k))).toArray 3,.cell b9 #[slV b7 p.n] 23,.cell bs (ints (srcL p t)).toArray 3,.cell b32 #[slV bs p.n] 23,.cell b17 (cellsT t).toArray 45]++[.cell b3 p.A 104]):=
     hs34.perm (permC (a:=[_,_,_,_,_,_]) (b:=[_,_,_,_,_,_]) fun _ y=>by simp only[List.count_cons,List.count_nil];ac_rfl)
    have hN:(overL p t.f (srcL p t) (picL p ((layKs ks).take k))).length=(picL p ((layKs ks).take k)).length:=by rw[overL,plL_len,hO]
    refine each_call (T:=fun i=>[.cell b7 (ints (twoL (overL p t.f (srcL p t) (picL p ((layKs ks).take k))) (picL p ((layKs ks).take k)) i)).toArray 3,.cell b9 #[slV b7 p.n] 23,.cell bs (ints (srcL p t)).toArray 3,.cell b32 #[slV bs p.n] 23,.cell b17 (cellsT t).toArray 45]) hp (by rw[twoL_zero];exact h34) (fun i hi {σ' H1 R1} h1 h2=>over_step hp hSl hO hSp hOp hrd hgood hi h1 h2) fun H37 hs37=>⟨rfl,next' H37 ?_⟩
    rw[show twoL (overL p t.f (srcL p t) (picL p ((layKs ks).take k))) (picL p ((layKs ks).take k)) p.n=overL p t.f (srcL p t) (picL p ((layKs ks).take k)) from by have:=twoL_all hN;rw[hO] at this;exact this] at hs37
    have e:picL p ((layKs ks).take (k+1))=overL p t.f (srcL p t) (picL p ((layKs ks).take k)):=plL_congr fun i hi=>by
     rw[step i,layPx,if_neg (by rw[hh];decide),if_neg hk2,hOat i hi]
     have es:(srcL p t).getD i 0=if t.f.kind=0 then seenP t.f (p.X i) (p.Y i) else lsPx p.W (p.X i) (p.Y i) (layKs t.kids) 0:=by
      unfold srcL
      by_cases hk0:t.f.kind=0
      ·rw[if_pos hk0,if_pos hk0];exact plL_at hi
      ·rw[if_neg hk0,if_neg hk0];exact plL_at hi
     rw[es];rfl
    rw[e]
    exact((hs37.del 2).del 2).del 2
  ·have hkl:k=ks.length:=by omega
   rw[hkl,List.take_of_length_le (by rw[layKs_len];exact Nat.le_refl _)] at hs1
   exact⟨some ⟨b7,0,none⟩,p.n,p.n,hs1.get 1 rfl (j:=0) rfl,hR b7 H1 (hs1.take 1)⟩
 refine go 0 (Nat.zero_le _) H11 ?_
 rw[List.take_zero,picL_nil]
 have hs11:St H H11 [.cell b9 #[slV b7 p.n] 23,.cell b7 (ints (List.replicate p.n 0)).toArray 3,.cell b3 p.A 104]:=hs11
 exact hs11.perm (permC (a:=[_,_,_]) (b:=[_,_,_]) fun _ y=>by simp only[List.count_cons,List.count_nil];ac_rfl)
theorem pic_all: ∀t,PicOkT t:=T.ind fun f P M A K ks ih=>fun{H R p next} hp hg hgk hok hl hR=>list_of ih hp hg hgk hok hl hR
theorem c57{ks:List T}{K:Sl3}{p:Pn}{next:Int}(hp:PnOk p)(hg:grp H K ks)(hgk:gKs (goodF p.W p.hd next) (layKs ks))(hok:okKs (layKs ks))(hl:ks.length≤1000000000)(hR: ∀b H',St H H' [.cell b (ints (picL p (layKs ks))).toArray 3]→R (slV b p.n) H'):CallsH Try.prog 57 #[.agg p.A,K.v] H R:=list_of (fun t _=>pic_all t) hp hg hgk hok hl hR
end Go.Proofs
namespace Go.Proofs
open Go.Sh
variable {H0 H:Heap} {σ:List Rs} {R:Value→Heap→Prop}
def regP(D:DocL)(x y w h:Int):Pn:=⟨D.w,D.h,0,.nil,x,y,w,h⟩
structure RegOk(D:DocL)(x y w h:Int):Prop where
 hx:0≤x
 hy:0≤y
 hw:0≤w∧w≤D.w-x
 hh:0≤h∧h≤D.h-y
theorem Inv.sides{D:DocL}(hi:Inv D):(1≤D.w∧D.w≤32768)∧(1≤D.h∧D.h≤32768):=by
 have:=hi.size
 unfold sizedB at this
 have:=of_decide_eq_true this
 omega
theorem Inv.few{D:DocL}(hi:Inv D):D.ks.length≤4096:=by have h1:=len_cnt D.ks;have:=hi.cnt;omega
theorem c39{A:Array Value}{D:DocL}{x y w h:Int}(hd:DocR H A D)(hi:Inv D)(hb:(-9223372036854775808≤x∧x≤9223372036854775807)∧(-9223372036854775808≤y∧y≤9223372036854775807))
 (h1:RegOk D x y w h→ ∀b H',St H H' [.cell b (ints (picL (regP D x y w h) D.ks)).toArray 3]→R (.tuple #[slV b (regP D x y w h).n,.int .i64 0]) H')
 (h0: ¬RegOk D x y w h→ ∀H',Ext H H'→R (.tuple #[.slice none 0 0,.int .i64 12]) H'):CallsH Try.prog 39 #[.agg A,.int .i64 x,.int .i64 y,.int .i64 w,.int .i64 h] H R:=by
 obtain⟨s1,s2⟩:=hi.sides
 have hfew:=hi.few
 obtain⟨K,ks,rfl,hg,hl⟩:=hd
 refine Try.s39 ?_
 unfold Try.S39
 refine(St.nil H).alc fun b6 H7 hs7=>?_
 intro J8 hJ8
 have bad: ¬RegOk D x y w h→R (.tuple #[.slice none 0 0,.int .i64 12]) H7:=fun hn=>h0 hn H7 hs7.ext
 refine br_dec (fun g=>bad fun hh=>by have:=hh.hx;omega) fun g1=>br_dec (fun g=>bad fun hh=>by have:=hh.hy;omega) fun g2=>br_dec (fun g=>bad fun hh=>by have:=hh.hw;omega) fun g3=>br_dec (fun g=>bad fun hh=>by have:=hh.hh;omega) fun g4=>⟨D.w,hs7.get 0 rfl (j:=0) rfl,br_dec (fun g=>bad fun hh=>by have:=hh.hw;omega) fun g5=>⟨D.h,hs7.get 0 rfl (j:=1) rfl,br_dec (fun g=>bad fun hh=>by have:=hh.hh;omega) fun g6=>⟨D.w,hs7.get 0 rfl (j:=0) rfl,?_⟩⟩⟩
 rw[wrap_id (n:=D.w-x) (by omega) (by omega)]
 refine br_dec (fun g=>bad fun hh=>by have:=hh.hw;omega) fun g7=>⟨D.h,hs7.get 0 rfl (j:=1) rfl,?_⟩
 rw[wrap_id (n:=D.h-y) (by omega) (by omega)]
 refine br_dec (fun g=>bad fun hh=>by have:=hh.hh;omega) fun g8=>hJ8 _ ?_
 have hok:RegOk D x y w h:=⟨by omega,by omega,by omega,by omega⟩
 refine⟨_,rfl,rowIn_whole (hs7.block 0 rfl),rfl,by decide,K.p,K.l,K.c,hs7.get 0 rfl (j:=3) rfl,?_⟩
 have hp:PnOk ⟨D.w,D.h,D.next,K,x,y,w,h⟩:=⟨by show 0≤D.w∧D.w≤32768;omega,by show 0≤D.h∧D.h≤32768;omega,hok.hx,hok.hy,by have:=hok.hw;show 0≤w∧x+w≤D.w;omega,by have:=hok.hh;show 0≤h∧y+h≤D.h;omega⟩
 have hgood:=hi.good
 have hokl:=hi.ok
 rw[←hl] at hgood hokl hfew
 rw[layKs_len] at hfew
 refine c57 (p:=⟨D.w,D.h,D.next,K,x,y,w,h⟩) (K:=K) hp (hg.ext hs7.ext) hgood hokl (by omega) fun b H13 hs13=>⟨_,_,_,rfl,?_⟩
 rw[hl] at hs13
 exact h1 hok b H13 ((hs7.call hs13).take 1)
theorem reg_at{D:DocL}{x y:Int}{w h i j:Nat}(hi:i<w)(hj:j<h):(picL (regP D x y w h) D.ks).getD (j*w+i) 0=lsPx D.w (x+i) (y+j) D.ks 0:=by
 have hlt:j*w+i<w*h:=by
  have:(j+1)*w≤h*w:=Nat.mul_le_mul_right _ hj
  rw[Nat.add_mul,Nat.one_mul,Nat.mul_comm h w] at this
  omega
 have hn:(regP D x y w h).n=w*h:=by show((w:Int)*(h:Int)).toNat=w*h;rw[←Int.natCast_mul,Int.toNat_natCast]
 have e1:(regP D x y w h).X (j*w+i)=x+i:=by
  show x+((j*w+i:Nat):Int)%(w:Int)=x+i
  rw[←Int.natCast_emod,Nat.add_comm,Nat.add_mul_mod_self_right,Nat.mod_eq_of_lt hi]
 have e2:(regP D x y w h).Y (j*w+i)=y+j:=by
  show y+((j*w+i:Nat):Int)/(w:Int)=y+j
  rw[←Int.natCast_ediv,Nat.add_comm,Nat.add_mul_div_right _ _ (by omega),Nat.div_eq_of_lt hi,Nat.zero_add]
 have:=plL_at (p:=regP D x y w h) (f:=fun i=>lsPx (regP D x y w h).W ((regP D x y w h).X i) ((regP D x y w h).Y i) D.ks 0) (i:=j*w+i) (by rw[hn];exact hlt)
 rw[show picL (regP D x y w h) D.ks=plL (regP D x y w h) fun i=>lsPx (regP D x y w h).W ((regP D x y w h).X i) ((regP D x y w h).Y i) D.ks 0 from rfl,this]
 simp only[e1,e2]
 rfl
def wholeP(D:DocL):Pn:=regP D 0 0 D.w D.h
def wholeL(D:DocL):List Int:=picL (wholeP D) D.ks
theorem c17{A:Array Value}{D:DocL}(hd:DocR H A D)(hi:Inv D)(hR: ∀b H',St H H' [.cell b (ints (wholeL D)).toArray 3]→R (.agg #[.int .i64 D.w,.int .i64 D.h,slV b (wholeP D).n]) H'):CallsH Try.prog 17 #[.agg A] H R:=by
 obtain⟨s1,s2⟩:=hi.sides
 refine Try.s17 ?_
 unfold Try.S17
 have hA:A[0]?=some (.int .i64 D.w)∧A[1]?=some (.int .i64 D.h):=by obtain⟨K,ks,rfl,_⟩:=hd;exact⟨rfl,rfl⟩
 refine(St.nil H).alc fun b2 H3 hs3=>hs3.alc fun b4 H5 hs5=>⟨A,hd.size,rowIn_whole (hs5.block 1 rfl),D.w,hs5.get 1 rfl (j:=0) hA.1,D.h,hs5.get 1 rfl (j:=1) hA.2,?_⟩
 refine c39 (hd.ext hs5.ext) hi (by decide) (fun _ b H10 hs10=>⟨_,_,_,_,rfl,?_⟩) fun hn=>absurd ⟨by decide,by decide,by omega,by omega⟩ hn
 have h10:=hs5.call hs10
 refine⟨D.w,h10.get 2 rfl (j:=0) hA.1,D.h,h10.get 2 rfl (j:=1) hA.2,rfl,h10.putAll 1 rfl rfl (by simp[Value.oneCell']) fun H15 hs15=>⟨_,rfl,rowIn_whole (hs15.block 1 rfl),hR b H15 (hs15.take 1)⟩⟩
end Go.Proofs
