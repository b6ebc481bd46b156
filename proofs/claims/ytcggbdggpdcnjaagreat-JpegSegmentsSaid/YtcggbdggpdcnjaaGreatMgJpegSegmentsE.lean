/-
  OWN WORK. Several texts in one: JpK, JpL, FlG, FlB, FlC, FlH, JpM, ShV, JpN, JpO, JpP, JpQ, JpR, JpS.
-/
import Derived.Test.YtcggbdggpdcnjaaGreatMgJpegSegmentsD
import Derived.Test.YtcggbdggpdcnjaaGreatMgJpegSegmentsC

set_option linter.unusedVariables false
set_option linter.unusedSimpArgs false
namespace Go.Proofs
open Go.Sh
def zigL:List Nat:=[0,1,8,16,9,2,3,10,17,24,32,25,18,11,4,5,12,19,26,33,40,48,41,34,27,20,13,6,7,14,21,28,35,42,49,56,57,50,43,36,29,22,15,23,30,37,44,51,58,59,52,45,38,31,39,46,53,60,61,54,47,55,62,63]
def zagL:List Nat:=(List.range 64).map fun a=>zigL.findIdx (· ==a)
def zig(i:Nat):Nat:=zigL.getD i 0
def zag(i:Nat):Nat:=zagL.getD i 0
theorem zigL_len:zigL.length=64:=rfl
theorem zig_fin: ∀i:Fin 64,zig i.val<64∧zag (zig i.val)=i.val∧zag i.val<64∧zig (zag i.val)=i.val:=by decide+kernel
theorem zig_lt{i:Nat}(h:i<64):zig i<64:=(zig_fin ⟨i,h⟩).1
theorem zag_zig{i:Nat}(h:i<64):zag (zig i)=i:=(zig_fin ⟨i,h⟩).2.1
theorem zag_lt{i:Nat}(h:i<64):zag i<64:=(zig_fin ⟨i,h⟩).2.2.1
theorem zig_zag{i:Nat}(h:i<64):zig (zag i)=i:=(zig_fin ⟨i,h⟩).2.2.2
theorem zig_get{i:Nat}(h:i<64):zigL[i]?=some (zig i):=get_gD _ _ (by rw[zigL_len];exact h)
def zigI:List Int:=zigL.map Int.ofNat
theorem zigI_len:zigI.length=64:=rfl
theorem zigI_get{i:Nat}(h:i<64):zigI[i]?=some ((zig i:Nat):Int):=by unfold zigI;rw[List.getElem?_map,zig_get h];rfl
def spread(s l:List Int):Nat→List Int
 |0=>s
 |i+1=>(spread s l i).set (zig i) (l.getD i 0)
theorem spread_len(s l:List Int): ∀i,(spread s l i).length=s.length
 |0=>rfl
 |i+1=>by rw[spread,List.length_set,spread_len]
theorem getD_set_ite{α:Type}(l:List α)(i j:Nat)(v d:α)(h:i<l.length):(l.set i v).getD j d=if i=j then v else l.getD j d:=by
 by_cases e:i=j
 ·subst e;rw[if_pos rfl,List.getD_eq_getElem?_getD,List.getElem?_set_self h];rfl
 ·rw[if_neg e,List.getD_eq_getElem?_getD,List.getElem?_set_ne e,List.getD_eq_getElem?_getD]
theorem spread_get(s l:List Int)(h:s.length=64): ∀i,i≤64→ ∀j,j<64→(spread s l i).getD j 0=if zag j<i then l.getD (zag j) 0 else s.getD j 0
 |0,_,j,_=>by simp[spread]
 |i+1,hi,j,hj=>by
  rw[spread,getD_set_ite _ _ _ _ _ (by rw[spread_len,h];exact zig_lt (by omega)),spread_get s l h i (by omega) j hj]
  by_cases e:zig i=j
  ·subst e
   rw[if_pos rfl,zag_zig (by omega),if_pos (by omega)]
  ·have:zag j≠i:=fun he=>e (by rw[←he,zig_zag hj])
   rw[if_neg e]
   by_cases h1:zag j<i
   ·rw[if_pos h1,if_pos (by omega)]
   ·rw[if_neg h1,if_neg (by omega)]
theorem list_ext_getD{a b:List Int}{n:Nat}(ha:a.length=n)(hb:b.length=n)(h: ∀j,j<n→a.getD j 0=b.getD j 0):a=b:=by
 refine List.ext_getElem? fun j=>?_
 rcases Nat.lt_or_ge j n with hj|hj
 ·rw[get_gD a 0 (by omega),get_gD b 0 (by omega),h j hj]
 ·rw[List.getElem?_eq_none (by omega),List.getElem?_eq_none (by omega)]
def zeros64:List Int:=List.replicate 64 0
theorem zeros64_len:zeros64.length=64:=by unfold zeros64;simp
theorem spread_zig{t:List Int}(h:t.length=64)(s l:List Int)(hs:s.length=64)(hl: ∀i,i<64→l.getD i 0=t.getD (zig i) 0):spread s l 64=t:=by
 refine list_ext_getD (n:=64) (by rw[spread_len,hs]) h fun j hj=>?_
 rw[spread_get s l hs 64 (by omega) j hj,if_pos (zag_lt hj),hl _ (zag_lt hj),zig_zag hj]
def segM(b:List Int):Option (List Int×List Int):=
 if b.length<2 then none else if b.getD 0 0*256+b.getD 1 0<2∨(b.length:Int)<b.getD 0 0*256+b.getD 1 0 then none
 else some ((b.take (b.getD 0 0*256+b.getD 1 0).toNat).drop 2,b.drop (b.getD 0 0*256+b.getD 1 0).toNat)
def okT(d:List Int):Prop:=65≤d.length∧d.getD 0 0≤3∧ ∀i,i<64→d.getD (1+i) 0≠0
instance(d:List Int):Decidable (okT d):=by unfold okT;infer_instance
abbrev StepsT:=List (Option (List Int))
def stepsD(d:List Int)(S:StepsT):Option StepsT:=
 if d=[] then some S
 else if h:okT d then stepsD (d.drop 65) (S.set (d.getD 0 0).toNat (some (spread zeros64 (d.drop 1) 64))) else none
termination_by d.length
decreasing_by have:=h.1;rw[List.length_drop];omega
def lensN(d:List Int)(k:Nat):List Int:=(List.range k).flatMap fun n=>List.replicate (d.getD (n+1) 0).toNat ((n+1:Nat):Int)
def lensM(d:List Int):List Int:=lensN d 16
open Classical in
noncomputable def codesD(d:List Int)(C:List (Option (List Int×List Int))):Option (List (Option (List Int×List Int))):=
 if d=[] then some C
 else if h:17≤d.length∧d.getD 0 0%16≤3∧d.getD 0 0/16≤1∧(lensM d).length≤256∧17+(lensM d).length≤d.length∧OkC (lensM d) then
  codesD (d.drop (17+(lensM d).length)) (C.set (d.getD 0 0%16+4*(d.getD 0 0/16)).toNat (some (lensM d,(d.drop 17).take (lensM d).length)))
 else none
termination_by d.length
decreasing_by have:=h.1;rw[List.length_drop];omega
structure Jst where
 W:Int
 Ht:Int
 seen:Bool
 half:Bool
 wh:List Nat
 st:StepsT
 cd:List (Option (List Int×List Int))
def jst0:Jst:=⟨0,0,false,false,[0,0,0],List.replicate 4 none,List.replicate 8 none⟩
def partOk(d:List Int)(k:Nat):Prop:=d.getD (6+3*k) 0=(k:Int)+1∧(d.getD (7+3*k) 0=17∨k=0∧d.getD (7+3*k) 0=34)∧d.getD (8+3*k) 0≤3
open Classical in
noncomputable def sizesM(d:List Int)(s:Jst):Option Jst:=
 if s.seen=false∧d.length=15∧d.getD 0 0=8∧d.getD 5 0=3∧(∀k,k<3→partOk d k)∧SizedM (d.getD 3 0*256+d.getD 4 0) (d.getD 1 0*256+d.getD 2 0) then
  some {s with W:=d.getD 3 0*256+d.getD 4 0,Ht:=d.getD 1 0*256+d.getD 2 0,seen:=true,half:=decide (d.getD 7 0=34),wh:=(List.range 3).map fun k=>(d.getD (8+3*k) 0).toNat}
 else none
def scanOk(d:List Int)(s:Jst)(k:Nat):Prop:=
 d.getD (1+2*k) 0=(k:Int)+1∧d.getD (2+2*k) 0/16≤3∧d.getD (2+2*k) 0%16≤3∧(s.st.getD (s.wh.getD k 0) none).isSome∧
  (s.cd.getD (d.getD (2+2*k) 0/16).toNat none).isSome∧(s.cd.getD (4+d.getD (2+2*k) 0%16).toNat none).isSome
open Classical in
noncomputable def scanM(d:List Int)(s:Jst):Option (List (Nat×Nat)):=
 if s.seen=true∧d.length=10∧d.getD 0 0=3∧d.getD 7 0=0∧d.getD 8 0=63∧d.getD 9 0=0∧ ∀k,k<3→scanOk d s k then
  some ((List.range 3).map fun k=>((d.getD (2+2*k) 0/16).toNat,(4+d.getD (2+2*k) 0%16).toNat))
 else none
theorem segM_len{b d r:List Int}(h:segM b=some (d,r)):r.length+2≤b.length:=by
 unfold segM at h
 split at h
 ·cases h
 ·split at h
  ·cases h
  ·rename_i h1 h2
   cases h
   rw[List.length_drop];omega
noncomputable def headM(b:List Int)(s:Jst):Option (Jst×List (Nat×Nat)×List Int):=
 if b.length<2∨b.getD 0 0≠255 then none
 else match hs:segM (b.drop 2) with
  |none=>none
  |some (d,r)=>
   if 224≤b.getD 1 0∧b.getD 1 0≤239∨b.getD 1 0=254 then headM r s
   else if b.getD 1 0=219 then(match stepsD d s.st with
    |none=>none
    |some S=>headM r {s with st:=S})
   else if b.getD 1 0=192 then(match sizesM d s with
    |none=>none
    |some s'=>headM r s')
   else if b.getD 1 0=196 then(match codesD d s.cd with
    |none=>none
    |some C=>headM r {s with cd:=C})
   else if b.getD 1 0=218 then(match scanM d s with
    |none=>none
    |some t=>some (s,t,r))
   else none
termination_by b.length
decreasing_by all_goals (have:=segM_len hs;rw[List.length_drop] at this;omega)
def bodyM:List Int→Option (List Int)
 |c::d::r=>if c≠255 then(bodyM (d::r)).map (c:: ·) else if d≠0 then(if d=217∧r=[] then some [] else none) else(bodyM r).map (255:: ·)
 |_=>none
def byteBits(c:Int):List Int:=(List.range 8).map fun k=>c/2^(7-k)%2
def bitsH(B:List Int):List Int:=B.flatMap byteBits
theorem byteBits_len(c:Int):(byteBits c).length=8:=by simp[byteBits]
theorem bitsH_len: ∀B:List Int,(bitsH B).length=8*B.length
 |[]=>rfl
 |c::B=>by rw[bitsH,List.flatMap_cons,List.length_append,byteBits_len,←bitsH,bitsH_len B,List.length_cons];omega
theorem bitsH_get: ∀{B:List Int} {i:Nat},i<8*B.length→(bitsH B)[i]?=some (bitB true B i)
 |[],i,h=>by simp at h
 |c::B,i,h=>by
  rw[bitsH,List.flatMap_cons,←bitsH]
  rcases Nat.lt_or_ge i 8 with h8|h8
  ·rw[List.getElem?_append_left (by rw[byteBits_len];exact h8)]
   unfold byteBits bitB bpos
   rw[List.getElem?_map,List.getElem?_range h8,if_pos rfl,show i/8=0 by omega,show i%8=i by omega]
   rfl
  ·rw[List.getElem?_append_right (by rw[byteBits_len];exact h8),byteBits_len,bitsH_get (by rw[List.length_cons] at h;omega)]
   unfold bitB bpos
   rw[if_pos rfl,if_pos rfl,show i/8=(i-8)/8+1 by omega,show i%8=(i-8)%8 by omega]
   rfl
theorem bitsH_drop{B:List Int}{i:Nat}(h:i<8*B.length):(bitsH B).drop i=bitB true B i::(bitsH B).drop (i+1):=by
 rw[List.drop_eq_getElem_cons (by rw[bitsH_len];exact h)]
 have:=bitsH_get h
 rw[List.getElem?_eq_getElem (by rw[bitsH_len];exact h)] at this
 rw[Option.some.inj this]
theorem bitsH_end{B:List Int}{i:Nat}(h:8*B.length≤i):(bitsH B).drop i=[]:=List.drop_eq_nil_of_le (by rw[bitsH_len];exact h)
def symB(ls:List Int):Nat→Nat→Int→List Int→Option (Nat×List Int)
 |g+1,n,v,b::L=>match findM ls (n+1) (2*v+b) with
  |some s=>some (s,L)
  |none=>if begM ls (n+1) (2*v+b) then symB ls g (n+1) (2*v+b) L else none
 |_,_,_,_=>none
def symJ(ls:List Int)(L:List Int):Option (Nat×List Int):=symB ls 17 0 0 L
def valB(L:List Int):Int:=L.foldl (fun v b=>2*v+b) 0
def signM(n:Nat)(v:Int):Int:=if 0<n∧v<2^(n-1) then v-2^n+1 else v
def numJ(n:Nat)(L:List Int):Option (Int×List Int):=if L.length<n then none else some (signM n (valB (L.take n)),L.drop n)
def cut16M(v:Int):Int:=min 32767 (max (-32768) v)
abbrev TabJ:=List Int×List Int
def acJ(t:TabJ)(k:Nat)(out L:List Int):Option (List Int×List Int):=
 if k<64 then match symJ t.1 L with
  |none=>none
  |some (s,L1)=>
   if t.2.getD s 0=0 then some (out,L1)
   else if 10<t.2.getD s 0%16∨t.2.getD s 0%16=0∧t.2.getD s 0/16≠15∨63<k+(t.2.getD s 0/16).toNat then none
   else if t.2.getD s 0%16=0 then acJ t (k+(t.2.getD s 0/16).toNat+1) out L1
   else match numJ (t.2.getD s 0%16).toNat L1 with
    |none=>none
    |some (v,L2)=>acJ t (k+(t.2.getD s 0/16).toNat+1) (out.set (zig (k+(t.2.getD s 0/16).toNat)) v) L2
 else some (out,L)
termination_by 64-k
def blockJ(t:TabJ×TabJ)(last:Int)(L:List Int):Option (List Int×List Int):=
 match symJ t.1.1 L with
 |none=>none
 |some (s,L1)=>
  if 11<t.1.2.getD s 0 then none
  else match numJ (t.1.2.getD s 0).toNat L1 with
   |none=>none
   |some (v,L2)=>acJ t.2 1 (zeros64.set 0 (cut16M (last+v))) L2
def blocksJ(T:Nat→TabJ×TabJ):List (Nat×Nat×Nat)→List Int→List Int→Option (List (List Int)×List Int)
 |[],_,L=>some ([],L)
 |p::ps,la,L=>match blockJ (T p.1) (la.getD p.1 0) L with
  |none=>none
  |some (x,L1)=>match blocksJ T ps (la.set p.1 (x.getD 0 0)) L1 with
   |none=>none
   |some (xs,L2)=>some (x::xs,L2)
structure Jim where
 W:Int
 Ht:Int
 half:Bool
 bl:List (List Int)
 st:List (List Int)
def tabsJ(s:Jst)(t:List (Nat×Nat))(k:Nat):TabJ×TabJ:=((s.cd.getD (t.getD k (0,0)).1 none).getD ([],[]),(s.cd.getD (t.getD k (0,0)).2 none).getD ([],[]))
def stepsJ(s:Jst):List (List Int):=(List.range 3).map fun k=>(s.st.getD (s.wh.getD k 0) none).getD []
def bodyJ(s:Jst)(t:List (Nat×Nat))(p:List Int):Option Jim:=
 if 8*p.length<(orderM s.W.toNat s.Ht.toNat s.half).length then none
 else match blocksJ (tabsJ s t) (orderM s.W.toNat s.Ht.toNat s.half) [0,0,0] (bitsH p) with
  |none=>none
  |some (bl,L)=>if 8≤L.length then none else some ⟨s.W,s.Ht,s.half,bl,stepsJ s⟩
noncomputable def decJ(b:List Int):Option Jim:=
 if b.length<2∨b.getD 0 0≠255∨b.getD 1 0≠216 then none
 else match headM (b.drop 2) jst0 with
  |none=>none
  |some (s,t,r)=>match bodyM r with
   |none=>none
   |some p=>bodyJ s t p
end Go.Proofs
namespace Go.Proofs
open Go.Sh
variable {H0 H:Heap} {σ:List Rs} {R:Value→Heap→Prop}
def halfB(f:List Int)(v x:Nat):Int:=sumN 8 fun u=>f.getD (v*8+u) 0*cM u x
def bakV(f:List Int)(y x:Nat):Int:=sumN 8 fun v=>halfB f v x*cM v y
def bakM(f:List Int):List Int:=(List.range 64).map fun i=>nearM (bakV f (i/8) (i%8))
def Mid(f:List Int):Prop:=f.length=64∧ ∀i,-8400000≤f.getD i 0∧f.getD i 0≤8400000
theorem bakM_len(s:List Int):(bakM s).length=64:=tab_len _ _
theorem bterm_bd{s:List Int}(h:Mid s)(j u x:Nat): -34406400000≤s.getD j 0*cM u x∧s.getD j 0*cM u x≤34406400000:=by
 have:=mul_bd (h.2 j) (cM_rng u x);omega
theorem bhalf_part{s:List Int}(h:Mid s)(v x:Nat){n:Nat}(hn:n≤8): -275251200000≤sumN n (fun u=>s.getD (v*8+u) 0*cM u x)∧sumN n (fun u=>s.getD (v*8+u) 0*cM u x)≤275251200000:=by
 have:=sumN_bd (f:=fun u=>s.getD (v*8+u) 0*cM u x) (B:=34406400000) n fun x _=>bterm_bd h _ _ _
 omega
theorem bhalf_bd{s:List Int}(h:Mid s)(v x:Nat): -275251200000≤halfB s v x∧halfB s v x≤275251200000:=bhalf_part h v x (Nat.le_refl 8)
theorem gterm_bd{s:List Int}(h:Mid s)(v x y:Nat): -1127428915200000≤halfB s v x*cM v y∧halfB s v x*cM v y≤1127428915200000:=by
 have:=mul_bd (bhalf_bd h v x) (cM_rng v y);omega
theorem bak_part{s:List Int}(h:Mid s)(y x:Nat){n:Nat}(hn:n≤8): -9019431321600000≤sumN n (fun v=>halfB s v x*cM v y)∧sumN n (fun v=>halfB s v x*cM v y)≤9019431321600000:=by
 have:=sumN_bd (f:=fun v=>halfB s v x*cM v y) (B:=1127428915200000) n fun y _=>gterm_bd h _ _ _
 omega
theorem bak_bd{s:List Int}(h:Mid s)(y x:Nat): -9019431321600000≤bakV s y x∧bakV s y x≤9019431321600000:=bak_part h y x (Nat.le_refl 8)
theorem bakM_rng{s:List Int}(h:Mid s){i:Nat}(hi:i<64): -200000000≤(bakM s).getD i 0∧(bakM s).getD i 0≤200000000:=by
 have:=bak_bd h (i/8) (i%8)
 rw[show(bakM s).getD i 0=nearM (bakV s (i/8) (i%8)) from tab_getD hi]
 unfold nearM;omega
theorem near2{n:Int}(h: -10000000000000000≤n∧n≤10000000000000000)(hR:R (.int .i64 (nearM n)) H):CallsH Tryz.prog 81 #[.int .i64 n] H R:=by
 refine Tryz.s81 ⟨by decide,?_⟩
 rw[wrap_id (by omega) (by omega),shr26]
 exact hR
set_option maxHeartbeats 1000000 in
theorem c76{s:List Int}(h:Mid s)(hR: ∀H',Ext H H'→R (.agg (ints (bakM s)).toArray) H'):CallsH Tryz.prog 76 #[.agg (ints s).toArray] H R:=by
 have hsl:=h.1
 have hcl:=cT_len
 refine Tryz.s76 ?_
 unfold Tryz.S76
 refine(St.nil H).alc fun b2 H1 hs1=>hs1.alc fun b4 H2 hs2=>c80 fun H3 e3=>⟨_,rfl,?_⟩
 refine(hs2.step e3).alc fun b9 H4 hs4=>⟨by rw[intsA_size];exact hcl,hs4.putAllA 0 rfl (by rw[hcl];simp) fun H5 hs5=>hs5.alc fun b12 H6 hs6=>hs6.alc fun b14 H7 hs7=>?_⟩
 simp only[zeroA,List.set_cons_zero] at hs7
 clear hs1 hs2 hs4 hs5 hs6
 intro X hX
 have hl1:=tab_len 64 fun i=>halfB s (i/8) (i%8)
 generalize hL1:(List.range 64).map (fun i=>halfB s (i/8) (i%8))=L1 at hl1
 have hg1: ∀i,i<64→L1.getD i 0=halfB s (i/8) (i%8):=fun i hi=>by rw[←hL1];exact tab_getD hi
 have hlf:=bakM_len s
 have two: ∀H8,St H H8 [.cell b14 (ints (List.replicate 64 0)).toArray 48,.cell b12 (ints L1).toArray 48,.cell b9 (ints cT).toArray 149,.cell b4 (ints (List.replicate 64 0)).toArray 48,.cell b2 (ints s).toArray 48]→X [.int .i64 ((64:Nat):Int)] H8:=fun H8 hs8=>by
  refine hX _ H8 (br_n (by omega) ?_)
  intro Y hY
  have go: ∀i,i≤64→ ∀H9,St H H9 [.cell b14 (ints (fillA (bakM s) i)).toArray 48,.cell b12 (ints L1).toArray 48,.cell b9 (ints cT).toArray 149,.cell b4 (ints (List.replicate 64 0)).toArray 48,.cell b2 (ints s).toArray 48]→Y [.int .i64 (i:Nat)] H9:=upto fun i hi ih H9 hs9=>by
   refine hY _ H9 (br_dec (fun hlt=>?_) (fun hge=>?_))
   ·have hlt:i<64:=by omega
    rw[w1 (by omega)]
    intro Z hZ
    have inner: ∀y,y≤8→Z [.int .i64 (sumN y fun y=>halfB s y (i%8)*cM y (i/8)),.int .i64 (y:Nat)] H9:=upto fun y hy ihy=>by
     refine hZ _ _ H9 (br_dec (fun hlty=>?_) (fun hgey=>?_))
     ·have hlty:y<8:=by omega
      rw[ix2 hlt hlty,ix4 (by omega),w1 (by omega)]
      have v1:L1[y*8+i%8]?=some (halfB s y (i%8)):=by
       rw[getD_some L1 0 (by omega),hg1 _ (by omega),show(y*8+i%8)/8=y from by omega,show(y*8+i%8)%8=i%8 from by omega]
      have v2:cT[y*8+i/8]?=some (cM y (i/8)):=cT_get hlty (by omega)
      refine⟨by decide,by omega,by omega,halfB s y (i%8),?_,by decide,by omega,by omega,by omega,by omega,cM y (i/8),?_,?_⟩
      ·rw[add_none,Nat.zero_add,Int.toNat_natCast,Nat.mul_one];exact hs9.rdA 1 rfl v1
      ·rw[add_none,add_none,Nat.zero_add,Int.toNat_natCast,Int.toNat_natCast,Nat.mul_one];exact hs9.rdA 2 rfl v2
      ·have t1:=gterm_bd h y (i%8) (i/8)
       have t2:=bak_part h (i/8) (i%8) (n:=y) (by omega)
       rw[wrap_id (n:=halfB s y (i%8)*cM y (i/8)) (by omega) (by omega),wrap_id (by omega) (by omega)]
       exact ihy hlty
     ·have:y=8:=by omega
      subst this
      have t2:=bak_bd h (i/8) (i%8)
      unfold bakV at t2
      refine near2 (by omega) ⟨_,rfl,by omega,by omega,?_⟩
      rw[add_none,Nat.zero_add,Int.toNat_natCast,Nat.mul_one]
      refine hs9.putA 0 rfl (by rw[fillA_len (by omega)];omega) fun H10 hs10=>ih hlt H10 ?_
      have e:nearM (sumN 8 fun y=>halfB s y (i%8)*cM y (i/8))=(bakM s).getD i 0:=(tab_getD (f:=fun i=>nearM (bakV s (i/8) (i%8))) hlt).symm
      rw[e,fillA_set (by omega)] at hs10
      exact hs10
    exact inner 0 (by omega)
   ·have:i=64:=by omega
    subst this
    have e:=fillA_all (bakM s)
    rw[hlf] at e
    rw[e] at hs9
    refine⟨_,by rw[intsA_size];exact hlf,rowIn_whole (hs9.block 0 rfl),by rw[intsA_size];exact hlf,?_⟩
    refine hs9.putAllA 3 rfl (by rw[intsA_size,hlf];simp) fun H10 hs10=>?_
    exact⟨_,by rw[intsA_size];exact hlf,rowIn_whole (hs10.block 3 rfl),hR H10 hs10.ext⟩
  exact go 0 (by omega) H8 (by rw[fillA_zero,hlf];exact hs8)
 have go: ∀i,i≤64→ ∀H9,St H H9 [.cell b14 (ints (List.replicate 64 0)).toArray 48,.cell b12 (ints (fillA L1 i)).toArray 48,.cell b9 (ints cT).toArray 149,.cell b4 (ints (List.replicate 64 0)).toArray 48,.cell b2 (ints s).toArray 48]→X [.int .i64 (i:Nat)] H9:=upto fun i hi ih H9 hs9=>by
  by_cases hlt:i<64
  ·refine hX _ H9 (br_y (by omega) ?_)
   rw[w1 (by omega)]
   intro Z hZ
   have inner: ∀x,x≤8→ ∀H10,St H H10 [.cell b14 (ints (List.replicate 64 0)).toArray 48,.cell b12 (ints ((fillA L1 i).set i (sumN x fun x=>s.getD (i/8*8+x) 0*cM x (i%8)))).toArray 48,.cell b9 (ints cT).toArray 149,.cell b4 (ints (List.replicate 64 0)).toArray 48,.cell b2 (ints s).toArray 48]→Z [.int .i64 (x:Nat)] H10:=upto fun x hx ihx H10 hs10=>by
    refine hZ _ H10 (br_dec (fun hltx=>?_) (fun hgex=>?_))
    ·have hltx:x<8:=by omega
     rw[ix1 hlt hltx,ix3,w1 (by omega)]
     have v1:=getD_some s 0 (i:=i/8*8+x) (by omega)
     have v2:cT[x*8+i%8]?=some (cM x (i%8)):=cT_get hltx (by omega)
     have v0:((fillA L1 i).set i (sumN x fun x=>s.getD (i/8*8+x) 0*cM x (i%8)))[i]?=some (sumN x fun x=>s.getD (i/8*8+x) 0*cM x (i%8)):=List.getElem?_set_self (by rw[fillA_len (by omega)];omega)
     refine⟨by omega,by omega,(sumN x fun x=>s.getD (i/8*8+x) 0*cM x (i%8)),?_,by decide,by omega,by omega,s.getD (i/8*8+x) 0,?_,by decide,by omega,by omega,by omega,by omega,cM x (i%8),?_,by omega,by omega,?_⟩
     ·rw[add_none,Nat.zero_add,Int.toNat_natCast,Nat.mul_one];exact hs10.rdA 1 rfl v0
     ·rw[add_none,Nat.zero_add,Int.toNat_natCast,Nat.mul_one];exact hs10.rdA 4 rfl v1
     ·rw[add_none,add_none,Nat.zero_add,Int.toNat_natCast,Int.toNat_natCast,Nat.mul_one];exact hs10.rdA 2 rfl v2
     ·have t1:=bterm_bd h (i/8*8+x) x (i%8)
      have t2:=bhalf_part h (i/8) (i%8) (n:=x) (by omega)
      rw[wrap_id (n:=s.getD (i/8*8+x) 0*cM x (i%8)) (by omega) (by omega),wrap_id (by omega) (by omega),add_none,Nat.zero_add,Int.toNat_natCast,Nat.mul_one]
      refine hs10.putA 1 rfl (by rw[List.length_set,fillA_len (by omega)];omega) fun H11 hs11=>ihx hltx H11 ?_
      simp only[List.set_set,List.set_cons_succ,List.set_cons_zero] at hs11
      exact hs11
    ·have:x=8:=by omega
     subst this
     refine ih hlt H10 ?_
     have e:(sumN 8 fun x=>s.getD (i/8*8+x) 0*cM x (i%8))=L1.getD i 0:=by rw[hg1 i hlt];rfl
     rw[e,fillA_set (by omega)] at hs10
     exact hs10
   refine inner 0 (by omega) H9 ?_
   rw[sumN,fillA_set0 (by omega)];exact hs9
  ·have:i=64:=by omega
   subst this
   have e:=fillA_all L1
   rw[hl1] at e
   rw[e] at hs9
   exact two H9 hs9
 exact go 0 (by omega) H7 (by rw[fillA_zero,hl1];exact hs7)
theorem down26b{n:Int}(h: -10000000000000000≤n∧n≤10000000000000000)(hR:R (.int .i64 (n/67108864)) H):CallsH Tryz.prog 57 #[.int .i64 n,.int .i64 (67108864:Int)] H R:=by
 have hb:=tmod_bd n 67108864 (by decide)
 have hd:=tdiv_down26 (n:=n)
 refine Tryz.s57 ⟨by decide,?_⟩
 intro J hJ
 refine br_dec (fun hlt=>hJ _ H ⟨by decide,?_⟩) (fun hge=>hJ _ H ⟨by decide,?_⟩)
 ·rw[if_pos hlt] at hd
  rw[wrap_id (n:=Int.tmod n 67108864+67108864) (by omega) (by omega),wrap_id (n:=n-_) (by omega) (by omega),hd,wrap_id (by omega) (by omega)]
  exact hR
 ·rw[if_neg hge] at hd
  rw[wrap_id (n:=n-_) (by omega) (by omega),hd,wrap_id (by omega) (by omega)]
  exact hR
theorem bref_term{s:List Int}(h:Mid s)(x y i:Nat):(-34406400000≤s.getD i 0*cM (i%8) x∧s.getD i 0*cM (i%8) x≤34406400000)∧ -140928614400000≤s.getD i 0*cM (i%8) x*cM (i/8) y∧s.getD i 0*cM (i%8) x*cM (i/8) y≤140928614400000:=by
 have h1:=bterm_bd h i (i%8) x
 have h2:=mul_bd h1 (cM_rng (i/8) y)
 exact⟨h1,by omega⟩
theorem bref_sum(s:List Int)(x y:Nat):sumN 64 (fun i=>s.getD i 0*cM (i%8) x*cM (i/8) y)=bakV s y x:=by
 rw[show(64:Nat)=8*8 from rfl,sumN_rows]
 unfold bakV halfB
 refine sumN_congr fun v hv=>?_
 rw[sumN_mul]
 refine sumN_congr fun u hu=>?_
 rw[show(8*v+u)%8=u from by omega,show(8*v+u)/8=v from by omega,Nat.mul_comm 8 v]
set_option maxHeartbeats 1000000 in
theorem c66{s:List Int}(h:Mid s)(hR: ∀H',Ext H H'→R (.agg (ints (bakM s)).toArray) H'):CallsH Tryz.prog 66 #[.agg (ints s).toArray] H R:=by
 have hsl:=h.1
 have hcl:=cT_len
 have hlf:=bakM_len s
 refine Tryz.s66 ?_
 unfold Tryz.S66
 refine(St.nil H).alc fun b2 H1 hs1=>hs1.alc fun b4 H2 hs2=>c56 fun H3 e3=>⟨_,rfl,?_⟩
 refine(hs2.step e3).alc fun b9 H4 hs4=>⟨by rw[intsA_size];exact hcl,hs4.putAllA 0 rfl (by rw[hcl];simp) fun H5 hs5=>hs5.alc fun b12 H6 hs6=>?_⟩
 simp only[zeroA,List.set_cons_zero] at hs6
 clear hs1 hs2 hs4 hs5
 intro X hX
 have outer: ∀v,v≤8→ ∀H7,St H H7 [.cell b12 (ints (fillA (bakM s) (8*v))).toArray 48,.cell b9 (ints cT).toArray 48,.cell b4 (ints (List.replicate 64 0)).toArray 48,.cell b2 (ints s).toArray 48]→X [.int .i64 (v:Nat)] H7:=upto fun v hv ihv H7 hs7=>by
  refine hX _ H7 (br_dec (fun hlt=>?_) (fun hge=>?_))
  ·have hltv:v<8:=by omega
   rw[w1 (by omega)]
   intro Y hY
   have mid: ∀u,u≤8→ ∀H8,St H H8 [.cell b12 (ints (fillA (bakM s) (8*v+u))).toArray 48,.cell b9 (ints cT).toArray 48,.cell b4 (ints (List.replicate 64 0)).toArray 48,.cell b2 (ints s).toArray 48]→Y [.int .i64 (u:Nat)] H8:=upto fun u hu ihu H8 hs8=>by
    refine hY _ H8 (br_dec (fun hlt=>?_) (fun hge=>?_))
    ·have hltu:u<8:=by omega
     rw[w1 (i:=u) (by omega)]
     intro Z hZ
     have w8u: ∀i:Nat,i<64→IntKind.wrap .i64 (IntKind.wrap .i64 ((8:Int)*((i%8:Nat):Int))+(u:Nat))=(((i%8)*8+u:Nat):Int):=fun i hi=>by rw[wrap_id (n:=(8:Int)*((i%8:Nat):Int)) (by omega) (by omega),wrap_id (by omega) (by omega)];omega
     have w8i: ∀i:Nat,i<64→IntKind.wrap .i64 (IntKind.wrap .i64 ((8:Int)*((i/8:Nat):Int))+(v:Nat))=(((i/8)*8+v:Nat):Int):=fun i hi=>by rw[wrap_id (n:=(8:Int)*((i/8:Nat):Int)) (by omega) (by omega),wrap_id (by omega) (by omega)];omega
     have w8v:IntKind.wrap .i64 ((8:Int)*(v:Nat))=((8*v:Nat):Int):=by rw[wrap_id (by omega) (by omega)];omega
     have inner: ∀i,i≤64→Z [.int .i64 (33554432+sumN i fun i=>s.getD i 0*cM (i%8) u*cM (i/8) v),.int .i64 (i:Nat)] H8:=upto fun i hi ihi=>by
      refine hZ _ _ H8 (br_dec (fun hlt=>?_) (fun hge=>?_))
      ·have hlt:i<64:=by omega
       rw[ix3,ix4 (by omega),w1 (by omega),w8u i hlt,w8i i hlt]
       have v1:=getD_some s 0 (i:=i) (by omega)
       have v2:cT[(i%8)*8+u]?=some (cM (i%8) u):=cT_get (by omega) hltu
       have v3:cT[(i/8)*8+v]?=some (cM (i/8) v):=cT_get (by omega) hltv
       refine⟨by omega,by omega,s.getD i 0,?_,by decide,by omega,by omega,cM (i%8) u,?_,by decide,by omega,by omega,cM (i/8) v,?_,?_⟩
       ·rw[add_none,Nat.zero_add,Int.toNat_natCast,Nat.mul_one];exact hs8.rdA 3 rfl v1
       ·rw[add_none,Nat.zero_add,Int.toNat_natCast,Nat.mul_one];exact hs8.rdA 1 rfl v2
       ·rw[add_none,Nat.zero_add,Int.toNat_natCast,Nat.mul_one];exact hs8.rdA 1 rfl v3
       ·obtain⟨t1,t2⟩:=bref_term h u v i
        have t3:=sumN_bd (f:=fun i=>s.getD i 0*cM (i%8) u*cM (i/8) v) (B:=140928614400000) i fun j _=>(bref_term h u v j).2
        rw[wrap_id (n:=s.getD i 0*cM (i%8) u) (by omega) (by omega),wrap_id (n:=s.getD i 0*cM (i%8) u*cM (i/8) v) (by omega) (by omega),wrap_id (by omega) (by omega),Int.add_assoc]
        exact ihi hlt
      ·have:i=64:=by omega
       subst this
       rw[bref_sum]
       have t:=bak_bd h v u
       refine down26b (by omega) ⟨_,rfl,?_⟩
       rw[w8v,wrap_id (by omega) (by omega),show((8*v:Nat):Int)+(u:Nat)=((8*v+u:Nat):Int) from by omega]
       refine⟨by omega,by omega,?_⟩
       rw[add_none,Nat.zero_add,Int.toNat_natCast,Nat.mul_one]
       refine hs8.putA 0 rfl (by rw[fillA_len (by omega)];omega) fun H9 hs9=>ihu hltu H9 ?_
       have e:(33554432+bakV s v u)/67108864=(bakM s).getD (8*v+u) 0:=by
        rw[show(bakM s).getD (8*v+u) 0=nearM (bakV s ((8*v+u)/8) ((8*v+u)%8)) from tab_getD (by omega),show(8*v+u)/8=v from by omega,show(8*v+u)%8=u from by omega]
        unfold nearM;rw[Int.add_comm]
       rw[e,fillA_set (by omega)] at hs9
       exact hs9
     have:=inner 0 (by omega)
     rw[sumN,Int.add_zero] at this
     exact this
    ·have:u=8:=by omega
     subst this
     exact ihv hltv H8 hs8
   exact mid 0 (by omega) H7 hs7
  ·have:v=8:=by omega
   subst this
   have e:=fillA_all (bakM s)
   rw[hlf] at e
   rw[e] at hs7
   refine⟨_,by rw[intsA_size];exact hlf,rowIn_whole (hs7.block 0 rfl),by rw[intsA_size];exact hlf,?_⟩
   refine hs7.putAllA 2 rfl (by rw[intsA_size,hlf];simp) fun H10 hs10=>?_
   exact⟨_,by rw[intsA_size];exact hlf,rowIn_whole (hs10.block 2 rfl),hR H10 hs10.ext⟩
 exact outer 0 (by omega) H6 (by rw[Nat.mul_zero,fillA_zero,hlf];exact hs6)
def colourM(y b r:Int)(k:Nat):Int:=match k with
 |0=>cutM (y+(91881*(r-128)+32768)/65536)
 |1=>cutM (y-(22554*(b-128)+46802*(r-128)+32768)/65536)
 |_=>cutM (y+(116130*(b-128)+32768)/65536)
def colourL(y b r:Int):List Int:=[colourM y b r 0,colourM y b r 1,colourM y b r 2]
theorem c77{y b r:Int}(hy:0≤y∧y<256)(hb:0≤b∧b<256)(hr:0≤r∧r<256)(hR: ∀H',Ext H H'→R (.agg (ints (colourL y b r)).toArray) H'):
 CallsH Tryz.prog 77 #[.agg #[.int .i64 y,.int .i64 b,.int .i64 r]] H R:=by
 refine Tryz.s77 ?_
 unfold Tryz.S77
 refine(St.nil H).alc fun b2 H1 hs1=>hs1.alc fun b4 H2 hs2=>?_
 refine⟨by decide,by decide,y,hs2.get 1 rfl rfl,by decide,by decide,b,hs2.get 1 (j:=1) rfl rfl,by decide,by decide,r,hs2.get 1 (j:=2) rfl rfl,by decide,?_⟩
 rw[wrap_id (n:=r-128) (by omega) (by omega),wrap_id (n:=b-128) (by omega) (by omega),wrap_id (n:=91881*(r-128)) (by omega) (by omega),wrap_id (n:=91881*(r-128)+32768) (by omega) (by omega),shr16,wrap_id (n:=y+(91881*(r-128)+32768)/65536) (by omega) (by omega)]
 refine c102 ⟨_,rfl,by decide,?_⟩
 rw[wrap_id (n:=22554*(b-128)) (by omega) (by omega),wrap_id (n:=46802*(r-128)) (by omega) (by omega),wrap_id (n:=22554*(b-128)+46802*(r-128)) (by omega) (by omega),wrap_id (n:=22554*(b-128)+46802*(r-128)+32768) (by omega) (by omega),shr16,wrap_id (n:=y-(22554*(b-128)+46802*(r-128)+32768)/65536) (by omega) (by omega)]
 refine c102 ⟨_,rfl,by decide,?_⟩
 rw[wrap_id (n:=116130*(b-128)) (by omega) (by omega),wrap_id (n:=116130*(b-128)+32768) (by omega) (by omega),shr16,wrap_id (n:=y+(116130*(b-128)+32768)/65536) (by omega) (by omega)]
 refine c102 ⟨_,rfl,rfl,?_⟩
 refine hs2.putAllA 0 (l:=colourL y b r) rfl rfl fun H3 hs3=>?_
 exact⟨_,rfl,rowIn_whole (hs3.block 0 rfl),hR H3 hs3.ext⟩
theorem c67{y b r:Int}(hy:0≤y∧y<256)(hb:0≤b∧b<256)(hr:0≤r∧r<256)(hR: ∀H',Ext H H'→R (.agg (ints (colourL y b r)).toArray) H'):
 CallsH Tryz.prog 67 #[.int .i64 y,.int .i64 b,.int .i64 r] H R:=by
 refine Tryz.s67 ?_
 unfold Tryz.S67
 refine(St.nil H).alc fun b4 H2 hs2=>?_
 rw[wrap_id (n:=r-128) (by omega) (by omega),wrap_id (n:=b-128) (by omega) (by omega),wrap_id (n:=91881*(r-128)) (by omega) (by omega)]
 refine c98 (by omega) ⟨_,rfl,?_⟩
 rw[wrap_id (n:=y+(91881*(r-128)+32768)/65536) (by omega) (by omega)]
 refine c97 ⟨_,rfl,?_⟩
 rw[wrap_id (n:=22554*(b-128)) (by omega) (by omega),wrap_id (n:=46802*(r-128)) (by omega) (by omega),wrap_id (n:=22554*(b-128)+46802*(r-128)) (by omega) (by omega)]
 refine c98 (by omega) ⟨_,rfl,?_⟩
 rw[wrap_id (n:=y-(22554*(b-128)+46802*(r-128)+32768)/65536) (by omega) (by omega)]
 refine c97 ⟨_,rfl,?_⟩
 rw[wrap_id (n:=116130*(b-128)) (by omega) (by omega)]
 refine c98 (by omega) ⟨_,rfl,?_⟩
 rw[wrap_id (n:=y+(116130*(b-128)+32768)/65536) (by omega) (by omega)]
 refine c97 ⟨_,rfl,rfl,?_⟩
 refine hs2.putAllA 0 (l:=colourL y b r) rfl rfl fun H3 hs3=>?_
 exact⟨_,rfl,rowIn_whole (hs3.block 0 rfl),hR H3 hs3.ext⟩
end Go.Proofs
namespace Go.Proofs
open Go.Sh
def Has(B:List Int)(a:Nat)(ws:List Int):Prop:=a+ws.length≤8*B.length∧ ∀i:Nat,i<ws.length→bitB false B (a+i)=ws.getD i 0
theorem Has.of{ws B:List Int}(h:WOk false ws B):Has B 0 ws:=⟨by have:=h.len;omega,fun i hi=>by rw[Nat.zero_add];exact h.bit i⟩
theorem Has.app{B x y:List Int}{a:Nat}(h:Has B a (x++y)):Has B a x∧Has B (a+x.length) y:=by
 obtain⟨h1,h2⟩:=h
 rw[List.length_append] at h1
 refine⟨⟨by omega,fun i hi=>?_⟩,⟨by omega,fun i hi=>?_⟩⟩
 ·rw[h2 i (by rw[List.length_append];omega),gD_left _ _ _ _ hi]
 ·rw[Nat.add_assoc,h2 (x.length+i) (by rw[List.length_append];omega),gD_right _ _ _ _ (by omega),Nat.add_sub_cancel_left]
theorem bitsOf_get{hi:Bool}{v:Int}{n k:Nat}(hk:k<n):(bitsOf hi v n).getD k 0=v/2^(if hi then n-1-k else k)%2:=by
 apply gD_get
 simp[bitsOf,hk]
end Go.Proofs
namespace Go.Proofs
open Go.Sh
theorem wdiv8(n:Nat)(h:n≤1000000000000):IntKind.wrap .i64 (Int.tdiv (n:Int) (8:Int))=((n/8:Nat):Int):=by
 rw[Int.tdiv_eq_ediv_of_nonneg (by omega),wrap_id (by omega) (by omega)];omega
theorem tmod8(n:Nat):Int.tmod (n:Int) (8:Int)=((n%8:Nat):Int):=by rw[Int.tmod_eq_emod_of_nonneg (by omega)];omega
theorem c90{H:Heap}{n:Nat}{hi:Bool}{R:Value→Heap→Prop}(hR:R (.int .i64 (bpos hi n)) H):CallsH Tryz.prog 90 #[.int .i64 n,.bool hi] H R:=by
 refine Tryz.s90 ?_
 unfold Tryz.S90
 rw[tmod8]
 unfold bpos at hR
 refine br_i (fun h=>⟨by decide,?_⟩) (fun h=>⟨by decide,?_⟩)
 ·subst h
  rw[if_pos rfl] at hR
  rw[wrap_id (by omega) (by omega),show((7:Int)-((n%8:Nat):Int))=((7-n%8:Nat):Int) from by omega]
  exact hR
 ·subst h
  rw[if_neg (by decide)] at hR
  exact hR
def wrR(b:Nat)(hi:Bool)(ws:List Int):Rs:=
 .ex fun(x:Option Addr×Nat×Nat×List Int)=> .pu (WOk hi ws x.2.2.2∧ws.length≤1000000000) (.star (.cell b #[.slice x.1 x.2.1 x.2.2.1,.int .i64 ws.length,.bool hi] 131) (.sl x.1 x.2.1 x.2.2.1 5 1 (kints .u8 x.2.2.2)))
variable {H0 H:Heap} {σ:List Rs} {R:Value→Heap→Prop}
theorem wrR_mk{b:Nat}{hi:Bool}{ws:List Int}{p:Option Addr}{l c:Nat}{B:List Int}(ok:WOk hi ws B)(hl:ws.length≤1000000000)(hs:St H0 H (.cell b #[.slice p l c,.int .i64 ws.length,.bool hi] 131:: .sl p l c 5 1 (kints .u8 B)::σ)):St H0 H (wrR b hi ws::σ):=
 St.inex (f:=fun(x:Option Addr×Nat×Nat×List Int)=> .pu (WOk hi ws x.2.2.2∧ws.length≤1000000000) (.star (.cell b #[.slice x.1 x.2.1 x.2.2.1,.int .i64 ws.length,.bool hi] 131) (.sl x.1 x.2.1 x.2.2.1 5 1 (kints .u8 x.2.2.2)))) (p,l,c,B) (St.with ⟨ok,hl⟩ hs.cat)
theorem wrR_op{b:Nat}{hi:Bool}{ws:List Int}(hs:St H0 H (wrR b hi ws::σ)): ∃p l c B,WOk hi ws B∧ws.length≤1000000000∧l=B.length∧St H0 H (.cell b #[.slice p l c,.int .i64 ws.length,.bool hi] 131:: .sl p l c 5 1 (kints .u8 B)::σ):=by
 obtain⟨⟨p,l,c,B⟩,hs⟩:=hs.unex
 obtain⟨⟨ok,hl⟩,hs⟩:=hs.fact
 have:=(hs.cut.is 1 rfl).length
 exact⟨p,l,c,B,ok,hl,this.symm,hs.cut⟩
theorem c20(hs:St H0 H σ){hi:Bool}(hR: ∀b H',St H0 H' (wrR b hi []::σ)→R (.pointer (some ⟨b,0,none⟩)) H'):CallsH Tryz.prog 20 #[.bool hi] H R:=by
 refine Tryz.s20 ?_
 unfold Tryz.S20
 exact hs.alc fun b H' hs=>hR b H' (wrR_mk (WOk.nil hi) (by simp) ((hs.nilSl 5 1).swap))
theorem c53(hs:St H0 H σ){i b:Nat}{hi:Bool}{ws:List Int}(hi':σ[i]?=some (wrR b hi ws))(hl:ws.length<1000000000){v:Int}
 (hR: ∀H',St H0 H' (σ.set i (wrR b hi (ws++[v%2])))→R (.tuple #[]) H'):CallsH Tryz.prog 53 #[.pointer (some ⟨b,0,none⟩),.int .i64 v] H R:=by
 obtain⟨p,l,c,B,ok,_,hlB,hs⟩:=wrR_op (hs.front i hi')
 refine Tryz.s53 ?_
 unfold Tryz.S53
 intro J hJ
 have hB:=ok.len
 have fin: ∀H' p l c C,C=(if ws.length%8=0 then B++[0] else B)→St H0 H' (.cell b #[.slice p l c,.int .i64 ws.length,.bool hi] 131:: .sl p l c 5 1 (kints .u8 C)::σ.eraseIdx i)→J [] H':=by
  intro H' p l c C hC hs
  obtain⟨x,hx,x0,x1,ok'⟩:=ok.put (b:=v%2) (by omega) hC
  have hCl:=(List.getElem?_eq_some_iff.1 hx).1
  have hlC:=(hs.is 1 rfl).length
  obtain⟨blk,hp⟩:=hs.slSome 1 rfl (j:=ws.length/8) (by rw[kints_len];exact hCl)
  subst hp
  refine hJ H' ⟨_,rfl,_,l,c,hs.get 0 rfl rfl,_,rfl,ws.length,hs.get 0 (j:=1) rfl rfl,by decide,?_⟩
  rw[wdiv8 _ (by omega),Int.toNat_natCast]
  have hg:=(hs.is 1 rfl).rd (i:=((ws.length/8:Nat):Int)) (by omega) (by omega) (by rw[Int.toNat_natCast];exact hx) (K:=fun y=>y=x) rfl
  rw[Int.toNat_natCast] at hg
  obtain⟨a,ha,g0,g1,y,g2,rfl⟩:=hg
  cases ha
  refine⟨_,rfl,by omega,by omega,y,g2,_,rfl,ws.length,hs.get 0 (j:=1) rfl rfl,_,rfl,hi,hs.get 0 (j:=2) rfl rfl,c90 ⟨_,rfl,.inl (Ext.refl _),by omega,_,rfl,by omega,by omega,?_⟩⟩
  rw[andI_1,add_none,Nat.zero_add,Nat.mul_one]
  refine hs.slPut 1 rfl (by rw[kints_len];exact hCl) rfl fun H2 hs=>⟨_,rfl,ws.length,hs.get 0 (j:=1) rfl rfl,_,rfl,?_⟩
  rw[add_none,Nat.zero_add,wrap_id (by omega) (by omega)]
  refine hs.put 0 rfl (by simp) rfl fun H3 hs=>hR H3 (St.back hi' (wrR_mk (p:=some ⟨blk,0,none⟩) (l:=l) (c:=c) ok' (by simp;omega) ?_))
  rw[wrap_u8 (by omega) (by omega),List.set_cons_succ,List.set_cons_zero,kints_set] at hs
  have e:(#[Value.slice (some ⟨blk,0,none⟩) l c,.int .i64 (ws.length:Int),.bool hi]:Array Value).setIfInBounds 1 (.int .i64 ((ws.length:Int)+1))=#[Value.slice (some ⟨blk,0,none⟩) l c,.int .i64 (((ws++[v%2]).length:Nat):Int),.bool hi]:=by simp
  rw[List.set_cons_zero,e] at hs
  exact hs
 refine⟨_,rfl,ws.length,hs.get 0 (j:=1) rfl rfl,by decide,?_⟩
 rw[tmod8]
 refine br_eq (fun h8=>?_) (fun h8=>fin H p l c B (by rw[if_neg (by omega)]) hs)
 refine⟨_,rfl,p,l,c,hs.get 0 rfl rfl,hs.alc fun b2 H2 hs=>?_⟩
 refine hs.appC 2 0 (el:=5) (k:=1) rfl rfl rfl (one1 rfl) (by decide) rfl (by omega) (by omega) fun p' c' H3 hs=>⟨_,rfl,?_⟩
 refine hs.put 1 rfl (by simp) rfl fun H4 hs=>?_
 exact fin H4 p' (l+1) c' (B++[0]) (by rw[if_pos (by omega)]) (by rw[kints_append];exact hs.tail)
theorem setset(σ:List Rs)(i:Nat)(r s:Rs):(σ.set i r).set i s=σ.set i s:=List.set_set _
theorem setget{σ:List Rs}{i:Nat}{r:Rs}(h:σ[i]?=some r)(s:Rs):(σ.set i s)[i]?=some s:=List.getElem?_set_self (List.getElem?_eq_some_iff.1 h).1
theorem wrR_len(hs:St H0 H σ){i b:Nat}{hi:Bool}{ws:List Int}(hi':σ[i]?=some (wrR b hi ws)):ws.length≤1000000000:=by
 obtain⟨_,_,_,_,_,h,_⟩:=wrR_op (hs.front i hi');exact h
theorem c21(hs:St H0 H σ){i b:Nat}{hi:Bool}{ws:List Int}(hi':σ[i]?=some (wrR b hi ws)){v n:Int}(hl:ws.length+n.toNat≤1000000000)
 (hbad: ¬(0≤n∧n≤24∧0≤v∧v<2^n.toNat)→R (.bool false) H)
 (hR:(0≤n∧n≤24∧0≤v∧v<2^n.toNat)→ ∀H',St H0 H' (σ.set i (wrR b hi (ws++bitsOf hi v n.toNat)))→R (.bool true) H'):CallsH Tryz.prog 21 #[.pointer (some ⟨b,0,none⟩),.int .i64 v,.int .i64 n] H R:=by
 refine Tryz.s21 ?_
 unfold Tryz.S21
 intro J hJ
 refine br_dec (fun h=>hbad (by omega)) (fun n0=>br_dec (fun h=>hbad (by omega)) (fun n1=>br_dec (fun h=>hbad (by omega)) (fun v0=>⟨by omega,?_⟩)))
 obtain⟨m,rfl⟩:=Int.eq_ofNat_of_zero_le (show 0≤n by omega)
 rw[Int.toNat_natCast] at*
 have hp:(2:Int)^m≤2^24:=pow_le (by omega)
 have e24:(2:Int)^24=16777216:=by decide
 rw[shl_of (by omega) (by omega) (by omega),Int.one_mul]
 refine br_dec (fun h=>hbad (by omega)) (fun v1=>hJ H ?_)
 have hR:=hR ⟨by omega,by omega,by omega,by omega⟩
 intro X hX
 have go: ∀k,k≤m→ ∀H',St H0 H' (σ.set i (wrR b hi (ws++(bitsOf hi v m).take k)))→X [.int .i64 k] H':=upto fun k hk ih H' hs=>by
  refine hX _ H' (br_dec (fun hlt=>?_) (fun hge=>?_))
  ·have hlt:k<m:=by omega
   intro J2 hJ2
   have hwl:=wrR_len hs (setget hi' _)
   rw[List.length_append,List.length_take,bitsOf_len] at hwl
   have nx: ∀j:Nat,j=(if hi then m-1-k else k)→J2 [.int .i64 j] H':=fun j hj=>by
    refine hJ2 _ H' ⟨by omega,?_⟩
    have hj62:j≤62:=by rw[hj];split<;>omega
    rw[shr_of _ hj62]
    refine c53 hs (setget hi' _) (by rw[List.length_append,List.length_take,bitsOf_len];omega) fun H2 hs=>⟨rfl,?_⟩
    rw[wrap_id (by omega) (by omega)]
    refine ih hlt H2 ?_
    rw[setset] at hs
    have:(bitsOf hi v m).take (k+1)=(bitsOf hi v m).take k++[v/2^j%2]:=by
     rw[List.take_add_one]
     congr 1
     simp[bitsOf,hlt,hj]
    rw[this,←List.append_assoc];exact hs
   obtain⟨p,l,c,B,_,_,_,hs2⟩:=wrR_op (hs.front i (setget hi' _))
   refine⟨_,rfl,hi,hs2.get 0 (j:=2) rfl rfl,br_i (fun hh=>?_) (fun hh=>?_)⟩
   ·rw[wrap_id (n:=(m:Int)-1) (by omega) (by omega),wrap_id (n:=(m:Int)-1-k) (by omega) (by omega)]
    have:=nx (m-1-k) (by rw[if_pos hh])
    rw[show((m-1-k:Nat):Int)=(m:Int)-1-k from by omega] at this
    exact this
   ·exact nx k (by rw[if_neg (by rw[hh];decide)])
  ·have:k=m:=by omega
   subst this
   refine hR H' ?_
   rw[List.take_of_length_le (by rw[bitsOf_len];omega)] at hs
   exact hs
 refine go 0 (by omega) H ?_
 rw[List.take_zero,List.append_nil]
 obtain⟨h1,h2⟩:=List.getElem?_eq_some_iff.1 hi'
 rw[←h2,List.set_getElem_self];exact hs
end Go.Proofs
namespace Go.Proofs
open Go.Sh
variable {H0 H:Heap} {σ:List Rs} {R:Value→Heap→Prop}
theorem clone_of{ty:TypeId}{bytes:Nat}{zero:Array Value}{p:Option Addr}{l:Nat}{k:IntKind}{xs:List Int}(h:IS H p l (kints k xs))(hl:l*bytes≤70368744177664)(hm:l≤1000000000000)(hz:zero.size=1)
 (hR: ∀q m H',St H H' [.sl q l m ty 1 (kints k xs)]→R (.slice q l m) H'):
 br (Option.isNone p) (R (.slice none 0 0) H) (alc H (.cells #[] ty) fun b H1=>appQ 1 bytes zero H1 (some ⟨b,0,none⟩) 0 0 p l ty fun ap al ac H2=>R (.slice ap al ac) H2):=by
 have hs:=St.nil H
 refine br_none (fun hp=>?_) (fun a hp=>?_)
 ·subst hp
  have hx:xs=[]:=List.eq_nil_iff_forall_not_mem.2 fun v hv=>by
   obtain⟨i,hi⟩:=List.getElem?_of_mem hv
   obtain⟨a,h1,_⟩:=h.get i _ (kints_get hi)
   cases h1
  have hl0:l=0:=by have:=h.length;rw[hx] at this;exact this.symm
  subst hx hl0
  exact hR none 0 H (hs.nilSl ty 1)
 ·refine hs.alc fun b H1 hs=>?_
  have hs:St H H1 [.sl (some ⟨b,0,none⟩) 0 0 ty 1 []]:=hs.toSl 0 rfl rfl rfl (by simp)
  refine hs.appI 0 rfl (h.ext hs.ext) (kints_one k xs) hz (by rw[Nat.zero_add];exact hl) (by omega) fun p' c' H2 hs=>?_
  rw[Nat.zero_add] at hs ⊢
  exact hR p' c' H2 hs
theorem c54{p:Option Addr}{l c:Nat}{xs:List Int}(h:IS H p l (kints .u8 xs))(hl:l≤1000000000000)
 (hR: ∀q m H',St H H' [.sl q l m 5 1 (kints .u8 xs)]→R (.slice q l m) H'):CallsH Tryz.prog 54 #[.slice p l c] H R:=
 Tryz.s54 (clone_of h (by omega) (by omega) rfl hR)
def fillM(ws:List Int)(v:Int):List Int:=ws++List.replicate ((8-ws.length%8)%8) (v%2)
theorem c22(hs:St H0 H σ){i b:Nat}{hi:Bool}{ws:List Int}(hi':σ[i]?=some (wrR b hi ws))(hl:ws.length<999999990){v:Int}
 (hR: ∀H',St H0 H' (σ.set i (wrR b hi (fillM ws v)))→R (.tuple #[]) H'):CallsH Tryz.prog 22 #[.pointer (some ⟨b,0,none⟩),.int .i64 v] H R:=by
 refine Tryz.s22 ?_
 unfold Tryz.S22
 intro X hX
 have go: ∀k,k≤(8-ws.length%8)%8→ ∀H',St H0 H' (σ.set i (wrR b hi (ws++List.replicate k (v%2))))→X [] H':=upto fun k hk ih H' hs=>by
  obtain⟨p,l,c,B,_,_,_,hs2⟩:=wrR_op (hs.front i (setget hi' _))
  refine hX H' ⟨_,rfl,_,hs2.get 0 (j:=1) rfl rfl,by decide,?_⟩
  rw[tmod8,List.length_append,List.length_replicate]
  refine br_ne (fun hne=>?_) (fun he=>?_)
  ·refine c53 hs (setget hi' _) (by rw[List.length_append,List.length_replicate];omega) fun H2 hs=>⟨rfl,ih (by omega) H2 ?_⟩
   rw[setset] at hs
   rw[List.replicate_succ',←List.append_assoc];exact hs
  ·have:k=(8-ws.length%8)%8:=by omega
   subst this
   exact hR H' hs
 refine go 0 (by omega) H ?_
 rw[List.replicate_zero,List.append_nil]
 obtain⟨h1,h2⟩:=List.getElem?_eq_some_iff.1 hi'
 rw[←h2,List.set_getElem_self];exact hs
theorem c23(hs:St H0 H σ){i b:Nat}{hi:Bool}{ws:List Int}(hi':σ[i]?=some (wrR b hi ws))
 (hR: ∀q l m B H',WOk hi ws B→l=B.length→St H0 H' (.sl q l m 5 1 (kints .u8 B)::σ)→R (.slice q l m) H'):CallsH Tryz.prog 23 #[.pointer (some ⟨b,0,none⟩)] H R:=by
 obtain⟨p,l,c,B,ok,hw,hl,hs2⟩:=wrR_op (hs.front i hi')
 have:=ok.len
 refine Tryz.s23 ⟨_,rfl,_,_,_,hs2.get 0 rfl rfl,c54 (hs2.is 1 rfl) (by omega) fun q m H' hs'=>⟨_,_,_,rfl,hR q l m B H' ok hl (hs.call hs')⟩⟩
def rdR(b:Nat)(B:List Int)(at_:Nat)(hi:Bool):Rs:=
 .ex fun(x:Option Addr×Nat)=> .pu (at_≤8*B.length∧B.length≤1000000000∧ ∀x∈B,0≤x∧x<256) (.star (.cell b #[.slice x.1 B.length x.2,.int .i64 at_,.bool hi] 143) (.sl x.1 B.length x.2 5 1 (kints .u8 B)))
theorem rdR_mk{b at_ c:Nat}{B:List Int}{hi:Bool}{p:Option Addr}(h1:at_≤8*B.length)(h2:B.length≤1000000000)(h3: ∀x∈B,0≤x∧x<256)
 (hs:St H0 H (.cell b #[.slice p B.length c,.int .i64 at_,.bool hi] 143:: .sl p B.length c 5 1 (kints .u8 B)::σ)):St H0 H (rdR b B at_ hi::σ):=
 St.inex (f:=fun(x:Option Addr×Nat)=> .pu (at_≤8*B.length∧B.length≤1000000000∧ ∀x∈B,0≤x∧x<256) (.star (.cell b #[.slice x.1 B.length x.2,.int .i64 at_,.bool hi] 143) (.sl x.1 B.length x.2 5 1 (kints .u8 B)))) (p,c) (St.with ⟨h1,h2,h3⟩ hs.cat)
theorem rdR_op{b at_:Nat}{B:List Int}{hi:Bool}(hs:St H0 H (rdR b B at_ hi::σ)): ∃p c,at_≤8*B.length∧B.length≤1000000000∧(∀x∈B,0≤x∧x<256)∧
 St H0 H (.cell b #[.slice p B.length c,.int .i64 at_,.bool hi] 143:: .sl p B.length c 5 1 (kints .u8 B)::σ):=by
 obtain⟨⟨p,c⟩,hs⟩:=hs.unex
 obtain⟨⟨h1,h2,h3⟩,hs⟩:=hs.fact
 exact⟨p,c,h1,h2,h3,hs.cut⟩
theorem c36{p:Option Addr}{l c:Nat}{B:List Int}{hi:Bool}(h:IS H p l (kints .u8 B))(hl:l≤1000000000)(hB: ∀x∈B,0≤x∧x<256)
 (hR: ∀b H',St H H' [rdR b B 0 hi]→R (.pointer (some ⟨b,0,none⟩)) H'):CallsH Tryz.prog 36 #[.slice p l c,.bool hi] H R:=by
 have hBl:=h.length
 subst hBl
 exact Tryz.s36 (c54 h (by omega) fun q m H' hs=>⟨_,_,_,rfl,hs.alc fun b H2 hs=>hR b H2 (rdR_mk (Nat.zero_le _) hl hB hs)⟩)
theorem c38(hs:St H0 H σ){i b at_:Nat}{B:List Int}{hi:Bool}(hi':σ[i]?=some (rdR b B at_ hi))(hR:R (.int .i64 ((8*B.length-at_:Nat):Int)) H):
 CallsH Tryz.prog 38 #[.pointer (some ⟨b,0,none⟩)] H R:=by
 obtain⟨p,c,h1,h2,h3,hs2⟩:=rdR_op (hs.front i hi')
 refine Tryz.s38 ⟨_,rfl,_,_,_,hs2.get 0 rfl rfl,_,rfl,_,hs2.get 0 (j:=1) rfl rfl,?_⟩
 rw[wrap_id (n:=(8:Int)*(B.length:Int)) (by omega) (by omega),wrap_id (by omega) (by omega),show(8:Int)*(B.length:Int)-at_=((8*B.length-at_:Nat):Int) from by omega]
 exact hR
theorem numB_snoc{hi:Bool}{B:List Int}{a k:Nat}(hk:k<24):(if hi then orI .i64 (shlI .i64 (numB hi B a k) (1:Int)) (bitB hi B (a+k)) else orI .i64 (numB hi B a k) (shlI .i64 (bitB hi B (a+k)) (k:Int)))=numB hi B a (k+1):=by
 have h:=numB_rng hi B a k
 have hp:(2:Int)^k≤2^24:=pow_le (by omega)
 have e24:(2:Int)^24=16777216:=by decide
 rw[numB]
 have hb:0≤bitB hi B (a+k)∧bitB hi B (a+k)<2:=by rcases bitB_rng hi B (a+k) with h|h<;>omega
 split
 ·have h1:shlI .i64 (numB hi B a k) (1:Int)=numB hi B a k*2^1:=shl_of (k:=1) h.1 (by omega) (by omega)
  rw[h1,or_sum' (k:=1) hb.1 (by omega) h.1 (by omega)]
  omega
 ·have h2:bitB hi B (a+k)*2^k≤1*2^k:=Int.mul_le_mul_of_nonneg_right (by omega) (by have:=two_pow_pos k;omega)
  rw[shl_of hb.1 (by omega) (by omega),or_sum h.1 h.2 hb.1 (by omega)]
theorem c100(hs:St H0 H σ){i b at_:Nat}{B:List Int}{hi:Bool}(hi':σ[i]?=some (rdR b B at_ hi)){n:Int}
 (hbad: ¬(0≤n∧n≤24∧at_+n≤8*B.length)→R (.tuple #[.int .i64 0,.bool false]) H)
 (hR:(0≤n∧n≤24∧at_+n≤8*B.length)→ ∀H',St H0 H' (σ.set i (rdR b B (at_+n.toNat) hi))→R (.tuple #[.int .i64 (numB hi B at_ n.toNat),.bool true]) H'):
 CallsH Tryz.prog 100 #[.pointer (some ⟨b,0,none⟩),.int .i64 n] H R:=by
 obtain⟨_,_,h1,h2,h3,_⟩:=rdR_op (hs.front i hi')
 refine Tryz.s100 ?_
 unfold Tryz.S100
 intro J hJ
 refine br_dec (fun h=>hbad (by omega)) (fun n0=>br_dec (fun h=>hbad (by omega)) (fun n1=>c38 hs hi' ⟨_,rfl,br_dec (fun h=>hbad (by omega)) (fun n2=>hJ H ?_)⟩))
 obtain⟨m,rfl⟩:=Int.eq_ofNat_of_zero_le (show 0≤n by omega)
 have hR:=hR ⟨by omega,by omega,by omega⟩
 rw[Int.toNat_natCast] at hR
 intro X hX
 have go: ∀k,k≤m→ ∀H',St H0 H' (σ.set i (rdR b B (at_+k) hi))→X [.int .i64 (numB hi B at_ k),.int .i64 k] H':=upto fun k hk ih H' hs=>by
  refine hX _ _ H' (br_dec (fun hlt=>?_) (fun hge=>?_))
  ·have hlt:k<m:=by omega
   obtain⟨p,c,g1,g2,g3,hs2⟩:=rdR_op (hs.front i (setget hi' _))
   refine⟨_,rfl,_,_,_,hs2.get 0 rfl rfl,_,rfl,_,hs2.get 0 (j:=1) rfl rfl,by decide,?_⟩
   rw[wdiv8 _ (by omega)]
   have hg:=(hs2.is 1 rfl).rd (i:=(((at_+k)/8:Nat):Int)) (by omega) (by omega) (by rw[Int.toNat_natCast];exact get_gD _ 0 (by omega)) (K:=fun y=>y=B.getD ((at_+k)/8) 0) rfl
   obtain⟨a,ha,q0,q1,y,q2,rfl⟩:=hg
   have hyr:=getD_rng g3 ((at_+k)/8)
   refine⟨a,ha,q0,q1,_,q2,_,rfl,_,hs2.get 0 (j:=1) rfl rfl,_,rfl,_,hs2.get 0 (j:=2) rfl rfl,c90 ⟨_,rfl,.inl (Ext.refl _),by omega,?_⟩⟩
   have hbit:andI .i64 (IntKind.wrap .i64 (shrI .u8 (B.getD ((at_+k)/8) 0) ((bpos hi (at_+k):Nat):Int))) (1:Int)=bitB hi B (at_+k):=by
    have:=bpos_lt hi (at_+k)
    have hd0:=Int.ediv_nonneg hyr.1 (Int.le_of_lt (two_pow_pos (bpos hi (at_+k))))
    have hd1:=Int.ediv_le_self (2^bpos hi (at_+k)) hyr.1
    rw[shr8_of _ (by omega),wrap_id (by omega) (by omega),andI_1]
    rfl
   rw[hbit]
   intro J2 hJ2
   have nx:J2 [.int .i64 (numB hi B at_ (k+1))] H':=by
    refine hJ2 _ H' ⟨_,rfl,_,hs2.get 0 (j:=1) rfl rfl,_,rfl,?_⟩
    rw[wrap_id (by omega) (by omega),wrap_id (by omega) (by omega)]
    refine hs2.put 0 rfl (by simp) rfl fun H2 hs3=>ih hlt H2 ?_
    have:=St.back (setget hi' _) (rdR_mk (p:=p) (c:=c) (at_:=at_+(k+1)) (hi:=hi) (by omega) g2 g3 hs3)
    rw[setset] at this;exact this
   have hn:=numB_snoc (hi:=hi) (B:=B) (a:=at_) (k:=k) (by omega)
   refine⟨_,rfl,_,hs2.get 0 (j:=2) rfl rfl,br_i (fun hh=>⟨by decide,?_⟩) (fun hh=>⟨by omega,?_⟩)⟩
   ·rw[if_pos hh] at hn;rw[hn];exact nx
   ·rw[if_neg (by rw[hh];decide)] at hn;rw[hn];exact nx
  ·have:k=m:=by omega
   subst this
   exact hR H' hs
 refine go 0 (by omega) H ?_
 obtain⟨h1,h2⟩:=List.getElem?_eq_some_iff.1 hi'
 rw[Nat.add_zero,←h2,List.set_getElem_self];exact hs
end Go.Proofs
namespace Go.Proofs
open Go.Sh
variable {H0 H:Heap} {σ:List Rs} {R:Value→Heap→Prop}
def decR(d:Nat)(ls:List Int)(P:List (Nat×Int))(F:List Int):Rs:=
 .ex fun(x:Option Addr×Nat)=> .pu (OkC ls∧P.length≤5000∧Trie ls (· <ls.length) (· <ls.length) P F) (.star (.cell d #[.slice x.1 P.length x.2] 188) (.sl x.1 P.length x.2 189 2 (ints F)))
theorem decR_use{d:Nat}{ls F:List Int}{P:List (Nat×Int)}(hs:St H0 H σ){j:Nat}(hj:σ[j]?=some (decR d ls P F)): ∃q k,OkC ls∧P.length≤5000∧Trie ls (· <ls.length) (· <ls.length) P F∧H[d]?=some (.cells #[.slice q P.length k] 188)∧RS H q P.length 189 2 (ints F):=by
 obtain⟨⟨q,k⟩,hs⟩:=(hs.front j hj).unex
 obtain⟨⟨h1,h2,h3⟩,hs⟩:=hs.fact
 have hs:=hs.cut
 exact⟨q,k,h1,h2,h3,hs.block 0 rfl,hs.rs 1 rfl⟩
theorem newDecR{p:Option Addr}{l c:Nat}{ls:List Int}(h:IS H p l (ints ls))(hbad: ¬OkC ls→R (.tuple #[.pointer none,.bool false]) H)
 (hgood:OkC ls→ ∀H' b P F,St H H' [decR b ls P F]→R (.tuple #[.pointer (some ⟨b,0,none⟩),.bool true]) H'):CallsH Tryz.prog 99 #[.slice p l c] H R:=
 newDec h hbad fun ok H' b q L k P F hb hd fs hP hL t e=>hgood ok H' b P F (by
  subst hP
  have hs:St H H' [.sl q P.length k 189 2 (ints F)]:=(St.nil H).newSl e fs
  have hs2:St H H' [.cell b #[.slice q P.length k] 188,.sl q P.length k 189 2 (ints F)]:=by
   obtain⟨he,fps,hl,hn,hbb⟩:=hs
   match fps,hl with
   |fp::[],hl=>
    refine⟨he,[b]::fp::[],⟨⟨rfl,hd⟩,hl⟩,?_,?_⟩
    ·simp only[List.flatten_cons,List.flatten_nil,List.append_nil,List.singleton_append,List.nodup_cons] at hn ⊢
     refine⟨fun hm=>?_,hn⟩
     rcases hl.1.2 with ⟨_,h2⟩|⟨blk,h1,h2⟩
     ·rw[h2] at hm;cases hm
     ·rw[h2,List.mem_singleton] at hm
      subst hm
      rcases hl.1.1.at_ with ⟨h3,_⟩|⟨blk',cs,h3,_,h4,_⟩
      ·rw[h1] at h3;cases h3
      ·rw[h1] at h3;cases h3;rw[hd] at h4;cases h4
    ·intro x hx
     simp only[List.flatten_cons,List.flatten_nil,List.append_nil,List.singleton_append,List.mem_cons] at hx hbb
     rcases hx with rfl|hx
     ·exact hb
     ·exact hbb x hx
  exact St.inex (f:=fun(x:Option Addr×Nat)=> .pu (OkC ls∧P.length≤5000∧Trie ls (· <ls.length) (· <ls.length) P F) (.star (.cell b #[.slice x.1 P.length x.2] 188) (.sl x.1 P.length x.2 189 2 (ints F)))) (q,k) (St.with ⟨ok,hL,t⟩ hs2.cat))
section
variable {f a most:Nat} {B out:List Int} {e:Int}
end
end Go.Proofs
namespace Go.Proofs
open Go.Sh
variable {H0 H:Heap} {σ:List Rs} {R:Value→Heap→Prop}
def revN(L:List Int)(i:Nat):List Int:=(List.range L.length).map fun k=>if k<i∨L.length-i≤k then L.getD (L.length-1-k) 0 else L.getD k 0
theorem revN_len(L:List Int)(i:Nat):(revN L i).length=L.length:=tab_len _ _
theorem revN_get{L:List Int}{i k:Nat}(h:k<L.length):(revN L i)[k]?=some (if k<i∨L.length-i≤k then L.getD (L.length-1-k) 0 else L.getD k 0):=tab_get h
theorem revN_zero(L:List Int):revN L 0=L:=by
 refine list_ext_getD (n:=L.length) (revN_len _ _) rfl fun j hj=>?_
 rw[gD_get (revN_get hj),if_neg (by omega)]
theorem revN_all{L:List Int}{i:Nat}(h:L.length≤2*i+1):revN L i=L.reverse:=by
 refine list_ext_getD (n:=L.length) (revN_len _ _) (by simp) fun j hj=>?_
 rw[gD_get (revN_get hj),List.getD_eq_getElem?_getD (l:=L.reverse),List.getElem?_reverse hj,←List.getD_eq_getElem?_getD]
 split
 ·rfl
 ·rw[show L.length-1-j=j by omega]
theorem revN_step{L:List Int}{i:Nat}(h:2*i+1<L.length):((revN L i).set i (L.getD (L.length-1-i) 0)).set (L.length-1-i) (L.getD i 0)=revN L (i+1):=by
 refine list_ext_getD (n:=L.length) (by simp[revN_len]) (revN_len _ _) fun j hj=>?_
 rw[getD_set_ite _ _ _ _ _ (by simp[revN_len];omega),getD_set_ite _ _ _ _ _ (by simp[revN_len];omega),gD_get (revN_get hj),gD_get (revN_get hj)]
 by_cases h1:L.length-1-i=j
 ·rw[if_pos h1,if_pos (by omega),←h1,show L.length-1-(L.length-1-i)=i by omega]
 ·rw[if_neg h1]
  by_cases h2:i=j
  ·subst h2;rw[if_pos rfl,if_pos (by omega)]
  ·rw[if_neg h2]
   by_cases h3:j<i∨L.length-i≤j
   ·rw[if_pos h3,if_pos (by omega)]
   ·rw[if_neg h3,if_neg (by omega)]
theorem c46(hs:St H0 H σ){t:Nat}{p:Option Addr}{l c:Nat}{el:TypeId}{L:List Int}(ht:σ[t]?=some (.sl p l c el 1 (ints L)))(hl:l≤1000000000)
 (hR: ∀H',St H0 H' (σ.set t (.sl p l c el 1 (ints L.reverse)))→R (.tuple #[]) H'):CallsH Tryz.prog 46 #[.slice p l c] H R:=by
 have hLl:L.length=l:=(hs.is t ht).length
 refine Tryz.s46 ?_
 unfold Tryz.S46
 intro X hX
 have go: ∀d i,d+i=l→ ∀H1,St H0 H1 (σ.set t (.sl p l c el 1 (ints (revN L i))))→i≤l/2→X [.int .i64 (i:Nat),.int .i64 ((l:Int)-1-i)] H1:=by
  intro d
  induction d with
  |zero=>
   intro i hd H1 hs1 hi
   have:l=0:=by omega
   refine hX _ _ H1 (br_n (by omega) ?_)
   rw[revN_all (by omega)] at hs1
   exact hR H1 hs1
  |succ d ih=>
   intro i hd H1 hs1 hi
   refine hX _ _ H1 (br_dec (fun hlt=>?_) (fun hge=>?_))
   ·have hti:=setget ht (.sl p l c el 1 (ints (revN L i)))
    have hg1:(revN L i)[i]?=some (L.getD i 0):=by rw[revN_get (by omega),if_neg (by omega)]
    have hg2:(revN L i)[L.length-1-i]?=some (L.getD (L.length-1-i) 0):=by rw[revN_get (by omega),if_neg (by omega)]
    obtain⟨b,rfl⟩:=hs1.slSome t hti (j:=i) (by rw[ints_len,revN_len];omega)
    have e2:((l:Int)-1-i)=((L.length-1-i:Nat):Int):=by omega
    rw[e2]
    refine(hs1.is t hti).rd (ls:=revN L i) (by omega) (by omega) (by rw[Int.toNat_natCast];exact hg2) ?_
    refine(hs1.is t hti).rd (ls:=revN L i) (by omega) (by omega) (by rw[Int.toNat_natCast];exact hg1) ?_
    refine⟨_,rfl,by omega,by omega,?_⟩
    rw[add_none,Nat.zero_add,Int.toNat_natCast,Nat.mul_one]
    refine hs1.slPut t hti (by rw[ints_len,revN_len];omega) rfl fun H2 hs2=>⟨_,rfl,by omega,by omega,?_⟩
    rw[List.set_set,ints_set] at hs2
    rw[add_none,Nat.zero_add,Int.toNat_natCast,Nat.mul_one]
    refine hs2.slPut t (setget ht _) (by rw[ints_len,List.length_set,revN_len];omega) rfl fun H3 hs3=>?_
    rw[List.set_set,ints_set,revN_step (by omega)] at hs3
    rw[wrap_id (by omega) (by omega),wrap_id (by omega) (by omega),show(i:Int)+1=((i+1:Nat):Int) by omega,show((L.length-1-i:Nat):Int)-1=(l:Int)-1-((i+1:Nat):Int) by omega]
    exact ih (i+1) (by omega) H3 hs3 (by omega)
   ·rw[revN_all (by omega)] at hs1
    exact hR H1 hs1
 rw[wrap_id (by omega) (by omega),show(0:Int)=((0:Nat):Int) from rfl,show(l:Int)-1=(l:Int)-1-((0:Nat):Int) by omega]
 refine go l 0 (by omega) H ?_ (by omega)
 rw[revN_zero]
 exact hs.as t ht fun fp h=>h
def lineN(n k:Nat):List Int:=(List.range k).filterMap fun v=>if v≤n∧n-v<8 then some ((8*v+(n-v):Nat):Int) else none
theorem lineN_succ(n k:Nat):lineN n (k+1)=lineN n k++(if k≤n∧n-k<8 then[((8*k+(n-k):Nat):Int)] else[]):=by
 unfold lineN
 rw[List.range_succ,List.filterMap_append]
 congr 1
 simp only[List.filterMap_cons,List.filterMap_nil]
 split<;>rename_i h<;>split at h<;>simp_all
def zAt(n:Nat):Nat:=if n≤8 then n*(n+1)/2 else 64-(15-n)*(16-n)/2
theorem zline: ∀n:Fin 15,(if n.val%2=0 then(lineN n.val 8).reverse else lineN n.val 8)=(zigI.drop (zAt n.val)).take (lineN n.val 8).length∧zAt n.val+(lineN n.val 8).length=zAt (n.val+1)∧zAt n.val<64∧zAt (n.val+1)≤64∧(lineN n.val 8).length≤8:=by decide+kernel
theorem fill_row{L xs:List Int}{a n:Nat}(hx:xs=(L.drop a).take n)(hn:a+n≤L.length):(fillA L a).take a++xs++(fillA L a).drop (a+xs.length)=fillA L (a+n):=by
 subst hx
 have hl:((L.drop a).take n).length=n:=by simp;omega
 rw[hl]
 unfold fillA
 have h1:(L.take a++List.replicate (L.length-a) (0:Int)).take a=L.take a:=by rw[List.take_append_of_le_length (by simp;omega),List.take_take,Nat.min_self]
 have h2:(L.take a++List.replicate (L.length-a) (0:Int)).drop (a+n)=List.replicate (L.length-(a+n)) 0:=by
  rw[List.drop_append,List.drop_eq_nil_of_le (show(L.take a).length≤a+n by simp;omega),List.nil_append,List.drop_replicate,List.length_take,Nat.min_eq_left (by omega)]
  congr 1;omega
 rw[h1,h2,List.take_add]
theorem c15(hR: ∀H',Ext H H'→R (.agg (ints zigI).toArray) H'):CallsH Tryz.prog 15 #[] H R:=by
 refine Tryz.s15 (_u:=()) ?_
 unfold Tryz.S15
 refine(St.nil H).alc fun b H1 hs1=>?_
 rw[zeroA] at hs1
 intro X hX
 have go: ∀n,n≤15→ ∀H2,St H H2 [.cell b (ints (fillA zigI (zAt n))).toArray 48]→X [.int .i64 (zAt n:Nat),.int .i64 (n:Nat)] H2:=upto fun n hn ih H2 hs2=>by
  refine hX _ _ H2 (br_dec (fun hlt=>?_) (fun hge=>?_))
  ·have hlt:n<15:=by omega
   obtain⟨z1,z2,z3,z4,z5⟩:=zline ⟨n,hlt⟩
   simp only at z1 z2 z3 z4 z5
   intro Y hY
   have line: ∀k,k≤8→ ∀p c H3,St H H3 [.sl p (lineN n k).length c 3 1 (ints (lineN n k)),.cell b (ints (fillA zigI (zAt n))).toArray 48]→Y [.slice p (lineN n k).length c,.int .i64 (k:Nat)] H3:=upto fun k hk ihk p c H3 hs3=>by
    refine hY _ _ _ _ H3 (br_dec (fun hlk=>?_) (fun hgk=>?_))
    ·have hlk:k<8:=by omega
     have hls:=lineN_succ n k
     intro J hJ
     have w0:IntKind.wrap .i64 ((n:Int)-(k:Int))=(n:Int)-k:=wrap_id (by omega) (by omega)
     rw[w0]
     have skip: ¬(k≤n∧n-k<8)→J [.slice p (lineN n k).length c] H3:=fun h=>by
      rw[if_neg h,List.append_nil] at hls
      refine hJ _ _ _ H3 ?_
      rw[w1 (by omega)]
      have:=ihk hlk p c H3 (by rw[hls];exact hs3)
      rw[hls] at this
      exact this
     refine br_dec (fun h1=>br_dec (fun h2=>?_) (fun h2=>skip (by omega))) (fun h1=>skip (by omega))
     rw[if_pos (by omega)] at hls
     have hll:(lineN n k).length≤k:=by unfold lineN;exact Nat.le_trans (List.length_filterMap_le _ _) (by simp)
     refine hs3.alc fun b14 H15 hs15=>?_
     rw[wrap_id (n:=(8:Int)*(k:Int)) (by omega) (by omega),wrap_id (by omega) (by omega),show(8:Int)*(k:Int)+((n:Int)-k)=((8*k+(n-k):Nat):Int) by omega] at hs15
     refine hs15.appC 1 0 rfl rfl rfl (fun v hv=>by rw[List.mem_singleton.1 hv];rfl) (by decide) rfl (by omega) (by omega) fun p' c' H16 hs16=>?_
     refine hJ _ _ _ H16 ?_
     rw[w1 (by omega)]
     have hs16:=hs16.tail
     have e:ints (lineN n k)++[Value.int .i64 ((8*k+(n-k):Nat):Int)]=ints (lineN n (k+1)):=by rw[hls,ints_append];rfl
     have e':(lineN n k).length+1=(lineN n (k+1)).length:=by rw[hls];simp
     simp only[List.set_cons_zero,List.set_cons_succ] at hs16
     rw[e,e'] at hs16
     rw[e']
     exact ihk hlk p' c' H16 hs16
    ·have:k=8:=by omega
     subst this
     intro J hJ
     have cp: ∀H4,St H H4 [.sl p (lineN n 8).length c 3 1 (ints ((zigI.drop (zAt n)).take (lineN n 8).length)),.cell b (ints (fillA zigI (zAt n))).toArray 48]→J [] H4:=fun H4 hs4=>by
      refine hJ H4 ⟨by omega,by omega,(ints ((zigI.drop (zAt n)).take (lineN n 8).length)).toArray,?_,?_⟩
      ·rw[Int.toNat_natCast,Nat.min_eq_left (by omega)]
       exact(hs4.is 0 rfl).rowOf
      ·rw[Int.toNat_natCast,if_neg (by omega),add_none,Nat.zero_add,Nat.mul_one]
       have hxl:((zigI.drop (zAt n)).take (lineN n 8).length).length=(lineN n 8).length:=by rw[List.length_take,List.length_drop,zigI_len];omega
       refine hs4.putRowA 1 rfl (by rw[hxl,fillA_len (by rw[zigI_len];omega),zigI_len];omega) fun H5 hs5=>?_
       have hs5:=hs5.tail
       rw[fill_row rfl (by rw[zigI_len];omega),z2] at hs5
       rw[Nat.min_eq_left (by omega),wrap_id (by omega) (by omega),w1 (by omega),show(zAt n:Int)+((lineN n 8).length:Nat)=((zAt (n+1):Nat):Int) by omega]
       exact ih hlt H5 hs5
     refine⟨by decide,br_eq (fun h0=>?_) (fun h0=>?_)⟩
     ·rw[if_pos (by have h2:=tmodN n 2;rw[show((2:Nat):Int)=2 from rfl] at h2;omega)] at z1
      refine c46 hs3 (t:=0) rfl (by omega) fun H4 hs4=>⟨rfl,cp H4 ?_⟩
      rw[←z1];exact hs4
     ·rw[if_neg (by have h2:=tmodN n 2;rw[show((2:Nat):Int)=2 from rfl] at h2;omega)] at z1
      refine cp H3 ?_
      rw[←z1];exact hs3
   exact line 0 (by omega) none 0 H2 (hs2.nilSl _ _)
  ·have:n=15:=by omega
   subst this
   have e:fillA zigI (zAt 15)=zigI:=fillA_all zigI
   rw[e] at hs2
   refine⟨_,by rw[intsA_size];rfl,rowIn_whole (hs2.block 0 rfl),by rw[intsA_size];rfl,?_⟩
   refine hs2.putAllA 0 rfl (by rw[intsA_size]) fun H3 hs3=>?_
   exact⟨_,by rw[intsA_size];rfl,rowIn_whole (hs3.block 0 rfl),hR H3 hs3.ext⟩
 have e0:fillA zigI (zAt 0)=List.replicate 64 0:=fillA_zero zigI
 exact go 0 (by omega) H1 (by rw[e0];exact hs1)
def zu(i:Nat):Nat:=if i=64 then 7 else zig i%8
def zv(i:Nat):Nat:=if i=64 then 8 else zig i/8
theorem zstep: ∀i:Fin 64,zig i.val=8*zv i.val+zu i.val∧zu i.val<8∧zv i.val<8∧
 (
  (zu i.val+zv i.val)%2=0∧(zu i.val=7∧zu (i.val+1)=zu i.val∧zv (i.val+1)=zv i.val+1∨zu i.val≠7∧zv i.val=0∧zu (i.val+1)=zu i.val+1∧zv (i.val+1)=zv i.val∨zu i.val≠7∧zv i.val≠0∧zu (i.val+1)=zu i.val+1∧zv (i.val+1)+1=zv i.val)∨
  (zu i.val+zv i.val)%2=1∧(zv i.val=7∧zu (i.val+1)=zu i.val+1∧zv (i.val+1)=zv i.val∨zv i.val≠7∧zu i.val=0∧zu (i.val+1)=zu i.val∧zv (i.val+1)=zv i.val+1∨zv i.val≠7∧zu i.val≠0∧zu (i.val+1)+1=zu i.val∧zv (i.val+1)=zv i.val+1)):=by decide+kernel
theorem c62(hR: ∀H',Ext H H'→R (.agg (ints zigI).toArray) H'):CallsH Tryz.prog 62 #[] H R:=by
 refine Tryz.s62 (_u:=()) ?_
 unfold Tryz.S62
 refine(St.nil H).alc fun b1 H1 hs1=>hs1.alc fun b3 H2 hs2=>?_
 rw[zeroA] at hs2
 intro X hX
 have go: ∀i,i≤64→ ∀H3,St H H3 [.cell b3 (ints (fillA zigI i)).toArray 48,.cell b1 (ints (List.replicate 64 0)).toArray 48]→X [.int .i64 (zu i:Nat),.int .i64 (zv i:Nat),.int .i64 (i:Nat)] H3:=upto fun i hi ih H3 hs3=>by
  refine hX _ _ _ H3 (br_dec (fun hlt=>?_) (fun hge=>?_))
  ·have hlt:i<64:=by omega
   obtain⟨z1,z2,z3,z4⟩:=zstep ⟨i,hlt⟩
   simp only at z1 z2 z3 z4
   intro J hJ
   rw[wrap_id (n:=(8:Int)*(zv i:Nat)) (by omega) (by omega),wrap_id (n:=(8:Int)*(zv i:Nat)+(zu i:Nat)) (by omega) (by omega),show(8:Int)*(zv i:Nat)+(zu i:Nat)=((zig i:Nat):Int) by omega]
   refine⟨by omega,by omega,?_⟩
   rw[add_none,Nat.zero_add,Int.toNat_natCast,Nat.mul_one]
   refine hs3.putA 0 rfl (by rw[fillA_len (by rw[zigI_len];omega),zigI_len];omega) fun H4 hs4=>?_
   have e:((zig i:Nat):Int)=zigI.getD i 0:=(gD_get (zigI_get hlt)).symm
   rw[e,fillA_set (by rw[zigI_len];omega)] at hs4
   have ih:=ih hlt H4 hs4
   have next: ∀u v:Int,u=(zu (i+1):Nat)→v=(zv (i+1):Nat)→J [.int .i64 u,.int .i64 v] H4:=fun u v hu hv=>by
    subst hu hv
    refine hJ _ _ H4 ?_
    rw[w1 (by omega)]
    exact ih
   have wu1:IntKind.wrap .i64 ((zu i:Int)+1)=(zu i:Int)+1:=wrap_id (by omega) (by omega)
   have wv1:IntKind.wrap .i64 ((zv i:Int)+1)=(zv i:Int)+1:=wrap_id (by omega) (by omega)
   have wu2:IntKind.wrap .i64 ((zu i:Int)-1)=(zu i:Int)-1:=wrap_id (by omega) (by omega)
   have wv2:IntKind.wrap .i64 ((zv i:Int)-1)=(zv i:Int)-1:=wrap_id (by omega) (by omega)
   have wuv:Int.tmod (IntKind.wrap .i64 ((zu i:Int)+(zv i:Nat))) 2=(((zu i+zv i)%2:Nat):Int):=by
    rw[wrap_id (by omega) (by omega),show(zu i:Int)+(zv i:Nat)=((zu i+zv i:Nat):Int) by omega]
    exact tmodN _ 2
   rw[wu1,wv1,wu2,wv2,wuv]
   refine⟨by decide,br_eq (fun h=>?_) (fun h=>?_)⟩
   ·refine br_eq (fun h1=>next _ _ (by omega) (by omega)) (fun h1=>br_eq (fun h2=>next _ _ (by omega) (by omega)) (fun h2=>next _ _ (by omega) (by omega)))
   ·refine br_eq (fun h1=>next _ _ (by omega) (by omega)) (fun h1=>br_eq (fun h2=>next _ _ (by omega) (by omega)) (fun h2=>next _ _ (by omega) (by omega)))
  ·have:i=64:=by omega
   subst this
   have e:fillA zigI 64=zigI:=fillA_all zigI
   rw[e] at hs3
   refine⟨_,by rw[intsA_size];rfl,rowIn_whole (hs3.block 0 rfl),by rw[intsA_size];rfl,?_⟩
   refine hs3.putAllA 1 rfl (by rw[intsA_size];simp[zigI_len]) fun H4 hs4=>?_
   exact⟨_,by rw[intsA_size];rfl,rowIn_whole (hs4.block 1 rfl),hR H4 hs4.ext⟩
 have e0:fillA zigI 0=List.replicate 64 0:=fillA_zero zigI
 exact go 0 (by omega) H2 (by rw[e0];simpa only[zeroA] using hs2)
end Go.Proofs
namespace Go.Sh
variable {H0 H H':Heap} {σ τ:List Rs}
def Rs.pers(Q:Heap→Prop):Rs where
 at_ H fp:=(∀b∈fp,b<H.size)∧ ∀H',(∀b∈fp,∀o,H[b]?=some o→H'[b]?=some o)→Q H'
 loc:=fun{H H' fp} h hk=>⟨fun b hb=>by
  have hlt:=h.1 b hb
  exact lt_of_get (hk b hb _ (Array.getElem?_eq_getElem hlt)),fun H'' hk2=>h.2 H'' fun b hb o ho=>hk2 b hb o (hk b hb o ho)⟩
 has h:=h.1
theorem St.persGet(hs:St H0 H σ)(i:Nat){Q:Heap→Prop}(hi:σ[i]?=some (.pers Q)):Q H:=by
 obtain⟨_,fps,hl,_⟩:=hs
 obtain⟨fp,_,h⟩:=hl.get hi
 exact h.2 H fun b _ o ho=>ho
theorem Ext.empty(H:Heap):Ext #[] H:=fun b o h=>by simp at h
theorem St.persOf{Q:Heap→Prop}(hs:St H0 H (τ++σ))(hq: ∀H',St #[] H' τ→Q H'):St H0 H (.pers Q::σ):=by
 obtain⟨he,fps,hl,hn,hb⟩:=hs
 obtain⟨a,b,rfl,h1,h2⟩:=hl.split
 have hna:a.flatten.Nodup:=by rw[List.flatten_append,List.nodup_append] at hn;exact hn.1
 refine⟨he,a.flatten::b,⟨⟨h1.has,fun H' hk=>hq H' ⟨Ext.empty H',a,h1.loc hk,hna,fun x _=>Nat.zero_le x⟩⟩,h2⟩,by simpa using hn,fun x hx=>hb x (by simpa using hx)⟩
end Go.Sh
namespace Go.Proofs
open Go.Sh
variable {H0 H:Heap} {σ:List Rs} {R:Value→Heap→Prop}
theorem retC(hs:St H0 H σ)(i:Nat){b n:Nat}{cs:Array Value}{ty:TypeId}(hi:σ[i]?=some (.cell b cs ty))(hl:cs.size=n)(ho: ∀v∈cs.toList,v.oneCell'=true){K:Array Value→Heap→Prop}(hK: ∀H',St H0 H' σ→K cs H'):
 ∃v:Array Value,v.size=n∧rowIn H ⟨b,0,none⟩ v∧v.size=n∧stAt H ⟨b,0,none⟩ v.toList fun H'=> ∃re:Array Value,re.size=n∧rowIn H' ⟨b,0,none⟩ re∧K re H':=by
 refine⟨cs,hl,rowIn_whole (hs.block i hi),hl,hs.putAll i hi (by simp) ho fun H' hs'=>⟨cs,hl,?_,?_⟩⟩
 ·exact rowIn_whole (hs'.block i (by rw[List.getElem?_set_self (List.getElem?_eq_some_iff.1 hi).1]))
 ·refine hK H' ?_
  have e:σ.set i (.cell b cs.toList.toArray ty)=σ:=by
   obtain⟨h1,h2⟩:=List.getElem?_eq_some_iff.1 hi
   rw[Array.toArray_toList,←h2,List.set_getElem_self]
  rw[e] at hs';exact hs'
theorem retA(hs:St H0 H σ)(i:Nat){b n:Nat}{L:List Int}{ty:TypeId}(hi:σ[i]?=some (.cell b (ints L).toArray ty))(hl:L.length=n){K:Array Value→Heap→Prop}(hK: ∀H',St H0 H' σ→K (ints L).toArray H'):
 ∃v:Array Value,v.size=n∧rowIn H ⟨b,0,none⟩ v∧v.size=n∧stAt H ⟨b,0,none⟩ v.toList fun H'=> ∃re:Array Value,re.size=n∧rowIn H' ⟨b,0,none⟩ re∧K re H':=
 retC hs i hi (by rw[intsA_size];exact hl) (fun v hv=>ints_one L v (by simpa using hv)) hK
theorem valB_snoc(L:List Int)(b:Int):valB (L++[b])=2*valB L+b:=by simp[valB]
theorem numB_val{B:List Int}{a:Nat}: ∀{n:Nat},a+n≤8*B.length→numB true B a n=valB (((bitsH B).drop a).take n)
 |0,_=>by simp[numB,valB]
 |n+1,h=>by
  rw[numB,if_pos rfl,numB_val (n:=n) (by omega),List.take_add_one,List.getElem?_drop,bitsH_get (by omega)]
  simp only[Option.toList_some,valB_snoc]
theorem numJ_of{B:List Int}{a n:Nat}(h:a+n≤8*B.length):numJ n ((bitsH B).drop a)=some (signM n (numB true B a n),(bitsH B).drop (a+n)):=by
 unfold numJ
 rw[if_neg (by rw[List.length_drop,bitsH_len];omega),numB_val h,List.drop_drop]
theorem numJ_bad{B:List Int}{a n:Nat}(h:8*B.length<a+n)(hn:a≤8*B.length):numJ n ((bitsH B).drop a)=none:=by
 unfold numJ
 rw[if_pos (by rw[List.length_drop,bitsH_len];omega)]
theorem signM_rng{n:Nat}{v:Int}(h:0≤v∧v<2^n): -(2^n)≤signM n v∧signM n v≤2^n:=by
 unfold signM;split<;>omega
theorem byte_parts: ∀s:Fin 256,andI .i64 (s.val:Int) 15=((s.val%16:Nat):Int)∧shrI .i64 (s.val:Int) 4=((s.val/16:Nat):Int):=by decide+kernel
def unR(u:Nat)(B:List Int)(a:Nat)(ok:Bool):Rs:= .ex fun rb=> .star (rdR rb B a true) (.cell u #[.pointer (some ⟨rb,0,none⟩),.bool ok] 110)
theorem unR_op{u a:Nat}{B:List Int}{ok:Bool}(hs:St H0 H (unR u B a ok::σ)): ∃rb,St H0 H (rdR rb B a true:: .cell u #[.pointer (some ⟨rb,0,none⟩),.bool ok] 110::σ):=by
 obtain⟨rb,hs⟩:=hs.unex
 exact⟨rb,hs.cut⟩
theorem unR_mk{u a rb:Nat}{B:List Int}{ok:Bool}(hs:St H0 H (rdR rb B a true:: .cell u #[.pointer (some ⟨rb,0,none⟩),.bool ok] 110::σ)):St H0 H (unR u B a ok::σ):=
 St.inex (f:=fun rb=> .star (rdR rb B a true) (.cell u #[.pointer (some ⟨rb,0,none⟩),.bool ok] 110)) rb hs.cat
theorem unR_a{u a:Nat}{B:List Int}{ok:Bool}(hs:St H0 H (unR u B a ok::σ)):a≤8*B.length:=by
 obtain⟨rb,hs⟩:=unR_op hs
 obtain⟨_,_,h,_⟩:=rdR_op hs
 exact h
theorem unR_ok{u a:Nat}{B:List Int}{ok:Bool}(hs:St H0 H (unR u B a ok::σ)):cell H ⟨u,1,none⟩=some (.bool ok):=by
 obtain⟨rb,hs⟩:=unR_op hs
 exact hs.get 1 (j:=1) rfl rfl
theorem unR_fail{u a:Nat}{B:List Int}{ok:Bool}(hs:St H0 H (unR u B a ok::σ))(v:Bool){K:Heap→Prop}(hK: ∀H',St H0 H' (unR u B a v::σ)→K H'):stAt H ⟨u,1,none⟩ [.bool v] K:=by
 obtain⟨rb,hs⟩:=unR_op hs
 exact hs.put 1 (j:=1) rfl (by simp) rfl fun H' hs'=>hK H' (unR_mk (rb:=rb) hs')
def TabI(t d:Nat)(q:Option Addr)(c:Nat)(ls:List Int)(P:List (Nat×Int))(F:List Int)(H:Heap):Prop:=
 H[t]?=some (.cells #[.pointer (some ⟨d,0,none⟩),.slice q ls.length c] 172)∧
 ∃q2 k,H[d]?=some (.cells #[.slice q2 P.length k] 188)∧RS H q2 P.length 189 2 (ints F)
structure TabP(H0:Heap)(Q:Heap→Prop)(t:Nat)(T:TabJ):Prop where
 ok:OkC T.1
 rng: ∀x∈T.2,0≤x∧x<256
 mem: ∃d q c P F,IS H0 q T.1.length (kints .u8 T.2)∧P.length≤5000∧Trie T.1 (· <T.1.length) (· <T.1.length) P F∧ ∀H,Q H→TabI t d q c T.1 P F H
section
variable {u a:Nat} {B:List Int}
theorem c73(hs:St H0 H (unR u B a true::σ)){j t:Nat}{Q:Heap→Prop}{T:TabJ}(hj:σ[j]?=some (.pers Q))(hT:TabP H0 Q t T)
 (hbad:symJ T.1 ((bitsH B).drop a)=none→ ∀H' a',St H0 H' (unR u B a' false::σ)→R (.int .i64 0) H')
 (hR: ∀s a',symJ T.1 ((bitsH B).drop a)=some (s,(bitsH B).drop a')→s<T.1.length→ ∀H',St H0 H' (unR u B a' true::σ)→R (.int .i64 (T.2.getD s 0)) H'):
 CallsH Tryz.prog 73 #[.pointer (some ⟨u,0,none⟩),.pointer (some ⟨t,0,none⟩)] H R:=by
 obtain⟨ok,hrng,d,q,c,P,F,hIS,hL,tr,hTab⟩:=hT
 have hTl:T.2.length=T.1.length:=hIS.length
 refine Tryz.s73 ?_
 unfold Tryz.S73
 intro X hX
 have hI: ∀{H':Heap} {a':Nat} {okb:Bool},St H0 H' (unR u B a' okb::σ)→TabI t d q c T.1 P F H':=fun hs'=>hTab _ (hs'.persGet (j+1) (by simpa using hj))
 have loop: ∀(g:Nat) (st n:Nat) (v:Int) (a1:Nat) (H1:Heap),17-n≤g→n≤16→P[st]?=some (n,v)→symB T.1 (17-n) n v ((bitsH B).drop a1)=symJ T.1 ((bitsH B).drop a)→St H0 H1 (unR u B a1 true::σ)→X [.int .i64 st] H1:=by
  intro g
  induction g with
  |zero=>intro st n v a1 H1 h1 h2;omega
  |succ g ih=>
   intro st n v a1 H1 hg hn hst heq hs1
   have h17:17-n=16-n+1:=by omega
   rw[h17] at heq
   have ha1:=unR_a hs1
   obtain⟨rb,hs1'⟩:=unR_op hs1
   refine hX _ H1 ⟨_,rfl,_,hs1'.get 1 (j:=0) rfl rfl,c100 hs1' (i:=0) rfl (fun hb=>⟨_,_,rfl,br_t rfl ⟨_,rfl,?_⟩⟩) (fun hg H2 hs2'=>⟨_,_,rfl,br_f rfl ?_⟩)⟩
   ·refine unR_fail hs1 false fun H3 hs3=>hbad ?_ H3 a1 hs3
    rw[←heq,bitsH_end (by omega)];rfl
   ·have hs2:=unR_mk hs2'
    rw[Int.toNat_one] at hs2 ⊢
    have e1:numB true B a1 1=bitB true B a1:=by rw[numB,if_pos rfl,numB];simp
    rw[e1]
    rw[bitsH_drop (by omega),symB] at heq
    have hb01:bitB true B a1%2=bitB true B a1:=by rcases bitB_rng true B a1 with h|h<;>omega
    obtain⟨ht,q3,k,hd,hrs⟩:=hI hs2
    refine⟨_,rfl,_,cell_get ht (i:=0) rfl,?_⟩
    refine c101 hd hrs (tr.rng2 rfl hL ok.w.len) (by omega) _ _ ⟨_,_,rfl,?_⟩
    generalize hbit:bitB true B a1=b at*
    cases hf:findM T.1 (n+1) (2*v+b) with
    |some s=>
     obtain⟨f1,f2⟩:=findM_some hf
     have hst2:=step_sym ok rfl tr (bit:=b) hst f1 (by rw[hb01];exact f2)
     show br (decide ((stepM F P.length (st:Int) b).1<0)) _ _
     rw[hf] at heq
     rw[hst2]
     have hsl:=(List.getElem?_eq_some_iff.1 f1).1
     have hg:=get_gD T.2 0 (i:=s) (by omega)
     have hv:=hrng _ (List.mem_of_getElem? hg)
     refine br_n (show ¬((0:Int)<0) by decide) (br_y (show((s:Int)≥0) by omega) ⟨_,rfl,_,_,_,cell_get ht (i:=1) rfl,?_⟩)
     refine(hIS.ext hs2.ext).rd (i:=(s:Int)) (by omega) (by omega) (by rw[Int.toNat_natCast];exact hg) ?_
     rw[wrap_id (by omega) (by omega)]
     exact hR s _ heq.symm hsl H2 hs2
    |none=>
     rw[hf] at heq
     simp only at heq
     cases hbg:begM T.1 (n+1) (2*v+b) with
     |true=>
      obtain⟨s,m,g1,g2,g3⟩:=begM_true ok.w.rng hbg
      obtain⟨i,i0,hst2,hp⟩:=step_on ok rfl tr (bit:=b) hst g1 g2 (by rw[hb01];exact g3)
      rw[hb01] at hp
      rw[hbg] at heq
      simp only[if_true] at heq
      rw[hst2]
      have hm:=ok.w.rng _ (List.mem_of_getElem? g1)
      refine br_n (by show ¬((i:Int)<0);omega) (br_n (show ¬((-1:Int)≥0) by decide) (ih i (n+1) _ _ H2 (by omega) (by omega) hp ?_ hs2))
      rw[show 17-(n+1)=16-n from by omega]
      exact heq
     |false=>
      rw[hbg] at heq
      simp only[Bool.false_eq_true,if_false] at heq
      have hst2:=step_off (bit:=b) rfl tr hst (fun s h1 h2=>findM_none hf h1 (by rw[hb01] at h2;exact h2)) (fun s m h1 h2 h3=>begM_false hbg h1 h2 (by rw[hb01] at h3;exact h3))
      rw[hst2]
      refine br_y (show((-1:Int)<0) by decide) ⟨_,rfl,unR_fail hs2 false fun H3 hs3=>hbad heq.symm H3 _ hs3⟩
 exact loop 17 0 0 0 a H (by omega) (by omega) tr.root rfl hs
theorem c75(hs:St H0 H (unR u B a true::σ)){n:Nat}(hn:n≤15)
 (hbad:numJ n ((bitsH B).drop a)=none→ ∀v H',-32768≤v∧v≤32768→St H0 H' (unR u B a false::σ)→R (.int .i64 v) H')
 (hR: ∀v,numJ n ((bitsH B).drop a)=some (v,(bitsH B).drop (a+n))→ -32768≤v∧v≤32768→ ∀H',St H0 H' (unR u B (a+n) true::σ)→R (.int .i64 v) H'):
 CallsH Tryz.prog 75 #[.pointer (some ⟨u,0,none⟩),.int .i64 (n:Nat)] H R:=by
 have ha:=unR_a hs
 obtain⟨rb,hs'⟩:=unR_op hs
 have hp:(2:Int)^n≤2^15:=pow_le hn
 have e15:(2:Int)^15=32768:=by decide
 have hp0:=two_pow_pos n
 -- what is made of a number
 have fin: ∀(x:Int) (K:Value→Heap→Prop) (H1:Heap),0≤x∧x<2^n→K (.int .i64 (signM n x)) H1→
  br (decide ((n:Int)>0)) (0≤IntKind.wrap .i64 ((n:Int)-1)∧br (decide (x<shlI .i64 1 (IntKind.wrap .i64 ((n:Int)-1)))) (0≤(n:Int)∧K (.int .i64 (IntKind.wrap .i64 (IntKind.wrap .i64 (x-shlI .i64 1 (n:Int))+1))) H1) (K (.int .i64 x) H1)) (K (.int .i64 x) H1):=fun x K H1 hx hK=>by
  unfold signM at hK
  refine br_dec (fun h=>?_) (fun h=>?_)
  ·have hn0:0<n:=by omega
   have e1:IntKind.wrap .i64 ((n:Int)-1)=((n-1:Nat):Int):=by rw[wrap_id (by omega) (by omega)];omega
   have hp1:=two_pow_pos (n-1)
   have hp1':(2:Int)^(n-1)≤2^15:=pow_le (by omega)
   rw[e1,shl_of (k:=n-1) (by omega) (by omega) (by omega),shl_of (k:=n) (by omega) (by omega) (by omega)]
   refine⟨by omega,br_dec (fun h2=>⟨by omega,?_⟩) (fun h2=>?_)⟩
   ·rw[if_pos ⟨hn0,by omega⟩] at hK
    rw[wrap_id (n:=x-_) (by omega) (by omega),wrap_id (by omega) (by omega),Int.one_mul]
    exact hK
   ·rw[if_neg (by omega)] at hK;exact hK
  ·rw[if_neg (by omega)] at hK;exact hK
 refine Tryz.s75 ?_
 unfold Tryz.S75
 refine⟨_,rfl,_,hs'.get 1 (j:=0) rfl rfl,c100 hs' (i:=0) rfl (fun hb=>⟨_,_,rfl,?_⟩) (fun hg H2 hs2'=>⟨_,_,rfl,?_⟩)⟩
 ·intro J hJ
  have hs0:=signM_rng (n:=n) (v:=0) (by omega)
  refine⟨_,rfl,_,unR_ok hs,br_t rfl ⟨_,rfl,unR_fail hs false fun H3 hs3=>hJ H3 ?_⟩⟩
  exact fin 0 R H3 (by omega) (hbad (numJ_bad (by omega) ha) _ H3 (by omega) hs3)
 ·have hs2:=unR_mk hs2'
  rw[Int.toNat_natCast] at hs2 ⊢
  have hr:=numB_rng true B a n
  have hs0:=signM_rng hr
  intro J hJ
  refine⟨_,rfl,_,unR_ok hs2,br_t rfl ⟨_,rfl,unR_fail hs2 true fun H3 hs3=>hJ H3 ?_⟩⟩
  exact fin _ R H3 hr (hR _ (numJ_of (by omega)) (by omega) H3 hs3)
theorem c74{v:Int}(hR:R (.int .i64 (cut16M v)) H):CallsH Tryz.prog 74 #[.int .i64 v] H R:=Tryz.s74 hR
end
end Go.Proofs
namespace Go.Proofs
open Go.Sh
variable {H0 H:Heap} {σ:List Rs} {R:Value→Heap→Prop}
theorem getD_byte{l:List Int}(h: ∀x∈l,0≤x∧x<256)(i:Nat):0≤l.getD i 0∧l.getD i 0<256:=by
 rcases Nat.lt_or_ge i l.length with hi|hi
 ·exact h _ (List.mem_of_getElem? (get_gD l 0 hi))
 ·rw[gD_none l 0 hi];omega
theorem byte_parts'{c:Int}(h:0≤c∧c<256):andI .i64 c 15=c%16∧shrI .i64 c 4=c/16:=by
 obtain⟨n,rfl⟩:=Int.eq_ofNat_of_zero_le h.1
 have:=byte_parts ⟨n,by omega⟩
 simp only at this
 rw[this.1,this.2]
 omega
theorem cut16M_id{v:Int}(h: -32768≤v∧v≤32767):cut16M v=v:=by unfold cut16M;omega
theorem cut16M_rng(v:Int): -32768≤cut16M v∧cut16M v≤32767:=by unfold cut16M;omega
section
variable {u a:Nat} {B:List Int}
structure NumJ(H0:Heap)(σ:List Rs)(u a n:Nat)(B:List Int)(r:Int)(okb:Bool)(a2:Nat)(H:Heap):Prop where
 rng: -32768≤r∧r≤32768
 st:St H0 H (unR u B a2 okb::σ)
 no:okb=false→numJ n ((bitsH B).drop a)=none
 yes:okb=true→numJ n ((bitsH B).drop a)=some (r,(bitsH B).drop a2)
theorem number_join(hs:St H0 H (unR u B a true::σ)){n:Nat}(hn:n≤15):
 CallsH Tryz.prog 75 #[.pointer (some ⟨u,0,none⟩),.int .i64 (n:Nat)] H fun v H'=> ∃r okb a2,v= .int .i64 r∧NumJ H0 σ u a n B r okb a2 H':=
 c75 hs hn (fun hno v H' hv hs'=>⟨v,false,a,rfl,hv,hs',fun _=>hno,nofun⟩) (fun v hyes hv H' hs'=>⟨v,true,_,rfl,hv,hs',nofun,fun _=>hyes⟩)
set_option maxHeartbeats 1000000 in
theorem c37(hs:St H0 H (unR u B a true::σ)){j t0 t1:Nat}{Q:Heap→Prop}{T0 T1:TabJ}(hj:σ[j]?=some (.pers Q))(hT0:TabP H0 Q t0 T0)(hT1:TabP H0 Q t1 T1){la:Int}(hla: -100000≤la∧la≤100000)
 (hbad:blockJ (T0,T1) la ((bitsH B).drop a)=none→ ∀X H' a',X.length=64→St H0 H' (unR u B a' false::σ)→R (.agg (ints X).toArray) H')
 (hR: ∀X a',blockJ (T0,T1) la ((bitsH B).drop a)=some (X,(bitsH B).drop a')→X.length=64→ ∀H',St H0 H' (unR u B a' true::σ)→R (.agg (ints X).toArray) H'):
 CallsH Tryz.prog 37 #[.pointer (some ⟨u,0,none⟩),.agg #[.pointer (some ⟨t0,0,none⟩),.pointer (some ⟨t1,0,none⟩)],.int .i64 la] H R:=by
 obtain⟨res,hres⟩: ∃r,blockJ (T0,T1) la ((bitsH B).drop a)=r:=⟨_,rfl⟩
 rw[hres] at hbad
 simp only[hres] at hR
 unfold blockJ at hres
 simp only at hres
 refine Tryz.s37 ?_
 unfold Tryz.S37
 refine hs.alc fun b4 H1 hs1=>hs1.alc fun b6 H2 hs2=>⟨by decide,by decide,_,hs2.get 1 (j:=0) rfl rfl,?_⟩
 rw[zeroA] at hs2
 have hs2:St H0 H2 (unR u B a true:: .cell b6 (ints (List.replicate 64 0)).toArray 48:: .cell b4 #[.pointer (some ⟨t0,0,none⟩),.pointer (some ⟨t1,0,none⟩)] 98::σ):=hs2.front 2 rfl
 clear hs1
 refine c73 hs2 (j:=j+2) hj hT0 (fun hno H3 a' hs3=>⟨_,rfl,?_⟩) (fun s a' hsy hsl H3 hs3=>⟨_,rfl,?_⟩)
 ·rw[hno] at hres
  simp only at hres
  intro J hJ
  refine br_n (by decide) (hJ H3 ⟨_,rfl,_,unR_ok hs3,br_t rfl ?_⟩)
  exact retA hs3 1 rfl (by simp) fun H4 hs4=>hbad hres.symm _ H4 a' (by simp) ((hs4.del 1).del 1)
 rw[hsy] at hres
 simp only at hres
 have hv:=getD_byte hT0.rng s
 intro J hJ
 by_cases h11:11<T0.2.getD s 0
 ·rw[if_pos h11] at hres
  refine br_y (by omega) ⟨_,rfl,unR_fail hs3 false fun H4 hs4=>hJ H4 ⟨_,rfl,_,unR_ok hs4,br_t rfl ?_⟩⟩
  exact retA hs4 1 rfl (by simp) fun H5 hs5=>hbad hres.symm _ H5 a' (by simp) ((hs5.del 1).del 1)
 rw[if_neg h11] at hres
 refine br_n (by omega) (hJ H3 ⟨_,rfl,_,unR_ok hs3,br_f rfl ?_⟩)
 clear hJ J
 obtain⟨n,hn⟩:=Int.eq_ofNat_of_zero_le hv.1
 rw[hn] at hres h11 ⊢
 rw[Int.toNat_natCast] at hres
 refine(number_join hs3 (by omega)).mono fun w H4 ⟨r,okb,a2,hw,hnum⟩=>⟨r,hw,c74 ⟨_,rfl,by decide,by decide,?_⟩⟩
 obtain⟨hrr,hs4,hno,hyes⟩:=hnum
 have hc:=cut16M_rng (la+r)
 rw[wrap_id (n:=la+r) (by omega) (by omega)]
 refine(hs4.front 1 rfl).putA 0 (j:=0) rfl (by simp) fun H5 hs5=>c15 fun H6 e6=>⟨_,rfl,((hs5.step e6).alc fun b29 H7 hs7=>⟨by rw[intsA_size];rfl,hs7.putAllA 0 rfl (by simp[zigI_len]) fun H8 hs8=>?_⟩)⟩
 have hs8:St H0 H8 (unR u B a2 okb:: .cell b29 (ints zigI).toArray 48:: .cell b6 (ints (zeros64.set 0 (cut16M (la+r)))).toArray 48:: .cell b4 #[.pointer (some ⟨t0,0,none⟩),.pointer (some ⟨t1,0,none⟩)] 98::σ):=hs8.front 2 rfl
 clear hs7 hs5 hs4 hs3 hs2
 intro X hX
 -- the end
 have fin: ∀(H9:Heap) (okb:Bool) (out:List Int) (a3:Nat),out.length=64→St H0 H9 (unR u B a3 okb:: .cell b29 (ints zigI).toArray 48:: .cell b6 (ints out).toArray 48:: .cell b4 #[.pointer (some ⟨t0,0,none⟩),.pointer (some ⟨t1,0,none⟩)] 98::σ)→
  (okb=false→res=none)→(okb=true→res=some (out,(bitsH B).drop a3))→
  ∃v:Array Value,v.size=64∧rowIn H9 ⟨b6,0,none⟩ v∧v.size=64∧stAt H9 ⟨b6,0,none⟩ v.toList fun H'=> ∃re:Array Value,re.size=64∧rowIn H' ⟨b6,0,none⟩ re∧R (.agg re) H':=fun H9 okb out a3 hol hs9 hno hyes=>by
  refine retA (K:=fun re H'=>R (.agg re) H') hs9 2 rfl hol fun H10 hs10=>?_
  have hs10:St H0 H10 (unR u B a3 okb::σ):=((hs10.del 1).del 1).del 1
  cases okb with
  |false=>exact hbad (hno rfl) _ H10 a3 hol hs10
  |true=>exact hR out a3 (hyes rfl) hol H10 hs10
 -- with no more to read
 have stop: ∀(H9:Heap) (out:List Int) (a3:Nat) (k:Int),out.length=64→St H0 H9 (unR u B a3 false:: .cell b29 (ints zigI).toArray 48:: .cell b6 (ints out).toArray 48:: .cell b4 #[.pointer (some ⟨t0,0,none⟩),.pointer (some ⟨t1,0,none⟩)] 98::σ)→
  res=none→X [.int .i64 k] H9:=fun H9 out a3 k hol hs9 hn=>by
  refine hX _ H9 ?_
  intro J hJ
  refine br_dec (fun h=>⟨_,rfl,_,unR_ok hs9,br_f rfl ?_⟩) (fun h=>?_)
  ·exact fin H9 false out a3 hol hs9 (fun _=>hn) (fun h=>by cases h)
  ·exact fin H9 false out a3 hol hs9 (fun _=>hn) (fun h=>by cases h)
 have loop: ∀(m k:Nat) (out:List Int) (a3:Nat) (H9:Heap),64-k≤m→1≤k→k≤64→out.length=64→acJ T1 k out ((bitsH B).drop a3)=res→St H0 H9 (unR u B a3 true:: .cell b29 (ints zigI).toArray 48:: .cell b6 (ints out).toArray 48:: .cell b4 #[.pointer (some ⟨t0,0,none⟩),.pointer (some ⟨t1,0,none⟩)] 98::σ)→X [.int .i64 (k:Nat)] H9:=by
  intro m
  induction m with
  |zero=>
   intro k out a3 H9 hm hk1 hk hol he hs9
   rw[acJ,if_neg (by omega)] at he
   refine hX _ H9 ?_
   intro J hJ
   exact br_n (by omega) (fin H9 true out a3 hol hs9 (fun h=>by cases h) (fun _=>he.symm))
  |succ m ih=>
   intro k out a3 H9 hm hk1 hk hol he hs9
   refine hX _ H9 ?_
   intro J hJ
   by_cases hlt:k<64
   ·rw[acJ,if_pos hlt] at he
    refine br_y (by omega) ⟨_,rfl,_,unR_ok hs9,br_t rfl (hJ H9 ⟨by decide,by decide,_,hs9.get 3 (j:=1) rfl rfl,?_⟩)⟩
    clear hJ J
    refine c73 hs9 (j:=j+3) hj hT1 (fun hno H3 a' hs3=>⟨_,rfl,by decide,?_⟩) (fun s a' hsy hsl H3 hs3=>⟨_,rfl,by decide,?_⟩)
    ·rw[hno] at he
     intro J hJ
     exact⟨_,rfl,_,unR_ok hs3,br_t rfl (fin H3 false out a' hol hs3 (fun _=>he.symm) (fun h=>by cases h))⟩
    ·rw[hsy] at he
     simp only at he
     have hv:=getD_byte hT1.rng s
     generalize T1.2.getD s 0=c at he hv ⊢
     obtain⟨e1,e2⟩:=byte_parts' hv
     rw[e1,e2,wrap_id (n:=(k:Int)+c/16) (by omega) (by omega)]
     intro J hJ
     refine⟨_,rfl,_,unR_ok hs3,br_f rfl (br_eq (fun h0=>?_) (fun h0=>?_))⟩
     ·rw[if_pos h0] at he
      exact fin H3 true out a' hol hs3 (fun h=>by cases h) (fun _=>he.symm)
     ·rw[if_neg h0] at he
      have bad:(10<c%16∨c%16=0∧c/16≠15∨63<k+(c/16).toNat)→ ∃a57:Addr,some (⟨u,0,none⟩:Addr)=some a57∧stAt H3 (.add a57 1) [.bool false] fun H58=> ∃v59:Array Value,v59.size=64∧rowIn H58 ⟨b6,0,none⟩ v59∧v59.size=64∧stAt H58 ⟨b6,0,none⟩ v59.toList fun H60=> ∃re61:Array Value,re61.size=64∧rowIn H60 ⟨b6,0,none⟩ re61∧R (.agg re61) H60:=fun hb=>by
       rw[if_pos hb] at he
       exact⟨_,rfl,unR_fail hs3 false fun H4 hs4=>fin H4 false out a' hol hs4 (fun _=>he.symm) (fun h=>by cases h)⟩
      have good: ¬(10<c%16∨c%16=0∧c/16≠15∨63<k+(c/16).toNat)→J [] H3:=fun hb=>by
       rw[if_neg hb] at he
       refine hJ H3 (br_dec (fun hc0=>?_) (fun hc0=>?_))
       ·rw[if_neg (by omega)] at he
        have hk2:k+(c/16).toNat<64:=by omega
        obtain⟨n2,hn2⟩:=Int.eq_ofNat_of_zero_le (show 0≤c%16 by omega)
        rw[hn2] at he ⊢
        rw[Int.toNat_natCast] at he
        have ek:(k:Int)+c/16=((k+(c/16).toNat:Nat):Int):=by omega
        rw[ek]
        have hz:=zigI_get hk2
        have hzl:=zig_lt hk2
        refine⟨by omega,by omega,((zig (k+(c/16).toNat):Nat):Int),?_,(number_join hs3 (by omega)).mono fun w H4 ⟨r2,okb2,a4,hw,hnum⟩=>⟨r2,hw,.inr ⟨((zig (k+(c/16).toNat):Nat):Int),?_,rfl⟩,by omega,by omega,?_⟩⟩
        ·rw[add_none,Nat.zero_add,Int.toNat_natCast,Nat.mul_one];exact hs3.rdA 1 rfl hz
        ·rw[add_none,Nat.zero_add,Int.toNat_natCast,Nat.mul_one];exact hnum.st.rdA 1 rfl hz
        ·rw[add_none,Nat.zero_add,Int.toNat_natCast,Nat.mul_one,wrap_id (by omega) (by omega)]
         refine hnum.st.putA 2 rfl (by rw[hol];exact hzl) fun H5 hs5=>?_
         cases okb2 with
         |false=>
          rw[hnum.no rfl] at he
          exact stop H5 _ a4 _ (by rw[List.length_set];exact hol) hs5 he.symm
         |true=>
          rw[hnum.yes rfl] at he
          simp only at he
          rw[show((k+(c/16).toNat:Nat):Int)+1=((k+(c/16).toNat+1:Nat):Int) by omega]
          exact ih _ _ a4 H5 (by omega) (by omega) (by omega) (by rw[List.length_set];exact hol) he hs5
       ·rw[if_pos (by omega)] at he
        rw[wrap_id (by omega) (by omega),show(k:Int)+c/16+1=((k+(c/16).toNat+1:Nat):Int) by omega]
        exact ih _ out a' H3 (by omega) (by omega) (by omega) hol he hs3
      refine br_dec (fun h1=>bad (by omega)) (fun h1=>br_eq (fun h2=>br_ne (fun h3=>bad (by omega)) (fun h3=>br_dec (fun h4=>bad (by omega)) (fun h4=>good (by omega)))) (fun h2=>br_dec (fun h4=>bad (by omega)) (fun h4=>good (by omega))))
   ·rw[acJ,if_neg hlt] at he
    exact br_n (by omega) (fin H9 true out a3 hol hs9 (fun h=>by cases h) (fun _=>he.symm))
 cases okb with
 |false=>
  rw[hno rfl] at hres
  exact stop H8 _ a2 _ (by rw[List.length_set,zeros64_len]) hs8 hres.symm
 |true=>
  rw[hyes rfl] at hres
  exact loop 63 1 _ a2 H8 (by omega) (by omega) (by omega) (by rw[List.length_set,zeros64_len]) hres hs8
end
end Go.Proofs
namespace Go.Proofs
open Go.Sh
variable {H0 H:Heap} {σ:List Rs} {R:Value→Heap→Prop}
def tabV(n:Nat)(f:Nat→Value):Array Value:=((List.range n).map f).toArray
theorem tabV_size(n:Nat)(f:Nat→Value):(tabV n f).size=n:=by simp[tabV]
theorem tabV_get{n j:Nat}{f:Nat→Value}(h:j<n):(tabV n f)[j]?=some (f j):=by simp[tabV,h]
def updV(f:Nat→Value)(j:Nat)(v:Value):Nat→Value:=fun i=>if i=j then v else f i
theorem updV_at(f:Nat→Value)(j:Nat)(v:Value):updV f j v j=v:=if_pos rfl
theorem updV_ne{f:Nat→Value}{i j:Nat}{v:Value}(h:i≠j):updV f j v i=f i:=if_neg h
theorem tabV_set{n j:Nat}{f:Nat→Value}{v:Value}(h:j<n):(tabV n f).setIfInBounds j v=tabV n (updV f j v):=by
 refine Array.ext_getElem? fun i=>?_
 rw[Array.getElem?_setIfInBounds,tabV_size]
 rcases Nat.lt_or_ge i n with hi|hi
 ·rw[tabV_get hi,tabV_get hi]
  by_cases e:j=i
  ·subst e;rw[if_pos rfl,if_pos h,updV_at]
  ·rw[if_neg e,updV_ne (Ne.symm e)]
 ·rw[if_neg (by omega),Array.getElem?_eq_none (by rw[tabV_size];exact hi),Array.getElem?_eq_none (by rw[tabV_size];exact hi)]
theorem updV_one{f:Nat→Value}(h: ∀i,(f i).oneCell'=true){j:Nat}{v:Value}(hv:v.oneCell'=true): ∀i,(updV f j v i).oneCell'=true:=fun i=>by
 unfold updV;split
 ·exact hv
 ·exact h i
theorem tabV_one{n:Nat}{f:Nat→Value}(h: ∀i,(f i).oneCell'=true): ∀v∈(tabV n f).toList,v.oneCell'=true:=fun v hv=>by
 simp only[tabV,List.mem_map,List.mem_range] at hv
 obtain⟨i,_,rfl⟩:=hv
 exact h i
theorem getV(hs:St H0 H σ)(i:Nat){b n j:Nat}{f:Nat→Value}{ty:TypeId}(hi:σ[i]?=some (.cell b (tabV n f) ty))(hj:j<n):cell H ⟨b,j,none⟩=some (f j):=hs.get i hi (tabV_get hj)
theorem putV(hs:St H0 H σ)(i:Nat){b n j:Nat}{f:Nat→Value}{ty:TypeId}{v:Value}{K:Heap→Prop}(hi:σ[i]?=some (.cell b (tabV n f) ty))(hj:j<n)(ho:v.oneCell'=true)
 (hK: ∀H',St H0 H' (σ.set i (.cell b (tabV n (updV f j v)) ty))→K H'):stAt H ⟨b,j,none⟩ [v] K:=
 hs.put i hi (by rw[tabV_size];exact hj) ho fun H' hs'=>hK H' (by rw[tabV_set hj] at hs';exact hs')
structure SlB(H:Heap)(p:Option Addr)(l c:Nat)(b:List Int):Prop where
 is:IS H p l (kints .u8 b)
 le:l≤c
 rng: ∀x∈b,0≤x∧x<256
theorem SlB.len{p:Option Addr}{l c:Nat}{b:List Int}(h:SlB H p l c b):b.length=l:=h.is.length
theorem IS.zero(H:Heap)(p:Option Addr):IS H p 0 []:=⟨rfl,fun i v h=>by simp at h⟩
theorem SlB.cut{p:Option Addr}{l c:Nat}{b:List Int}(h:SlB H p l c b){m n:Nat}(hm:m≤n)(hn:n≤l):SlB H (if c=m then p else Option.map (fun x=>Addr.add x (m*1)) p) (n-m) (c-m) ((b.take n).drop m):=by
 have hl:=h.len
 refine⟨?_,by have:=h.le;omega,fun x hx=>h.rng x (List.mem_of_mem_take (List.mem_of_mem_drop hx))⟩
 have he:(b.take n).drop m=(b.drop m).take (n-m):=by rw[List.take_drop,show m+(n-m)=n by omega]
 rw[he]
 split
 ·have hle:=h.le
  have:n-m=0:=by omega
  rw[this,List.take_zero]
  exact IS.zero _ _
 ·cases p with
  |none=>
   have:l=0:=by
    rcases Nat.eq_zero_or_pos l with h0|h0
    ·exact h0
    ·obtain⟨a,ha,_⟩:=h.is.get 0 _ (kints_get (get_gD b 0 (by omega)));cases ha
   have:n-m=0:=by omega
   rw[this,List.take_zero]
   exact IS.zero _ _
  |some a=>
   have:=h.is.part (i:=m) (n:=n-m) (by omega)
   simp only[Option.map_some,Nat.mul_one]
   rw[show kints .u8 ((b.drop m).take (n-m))=((kints .u8 b).drop m).take (n-m) by simp[kints,List.map_drop,List.map_take]]
   exact this
theorem SlB.from_{p:Option Addr}{l c:Nat}{b:List Int}(h:SlB H p l c b){m:Nat}(hm:m≤l):SlB H (if c=m then p else Option.map (fun x=>Addr.add x (m*1)) p) (l-m) (c-m) (b.drop m):=by
 have:=h.cut hm (Nat.le_refl l)
 rwa [List.take_of_length_le (by rw[h.len];exact Nat.le_refl _)] at this
theorem SlB.rd{p:Option Addr}{l c:Nat}{b:List Int}(h:SlB H0 p l c b)(he:Ext H0 H){i:Int}(h0:0≤i)(h1:i<l){K:Int→Prop}(hK:K (b.getD i.toNat 0)):
 ∃a:Addr,p=some a∧0≤i∧i<((l:Nat):Int)∧ ∃v:Int,Sh.cell H (Addr.add a (Int.toNat i*1))=some (.int .u8 v)∧K v:=
 (h.is.ext he).rd h0 h1 (get_gD b 0 (by rw[h.len];omega)) hK
theorem SlB.byte{p:Option Addr}{l c:Nat}{b:List Int}(h:SlB H p l c b)(i:Nat):0≤b.getD i 0∧b.getD i 0<256:=getD_byte h.rng i
theorem big2{x y:Int}(hx:0≤x∧x<256)(hy:0≤y∧y<256):orI .i64 (shlI .i64 (IntKind.wrap .i64 x) (8:Int)) (IntKind.wrap .i64 y)=x*256+y:=by
 rw[wrap_id (n:=x) (by omega) (by omega),wrap_id (n:=y) (by omega) (by omega)]
 have e8:(2:Int)^8=256:=by decide
 have:=shl_of (x:=x) (k:=8) hx.1 (by omega) (by omega)
 rw[show((8:Nat):Int)=8 from rfl] at this
 rw[this,or_sum' (a:=y) (b:=x) (k:=8) hy.1 (by omega) hx.1 (by omega)]
 omega
structure JrP(H0:Heap)(Q:Heap→Prop)(f:Nat→Value)(p:Option Addr)(l c:Nat)(s:Jst):Prop where
 b:f 0= .slice p l c
 W:f 1= .int .i64 s.W
 Ht:f 2= .int .i64 s.Ht
 rgb:f 3= .slice none 0 0
 half:f 4= .bool s.half
 bl:f 5= .slice none 0 0
 seen:f 6= .bool s.seen
 wh: ∀k,k<3→s.wh.getD k 0<4∧f (7+k)= .int .i64 (s.wh.getD k 0:Nat)
 st: ∀k,k<4→(s.st.getD k none=none∧f (10+k)= .pointer none)∨ ∃L b,s.st.getD k none=some L∧L.length=64∧(∀i,i<64→1≤L.getD i 0∧L.getD i 0≤255)∧f (10+k)= .pointer (some ⟨b,0,none⟩)∧ ∀H,Q H→H[b]?=some (.cells (ints L).toArray 48)
 cd: ∀k,k<8→(s.cd.getD k none=none∧f (14+k)= .pointer none)∨ ∃T t,s.cd.getD k none=some T∧f (14+k)= .pointer (some ⟨t,0,none⟩)∧TabP H0 Q t T
 stl:s.st.length=4
 cdl:s.cd.length=8
 one: ∀i,(f i).oneCell'=true
def jrR(H0:Heap)(r:Nat)(p:Option Addr)(l c:Nat)(s:Jst):Rs:= .ex fun(x:(Nat→Value)×(Heap→Prop))=> .pu (JrP H0 x.2 x.1 p l c s) (.star (.cell r (tabV 22 x.1) 97) (.pers x.2))
section
variable {r l c:Nat} {p:Option Addr} {s:Jst} {b:List Int}
theorem jrR_op(hs:St H0 H (jrR H0 r p l c s::σ)): ∃f Q,JrP H0 Q f p l c s∧St H0 H (.cell r (tabV 22 f) 97:: .pers Q::σ):=by
 obtain⟨⟨f,Q⟩,hs⟩:=hs.unex
 obtain⟨h,hs⟩:=hs.fact
 exact⟨f,Q,h,hs.cut⟩
theorem jrR_mk{f:Nat→Value}{Q:Heap→Prop}(h:JrP H0 Q f p l c s)(hs:St H0 H (.cell r (tabV 22 f) 97:: .pers Q::σ)):St H0 H (jrR H0 r p l c s::σ):=
 St.inex (f:=fun(x:(Nat→Value)×(Heap→Prop))=> .pu (JrP H0 x.2 x.1 p l c s) (.star (.cell r (tabV 22 x.1) 97) (.pers x.2))) (f,Q) (St.with h hs.cat)
theorem jrR_b(hs:St H0 H (jrR H0 r p l c s::σ)):cell H ⟨r,0,none⟩=some (.slice p l c):=by
 obtain⟨f,Q,h,hs⟩:=jrR_op hs
 rw[getV hs 0 rfl (by omega),h.b]
theorem TabP.mono{Q Q':Heap→Prop}{t:Nat}{T:TabJ}(h:TabP H0 Q t T)(hq: ∀H,Q' H→Q H):TabP H0 Q' t T:=by
 obtain⟨h1,h2,d,q,c,P,F,h3,h4,h5,h6⟩:=h
 exact⟨h1,h2,d,q,c,P,F,h3,h4,h5,fun H h=>h6 H (hq H h)⟩
theorem JrP.setB{Q:Heap→Prop}{f:Nat→Value}(h:JrP H0 Q f p l c s)(p':Option Addr)(l' c':Nat):JrP H0 Q (updV f 0 (.slice p' l' c')) p' l' c' s where
 b:=updV_at _ _ _
 W:=by rw[updV_ne (by omega)];exact h.W
 Ht:=by rw[updV_ne (by omega)];exact h.Ht
 rgb:=by rw[updV_ne (by omega)];exact h.rgb
 half:=by rw[updV_ne (by omega)];exact h.half
 bl:=by rw[updV_ne (by omega)];exact h.bl
 seen:=by rw[updV_ne (by omega)];exact h.seen
 wh k hk:=by rw[updV_ne (by omega)];exact h.wh k hk
 st k hk:=by rw[updV_ne (by omega)];exact h.st k hk
 cd k hk:=by rw[updV_ne (by omega)];exact h.cd k hk
 stl:=h.stl
 cdl:=h.cdl
 one:=updV_one h.one rfl
theorem jrR_putB(hs:St H0 H (jrR H0 r p l c s::σ))(p':Option Addr)(l' c':Nat){K:Heap→Prop}(hK: ∀H',St H0 H' (jrR H0 r p' l' c' s::σ)→K H'):stAt H ⟨r,0,none⟩ [.slice p' l' c'] K:=by
 obtain⟨f,Q,h,hs⟩:=jrR_op hs
 exact putV hs 0 rfl (by omega) rfl fun H' hs'=>hK H' (jrR_mk (h.setB p' l' c') hs')
theorem c68(hs:St H0 H (jrR H0 r p l c s::σ))(hb:SlB H0 p l c b)
 (hbad:segM b=none→ ∀H',St H0 H' σ→R (.tuple #[.slice none 0 0,.bool false]) H')
 (hR: ∀d rest p1 l1 c1 p2 l2 c2,segM b=some (d,rest)→SlB H0 p1 l1 c1 d→SlB H0 p2 l2 c2 rest→ ∀H',St H0 H' (jrR H0 r p2 l2 c2 s::σ)→R (.tuple #[.slice p1 l1 c1,.bool true]) H'):
 CallsH Tryz.prog 68 #[.pointer (some ⟨r,0,none⟩)] H R:=by
 have hl:=hb.len
 have hle:=hb.le
 have hB:=jrR_b hs
 unfold segM at hbad hR
 rw[hl] at hbad hR
 refine Tryz.s68 ⟨_,rfl,_,_,_,hB,br_dec (fun h=>?_) (fun h=>⟨_,rfl,_,_,_,hB,?_⟩)⟩
 ·rw[if_pos (by omega)] at hbad;exact hbad rfl H hs.tail
 rw[if_neg (by omega)] at hbad
 refine hb.rd hs.ext (by omega) (by omega) ⟨by omega,_,rfl,_,_,_,hB,?_⟩
 refine hb.rd hs.ext (by omega) (by omega) ?_
 have b0:=hb.byte 0
 have b1:=hb.byte 1
 rw[show Int.toNat 0=0 from rfl,show Int.toNat 1=1 from rfl,big2 b0 b1]
 generalize hn:b.getD 0 0*256+b.getD 1 0=n at hbad hR ⊢
 have hn0:0≤n:=by omega
 intro J hJ
 refine br_dec (fun h2=>?_) (fun h2=>⟨_,rfl,_,_,_,hB,br_dec (fun h3=>?_) (fun h3=>hJ H ⟨_,rfl,_,_,_,hB,hn0,by omega,by omega,by omega,_,rfl,_,_,_,hB,hn0,by omega,_,rfl,?_⟩)⟩)
 ·rw[if_pos (by omega)] at hbad;exact hbad rfl H hs.tail
 ·rw[if_pos (by omega)] at hbad;exact hbad rfl H hs.tail
 ·refine jrR_putB hs _ _ _ fun H' hs'=>?_
  rw[if_neg (by omega),if_neg (by omega)] at hR
  have h1:=hb.cut (m:=2) (n:=n.toNat) (by omega) (by omega)
  have h2:=hb.from_ (m:=n.toNat) (by omega)
  exact hR _ _ _ _ _ _ _ _ rfl h1 h2 H' hs'
theorem JrP.setT{Q:Heap→Prop}{f:Nat→Value}(h:JrP H0 Q f p l c s){k t:Nat}{L:List Int}(hk:k<4)(hL:L.length=64)(hr: ∀i,i<64→1≤L.getD i 0∧L.getD i 0≤255):
 JrP H0 (fun H=>Q H∧H[t]?=some (.cells (ints L).toArray 48)) (updV f (10+k) (.pointer (some ⟨t,0,none⟩))) p l c {s with st:=s.st.set k (some L)} where
 b:=by rw[updV_ne (by omega)];exact h.b
 W:=by rw[updV_ne (by omega)];exact h.W
 Ht:=by rw[updV_ne (by omega)];exact h.Ht
 rgb:=by rw[updV_ne (by omega)];exact h.rgb
 half:=by rw[updV_ne (by omega)];exact h.half
 bl:=by rw[updV_ne (by omega)];exact h.bl
 seen:=by rw[updV_ne (by omega)];exact h.seen
 wh k hk:=by rw[updV_ne (by omega)];exact h.wh k hk
 st j hj:=by
  have hsl:=h.stl
  rw[getD_set_ite _ _ _ _ _ (by omega)]
  by_cases e:k=j
  ·subst e
   rw[if_pos rfl,updV_at]
   exact .inr ⟨L,t,rfl,hL,hr,rfl,fun H hQ=>hQ.2⟩
  ·rw[if_neg e,updV_ne (by omega)]
   rcases h.st j hj with h1|⟨L',b',h1,h2,h3,h4,h5⟩
   ·exact .inl h1
   ·exact .inr ⟨L',b',h1,h2,h3,h4,fun H hQ=>h5 H hQ.1⟩
 cd j hj:=by
  rw[updV_ne (by omega)]
  rcases h.cd j hj with h1|⟨T,t',h1,h2,h3⟩
  ·exact .inl h1
  ·exact .inr ⟨T,t',h1,h2,h3.mono fun H hQ=>hQ.1⟩
 stl:=by simp[h.stl]
 cdl:=h.cdl
 one:=updV_one h.one rfl
theorem c69(hs:St H0 H (jrR H0 r p l c s::σ)){d:List Int}{dp:Option Addr}{dl dc:Nat}(hd:SlB H0 dp dl dc d)(hdl:dl≤1000000000)
 (hbad:stepsD d s.st=none→ ∀H',St H0 H' σ→R (.bool false) H')
 (hR: ∀S,stepsD d s.st=some S→ ∀H',St H0 H' (jrR H0 r p l c {s with st:=S}::σ)→R (.bool true) H'):
 CallsH Tryz.prog 69 #[.pointer (some ⟨r,0,none⟩),.slice dp dl dc] H R:=by
 obtain⟨res,hres⟩: ∃x,stepsD d s.st=x:=⟨_,rfl⟩
 rw[hres] at hbad
 simp only[hres] at hR
 refine Tryz.s69 ?_
 unfold Tryz.S69
 refine c15 fun H1 e1=>⟨_,rfl,(hs.step e1).alc fun b6 H2 hs2=>⟨by rw[intsA_size];rfl,hs2.putAllA 0 rfl (by simp[zigI_len]) fun H3 hs3=>?_⟩⟩
 have hs3:St H0 H3 (jrR H0 r p l c s:: .cell b6 (ints zigI).toArray 48::σ):=hs3.swap
 clear hs2
 intro X hX
 have loop: ∀(m:Nat) (d:List Int) (dp:Option Addr) (dl dc:Nat) (S:StepsT) (H4:Heap),d.length≤m→SlB H0 dp dl dc d→dl≤1000000000→stepsD d S=res→St H0 H4 (jrR H0 r p l c {s with st:=S}:: .cell b6 (ints zigI).toArray 48::σ)→X [.slice dp dl dc] H4:=by
  intro m
  induction m with
  |zero=>
   intro d dp dl dc S H4 hm hd hdl he hs4
   have hl:=hd.len
   rw[stepsD,if_pos (List.length_eq_zero_iff.1 (by omega))] at he
   exact hX _ _ _ H4 (br_n (by omega) (hR S he.symm H4 (hs4.del 1)))
  |succ m ih=>
   intro d dp dl dc S H4 hm hd hdl he hs4
   have hl:=hd.len
   by_cases h0:dl=0
   ·rw[stepsD,if_pos (List.length_eq_zero_iff.1 (by omega))] at he
    exact hX _ _ _ H4 (br_n (by omega) (hR S he.symm H4 (hs4.del 1)))
   have hd0:d≠[]:=fun h=>by rw[h] at hl;exact h0 hl.symm
   rw[stepsD,if_neg hd0] at he
   refine hX _ _ _ H4 (br_y (by omega) ?_)
   intro J hJ
   have no: ¬okT d→ ∀H',St H0 H' σ→R (.bool false) H':=fun hn=>by
    rw[dif_neg hn] at he
    exact hbad he.symm
   refine br_dec (fun h65=>no (fun h=>by have:=h.1;omega) H4 hs4.tail.tail) (fun h65=>hd.rd hs4.ext (by omega) (by omega) (br_dec (fun h3=>no (fun h=>by have:=h.2.1;rw[show Int.toNat 0=0 from rfl] at h3;omega) H4 hs4.tail.tail) (fun h3=>hJ H4 ?_)))
   rw[show Int.toNat 0=0 from rfl] at h3
   refine hs4.alc fun b14 H5 hs5=>⟨(ints zigI).toArray,by rw[intsA_size];rfl,rowIn_whole (hs5.block 2 rfl),?_⟩
   rw[zeroA] at hs5
   intro Y hY
   have go: ∀i,i≤64→(∀k,k<i→d.getD (1+k) 0≠0)→ ∀H6,St H0 H6 (.cell b14 (ints (spread zeros64 (d.drop 1) i)).toArray 48::jrR H0 r p l c {s with st:=S}:: .cell b6 (ints zigI).toArray 48::σ)→Y [.int .i64 (i:Nat)] H6:=upto fun i hi ihi hnz H6 hs6=>by
    refine hY _ H6 (br_dec (fun hlt=>?_) (fun hge=>?_))
    ·have hlt:i<64:=by omega
     have hz:=zigI_get hlt
     have hzl:=zig_lt hlt
     have hwi:IntKind.wrap .i64 ((1:Int)+(i:Nat))=((1+i:Nat):Int):=by rw[wrap_id (by omega) (by omega)];omega
     rw[hwi]
     refine⟨by omega,by omega,((zig i:Nat):Int),by rw[Int.toNat_natCast,Nat.mul_one,List.getElem?_toArray];exact ints_get hz,hd.rd hs6.ext (by omega) (by omega) ⟨by omega,by omega,?_⟩⟩
     have hbt:=hd.byte (1+i)
     rw[add_none,Nat.zero_add,Int.toNat_natCast,Int.toNat_natCast,Nat.mul_one,wrap_id (by omega) (by omega)]
     have hsl:(spread zeros64 (d.drop 1) i).length=64:=by rw[spread_len,zeros64_len]
     refine hs6.putA 0 rfl (by omega) fun H7 hs7=>⟨by omega,by omega,d.getD (1+i) 0,?_,br_eq (fun hz0=>?_) (fun hz0=>?_)⟩
     ·exact hs7.rdA 0 rfl (List.getElem?_set_self (by omega))
     ·exact no (fun h=>h.2.2 i hlt hz0) H7 hs7.tail.tail.tail
     ·rw[w1 (by omega)]
      refine ihi hlt (fun k hk=>?_) H7 ?_
      ·rcases Nat.lt_or_ge k i with h|h
       ·exact hnz k h
       ·rw[show k=i by omega];exact hz0
      ·have e:(d.drop 1).getD i 0=d.getD (1+i) 0:=by rw[List.getD_eq_getElem?_getD,List.getElem?_drop,←List.getD_eq_getElem?_getD]
       rw[←e] at hs7
       exact hs7
    ·have:i=64:=by omega
     subst this
     have hok:okT d:=⟨by omega,by omega,hnz⟩
     rw[dif_pos hok] at he
     have b0:=hd.byte 0
     refine hd.rd hs6.ext (by omega) (by omega) ⟨_,rfl,?_⟩
     rw[show Int.toNat 0=0 from rfl]
     obtain⟨k,hk⟩:=Int.eq_ofNat_of_zero_le b0.1
     rw[hk] at he h3 ⊢
     rw[Int.toNat_natCast] at he
     refine⟨by omega,by omega,?_⟩
     rw[add_none,add_none,Nat.zero_add,Int.toNat_natCast,Nat.mul_one]
     have hs6:=hs6.swap
     obtain⟨f,Q,hJr,hs7⟩:=jrR_op hs6
     refine putV hs7 0 rfl (by omega) rfl fun H8 hs8=>⟨by omega,by omega,?_⟩
     have hsl:(spread zeros64 (d.drop 1) 64).length=64:=by rw[spread_len,zeros64_len]
     have hrng: ∀i,i<64→1≤(spread zeros64 (d.drop 1) 64).getD i 0∧(spread zeros64 (d.drop 1) 64).getD i 0≤255:=fun i hi=>by
      rw[spread_get _ _ zeros64_len 64 (by omega) i hi,if_pos (zag_lt hi),List.getD_eq_getElem?_getD,List.getElem?_drop,←List.getD_eq_getElem?_getD]
      have h1:=hnz _ (zag_lt hi)
      have h2:=hd.byte (1+zag i)
      omega
     have hs9:St H0 H8 (.pers Q:: .cell b14 (ints (spread zeros64 (d.drop 1) 64)).toArray 48:: .cell r (tabV 22 (updV f (10+k) (.pointer (some ⟨b14,0,none⟩)))) 97:: .cell b6 (ints zigI).toArray 48::σ):=by
      refine hs8.perm ?_
      exact(List.Perm.swap _ _ _).trans (List.Perm.cons _ (List.Perm.swap _ _ _))
     have hs10:=St.persOf (τ:=[.pers Q,.cell b14 (ints (spread zeros64 (d.drop 1) 64)).toArray 48]) (Q:=fun H=>Q H∧H[b14]?=some (.cells (ints (spread zeros64 (d.drop 1) 64)).toArray 48)) hs9 fun H' hs'=>⟨hs'.persGet 0 rfl,hs'.block 1 rfl⟩
     have hs11:=jrR_mk (hJr.setT (k:=k) (t:=b14) (by omega) hsl hrng) hs10.swap
     refine ih (d.drop 65) _ _ _ _ H8 (by rw[List.length_drop];omega) (hd.from_ (m:=65) (by omega)) (by omega) he hs11
   exact go 0 (by omega) (fun k hk=>by omega) H5 hs5
 exact loop d.length d dp dl dc s.st H3 (Nat.le_refl _) hd hdl hres hs3
end
end Go.Proofs
namespace Go.Proofs
open Go.Sh
variable {H0 H:Heap} {σ:List Rs} {R:Value→Heap→Prop}
theorem cut_get{d:List Int}{m n j:Nat}(h:m+j<n):((d.take n).drop m).getD j 0=d.getD (m+j) 0:=by
 rw[List.getD_eq_getElem?_getD,List.getElem?_drop,List.getElem?_take,if_pos h,←List.getD_eq_getElem?_getD]
theorem wr8{x:Int}(h:0≤x∧x<256):IntKind.wrap .u8 x=x:=by simp[IntKind.wrap,IntKind.bits,IntKind.signed];omega
theorem byte_parts8: ∀s:Fin 256,andI .u8 (s.val:Int) 15=((s.val%16:Nat):Int)∧shrI .u8 (s.val:Int) 4=((s.val/16:Nat):Int):=by decide+kernel
theorem byte_parts8'{c:Int}(h:0≤c∧c<256):andI .u8 c 15=c%16∧shrI .u8 c 4=c/16:=by
 obtain⟨n,rfl⟩:=Int.eq_ofNat_of_zero_le h.1
 have:=byte_parts8 ⟨n,by omega⟩
 simp only at this
 rw[this.1,this.2]
 omega
section
variable {r l c:Nat} {p:Option Addr} {s:Jst} {b:List Int}
theorem JrP.setS{Q:Heap→Prop}{f f':Nat→Value}(h:JrP H0 Q f p l c s){W Ht:Int}{half seen:Bool}{wh:List Nat}(hf: ∀i,(i=0∨i=3∨i=5∨10≤i)→f' i=f i)(h1:f' 1= .int .i64 W)(h2:f' 2= .int .i64 Ht)(h4:f' 4= .bool half)(h6:f' 6= .bool seen)
 (hw: ∀k,k<3→wh.getD k 0<4∧f' (7+k)= .int .i64 (wh.getD k 0:Nat))(ho: ∀i,(f' i).oneCell'=true):JrP H0 Q f' p l c {s with W:=W,Ht:=Ht,seen:=seen,half:=half,wh:=wh} where
 b:=by rw[hf _ (by omega)];exact h.b
 W:=h1
 Ht:=h2
 rgb:=by rw[hf _ (by omega)];exact h.rgb
 half:=h4
 bl:=by rw[hf _ (by omega)];exact h.bl
 seen:=h6
 wh:=hw
 st k hk:=by rw[hf _ (by omega)];exact h.st k hk
 cd k hk:=by rw[hf _ (by omega)];exact h.cd k hk
 stl:=h.stl
 cdl:=h.cdl
 one:=ho
theorem wh_get{d:List Int}{k:Nat}(hk:k<3):((List.range 3).map fun k=>(d.getD (8+3*k) 0).toNat).getD k 0=(d.getD (8+3*k) 0).toNat:=by
 rw[List.getD_eq_getElem?_getD,List.getElem?_map,List.getElem?_range hk];rfl
set_option maxHeartbeats 1000000 in
theorem c70(hs:St H0 H (jrR H0 r p l c s::σ)){d:List Int}{dp:Option Addr}{dl dc:Nat}(hd:SlB H0 dp dl dc d)
 (hbad:sizesM d s=none→ ∀H',St H0 H' σ→R (.bool false) H')
 (hR: ∀s',sizesM d s=some s'→ ∀H',St H0 H' (jrR H0 r p l c s'::σ)→R (.bool true) H'):
 CallsH Tryz.prog 70 #[.pointer (some ⟨r,0,none⟩),.slice dp dl dc] H R:=by
 have hl:=hd.len
 have hle:=hd.le
 obtain⟨f0,Q,hJr,hs0⟩:=jrR_op hs
 have no: ¬(s.seen=false∧d.length=15∧d.getD 0 0=8∧d.getD 5 0=3∧(∀k,k<3→partOk d k)∧SizedM (d.getD 3 0*256+d.getD 4 0) (d.getD 1 0*256+d.getD 2 0))→ ∀H',St H0 H' σ→R (.bool false) H':=fun hn=>hbad (by unfold sizesM;rw[if_neg hn])
 refine Tryz.s70 ?_
 unfold Tryz.S70
 intro J hJ
 refine⟨_,rfl,s.seen,by rw[←hJr.seen];exact getV hs0 0 (j:=6) rfl (by omega),?_⟩
 cases hseen:s.seen with
 |true=>exact br_t rfl (no (fun h=>by rw[hseen] at h;cases h.1) H hs.tail)
 |false=>
 refine br_f rfl (br_ne (fun h=>no (fun hh=>by omega) H hs.tail) (fun h15=>?_))
 have h15:dl=15:=by omega
 subst h15
 have hrd: ∀{H':Heap} {i:Nat},Ext H0 H'→i<15→ ∀{K:Int→Prop},K (d.getD i 0)→ ∃a:Addr,dp=some a∧0≤(i:Int)∧(i:Int)<((15:Nat):Int)∧ ∃v:Int,Sh.cell H' (Addr.add a (Int.toNat (i:Int)*1))=some (.int .u8 v)∧K v:=fun{H'} {i} he hi {K} hK=>hd.rd he (i:=(i:Int)) (by omega) (by omega) (by rw[Int.toNat_natCast];exact hK)
 refine hrd hs.ext (i:=0) (by omega) (br_ne (fun h=>no (fun hh=>by omega) H hs.tail) (fun h8=>hrd hs.ext (i:=5) (by omega) (br_ne (fun h=>no (fun hh=>by omega) H hs.tail) (fun h3=>hJ H ⟨_,rfl,?_⟩))))
 refine putV hs0 0 (j:=6) rfl (by omega) rfl fun H1 hs1=>?_
 refine hrd hs1.ext (i:=1) (by omega) ⟨by decide,hrd hs1.ext (i:=2) (by omega) (hrd hs1.ext (i:=3) (by omega) ⟨by decide,hrd hs1.ext (i:=4) (by omega) ⟨_,rfl,?_⟩⟩)⟩
 rw[big2 (hd.byte 1) (hd.byte 2),big2 (hd.byte 3) (hd.byte 4)]
 have hb1:=hd.byte 1
 have hb2:=hd.byte 2
 have hb3:=hd.byte 3
 have hb4:=hd.byte 4
 refine putV hs1 0 (j:=2) rfl (by omega) rfl fun H2 hs2=>⟨_,rfl,?_⟩
 refine putV hs2 0 (j:=1) rfl (by omega) rfl fun H3 hs3=>?_
 intro X hX
 have loop: ∀k,k≤3→(∀j,j<k→partOk d j)→ ∀(f:Nat→Value) (H4:Heap),(∀i,(i=0∨i=3∨i=4∨i=5∨10≤i)→f i=f0 i)→f 1= .int .i64 (d.getD 3 0*256+d.getD 4 0)→f 2= .int .i64 (d.getD 1 0*256+d.getD 2 0)→f 6= .bool true→
  (∀j,j<k→f (7+j)= .int .i64 (d.getD (8+3*j) 0))→(∀i,(f i).oneCell'=true)→St H0 H4 (.cell r (tabV 22 f) 97:: .pers Q::σ)→X [.int .i64 (k:Nat)] H4:=upto fun k hk ih hpk f H4 hf h1 h2 h6 hw ho hs4=>by
  have nk: ¬partOk d k→k<3→ ∀H',St H0 H' σ→R (.bool false) H':=fun hn hk=>no fun hh=>hn (hh.2.2.2.2.1 k hk)
  refine hX _ H4 (br_dec (fun hlt=>?_) (fun hge=>?_))
  ·have hlt:k<3:=by omega
   have w3:IntKind.wrap .i64 ((3:Int)*(k:Nat))=((3*k:Nat):Int):=by rw[wrap_id (by omega) (by omega)];omega
   have w9:IntKind.wrap .i64 ((9:Int)+((3*k:Nat):Int))=((9+3*k:Nat):Int):=by rw[wrap_id (by omega) (by omega)];omega
   have w6:IntKind.wrap .i64 ((6:Int)+((3*k:Nat):Int))=((6+3*k:Nat):Int):=by rw[wrap_id (by omega) (by omega)];omega
   rw[w3,w9,w6,Int.toNat_natCast,Int.toNat_natCast]
   refine⟨by omega,by omega,by omega,by omega,?_⟩
   have hp:=hd.cut (m:=6+3*k) (n:=9+3*k) (by omega) (by omega)
   have hq: ∀{H':Heap} {j:Nat},Ext H0 H'→j<3→ ∀{K:Int→Prop},K (d.getD (6+3*k+j) 0)→_:=fun{H'} {j} he hj {K} hK=>hp.rd (H:=H') he (i:=(j:Int)) (by omega) (by omega) (K:=K) (by rw[Int.toNat_natCast,cut_get (by omega)];exact hK)
   intro J2 hJ2
   have b0:=hd.byte (6+3*k+0)
   have b1:=hd.byte (6+3*k+1)
   have b2:=hd.byte (6+3*k+2)
   have e1:6+3*k+1=7+3*k:=by omega
   have e2:6+3*k+2=8+3*k:=by omega
   rw[e1] at b1
   rw[e2] at b2
   rw[Nat.add_zero] at b0
   refine hq hs4.ext (j:=0) (by omega) ?_
   rw[Nat.add_zero,wrap_id (n:=d.getD (6+3*k) 0) (by omega) (by omega),w1 (by omega)]
   refine br_ne (fun h=>nk (fun hh=>by have:=hh.1;omega) hlt H4 hs4.tail.tail) (fun hc0=>?_)
   -- the table's number
   have last:(d.getD (7+3*k) 0=17∨k=0∧d.getD (7+3*k) 0=34)→J2 [] H4∨True:=fun _=> .inr trivial
   clear last
   have go:(d.getD (7+3*k) 0=17∨k=0∧d.getD (7+3*k) 0=34)→d.getD (8+3*k) 0≤3→J2 [] H4:=fun h7 h8'=>by
    refine hJ2 H4 (hq hs4.ext (j:=2) (by omega) ⟨_,rfl,by omega,by omega,?_⟩)
    rw[e2,wrap_id (n:=d.getD (8+3*k) 0) (by omega) (by omega),add_none,add_none,Nat.zero_add,Int.toNat_natCast,Nat.mul_one]
    refine putV hs4 0 rfl (by omega) rfl fun H5 hs5=>?_
    rw[w1 (by omega)]
    refine ih hlt (fun j hj=>?_) _ H5 (fun i hi=>?_) ?_ ?_ ?_ (fun j hj=>?_) (updV_one ho rfl) hs5
    ·rcases Nat.lt_or_ge j k with h|h
     ·exact hpk j h
     ·rw[show j=k by omega];exact⟨by omega,h7,h8'⟩
    ·rw[updV_ne (by omega)];exact hf i hi
    ·rw[updV_ne (by omega)];exact h1
    ·rw[updV_ne (by omega)];exact h2
    ·rw[updV_ne (by omega)];exact h6
    ·rcases Nat.lt_or_ge j k with h|h
     ·rw[updV_ne (by omega)];exact hw j h
     ·rw[show j=k by omega,updV_at]
   refine hq hs4.ext (j:=1) (by omega) ?_
   rw[e1]
   refine br_ne (fun h17=>br_dec (fun hk0=>nk (fun hh=>by rcases hh.2.1 with h|h<;>omega) hlt H4 hs4.tail.tail) (fun hk0=>hq hs4.ext (j:=1) (by omega) ?_)) (fun h17=>hq hs4.ext (j:=2) (by omega) ?_)
   ·rw[e1]
    refine br_ne (fun h34=>nk (fun hh=>by rcases hh.2.1 with h|h<;>omega) hlt H4 hs4.tail.tail) (fun h34=>hq hs4.ext (j:=2) (by omega) ?_)
    rw[e2]
    exact br_dec (fun h3=>nk (fun hh=>by have:=hh.2.2;omega) hlt H4 hs4.tail.tail) (fun h3=>go (.inr ⟨by omega,h34⟩) (by omega))
   ·rw[e2]
    exact br_dec (fun h3=>nk (fun hh=>by have:=hh.2.2;omega) hlt H4 hs4.tail.tail) (fun h3=>go (.inl h17) (by omega))
  ·have:k=3:=by omega
   subst this
   refine hrd hs4.ext (i:=7) (by omega) ⟨_,rfl,?_⟩
   refine putV hs4 0 (j:=4) rfl (by omega) rfl fun H5 hs5=>⟨_,rfl,d.getD 3 0*256+d.getD 4 0,?_,_,rfl,d.getD 1 0*256+d.getD 2 0,?_,c41 ⟨_,rfl,?_⟩⟩
   ·exact(getV hs5 0 (j:=1) rfl (by omega)).trans (by rw[updV_ne (by omega),h1])
   ·exact(getV hs5 0 (j:=2) rfl (by omega)).trans (by rw[updV_ne (by omega),h2])
   ·by_cases hz:SizedM (d.getD 3 0*256+d.getD 4 0) (d.getD 1 0*256+d.getD 2 0)
    ·rw[decide_eq_true hz]
     refine hR {s with W:=d.getD 3 0*256+d.getD 4 0,Ht:=d.getD 1 0*256+d.getD 2 0,seen:=true,half:=decide (d.getD 7 0=34),wh:=(List.range 3).map fun k=>(d.getD (8+3*k) 0).toNat} (by unfold sizesM;rw[if_pos ⟨hseen,hl,h8,h3,hpk,hz⟩]) H5 (jrR_mk (f:=updV f 4 (.bool (decide (d.getD 7 0=34)))) (Q:=Q) ?_ ?_)
     ·refine hJr.setS (fun i hi=>?_) ?_ ?_ (updV_at _ _ _) ?_ (fun k hk=>?_) (updV_one ho rfl)
      ·rw[updV_ne (by omega)];exact hf i (by omega)
      ·rw[updV_ne (by omega)];exact h1
      ·rw[updV_ne (by omega)];exact h2
      ·rw[updV_ne (by omega)];exact h6
      ·rw[updV_ne (by omega),wh_get hk,hw k hk]
       have h8':=(hpk k hk).2.2
       have hb:=hd.byte (8+3*k)
       exact⟨by omega,by congr 1;omega⟩
     ·have e:(decide (d.getD 7 0=34))=(d.getD 7 0==34):=rfl
      rw[e]
      exact hs5
    ·rw[decide_eq_false hz]
     exact no (fun hh=>hz hh.2.2.2.2.2) H5 hs5.tail.tail
 refine loop 0 (by omega) (fun j hj=>by omega) _ H3 (fun i hi=>?_) ?_ ?_ ?_ (fun j hj=>by omega) (updV_one (updV_one (updV_one hJr.one rfl) rfl) rfl) hs3
 ·rw[updV_ne (by omega),updV_ne (by omega),updV_ne (by omega)]
 ·exact updV_at _ _ _
 ·rw[updV_ne (by omega)];exact updV_at _ _ _
 ·rw[updV_ne (by omega),updV_ne (by omega)];exact updV_at _ _ _
end
end Go.Proofs
namespace Go.Proofs
open Go.Sh
variable {H0 H:Heap} {σ:List Rs} {R:Value→Heap→Prop}
theorem lensN_succ(d:List Int)(n:Nat):lensN d (n+1)=lensN d n++List.replicate (d.getD (n+1) 0).toNat ((n+1:Nat):Int):=by unfold lensN;rw[List.range_succ,List.flatMap_append];simp
theorem lensN_len(d:List Int)(h: ∀x∈d,0≤x∧x<256): ∀n,(lensN d n).length≤255*n
 |0=>by simp[lensN]
 |n+1=>by
  rw[lensN_succ,List.length_append,List.length_replicate]
  have:=lensN_len d h n
  have:=getD_byte h (n+1)
  omega
section
variable {r l c:Nat} {p:Option Addr} {s:Jst} {b:List Int}
theorem JrP.setC{Q Q':Heap→Prop}{f:Nat→Value}(h:JrP H0 Q f p l c s)(hq: ∀H,Q' H→Q H){k t:Nat}{T:TabJ}(hk:k<8)(hT:TabP H0 Q' t T):
 JrP H0 Q' (updV f (14+k) (.pointer (some ⟨t,0,none⟩))) p l c {s with cd:=s.cd.set k (some T)} where
 b:=by rw[updV_ne (by omega)];exact h.b
 W:=by rw[updV_ne (by omega)];exact h.W
 Ht:=by rw[updV_ne (by omega)];exact h.Ht
 rgb:=by rw[updV_ne (by omega)];exact h.rgb
 half:=by rw[updV_ne (by omega)];exact h.half
 bl:=by rw[updV_ne (by omega)];exact h.bl
 seen:=by rw[updV_ne (by omega)];exact h.seen
 wh k hk:=by rw[updV_ne (by omega)];exact h.wh k hk
 st j hj:=by
  rw[updV_ne (by omega)]
  rcases h.st j hj with h1|⟨L',b',h1,h2,h3,h4,h5⟩
  ·exact .inl h1
  ·exact .inr ⟨L',b',h1,h2,h3,h4,fun H hQ=>h5 H (hq H hQ)⟩
 cd j hj:=by
  have hsl:=h.cdl
  rw[getD_set_ite _ _ _ _ _ (by omega)]
  by_cases e:k=j
  ·subst e
   rw[if_pos rfl,updV_at]
   exact .inr ⟨T,t,rfl,rfl,hT⟩
  ·rw[if_neg e,updV_ne (by omega)]
   rcases h.cd j hj with h1|⟨T',t',h1,h2,h3⟩
   ·exact .inl h1
   ·exact .inr ⟨T',t',h1,h2,h3.mono hq⟩
 stl:=h.stl
 cdl:=by simp[h.cdl]
 one:=updV_one h.one rfl
set_option maxHeartbeats 1000000 in
theorem c71(hs:St H0 H (jrR H0 r p l c s::σ)){d:List Int}{dp:Option Addr}{dl dc:Nat}(hd:SlB H0 dp dl dc d)(hdl:dl≤1000000000)
 (hbad:codesD d s.cd=none→ ∀H',St H0 H' σ→R (.bool false) H')
 (hR: ∀C,codesD d s.cd=some C→ ∀H',St H0 H' (jrR H0 r p l c {s with cd:=C}::σ)→R (.bool true) H'):
 CallsH Tryz.prog 71 #[.pointer (some ⟨r,0,none⟩),.slice dp dl dc] H R:=by
 obtain⟨res,hres⟩: ∃x,codesD d s.cd=x:=⟨_,rfl⟩
 rw[hres] at hbad
 simp only[hres] at hR
 refine Tryz.s71 ?_
 unfold Tryz.S71
 intro X hX
 have loop: ∀(m:Nat) (d:List Int) (dp:Option Addr) (dl dc:Nat) (C:List (Option (List Int×List Int))) (H4:Heap),d.length≤m→SlB H0 dp dl dc d→dl≤1000000000→codesD d C=res→St H0 H4 (jrR H0 r p l c {s with cd:=C}::σ)→X [.slice dp dl dc] H4:=by
  intro m
  induction m with
  |zero=>
   intro d dp dl dc C H4 hm hd hdl he hs4
   have hl:=hd.len
   rw[codesD,if_pos (List.length_eq_zero_iff.1 (by omega))] at he
   exact hX _ _ _ H4 (br_n (by omega) (hR C he.symm H4 hs4))
  |succ m ih=>
   intro d dp dl dc C H4 hm hd hdl he hs4
   have hl:=hd.len
   have hle:=hd.le
   by_cases h0:dl=0
   ·rw[codesD,if_pos (List.length_eq_zero_iff.1 (by omega))] at he
    exact hX _ _ _ H4 (br_n (by omega) (hR C he.symm H4 hs4))
   have hd0:d≠[]:=fun h=>by rw[h] at hl;exact h0 hl.symm
   rw[codesD,if_neg hd0] at he
   refine hX _ _ _ H4 (br_y (by omega) ?_)
   intro J hJ
   have no: ¬(17≤d.length∧d.getD 0 0%16≤3∧d.getD 0 0/16≤1∧(lensM d).length≤256∧17+(lensM d).length≤d.length∧OkC (lensM d))→ ∀H',St H0 H' σ→R (.bool false) H':=fun hn=>by
    rw[dif_neg hn] at he
    exact hbad he.symm
   have b0:=hd.byte 0
   obtain⟨p1,p2⟩:=byte_parts8' b0
   refine br_dec (fun h17=>no (fun h=>by have:=h.1;omega) H4 hs4.tail) (fun h17=>hd.rd hs4.ext (by omega) (by omega) ?_)
   rw[show Int.toNat 0=0 from rfl,p1]
   refine br_dec (fun h3=>no (fun h=>by have:=h.2.1;omega) H4 hs4.tail) (fun h3=>hd.rd hs4.ext (by omega) (by omega) ⟨by decide,?_⟩)
   rw[show Int.toNat 0=0 from rfl,p2]
   refine br_dec (fun h1=>no (fun h=>by have:=h.2.2.1;omega) H4 hs4.tail) (fun h1=>hJ H4 ⟨by omega,by omega,by omega,by omega,?_⟩)
   clear hJ J
   rw[show Int.toNat 17=17 from rfl,show Int.toNat 1=1 from rfl]
   have hcut:=hd.cut (m:=1) (n:=17) (by omega) (by omega)
   intro Y hY
   have go: ∀n,n≤16→ ∀lp lc H5,St H0 H5 (.sl lp (lensN d n).length lc 3 1 (ints (lensN d n))::jrR H0 r p l c {s with cd:=C}::σ)→Y [.slice lp (lensN d n).length lc,.int .i64 (n:Nat)] H5:=upto fun n hn ihn lp lc H5 hs5=>by
    refine hY _ _ _ _ H5 (br_dec (fun hlt=>?_) (fun hge=>?_))
    ·have hlt:n<16:=by omega
     refine hcut.rd hs5.ext (by omega) (by omega) ?_
     rw[Int.toNat_natCast,cut_get (by omega),show 1+n=n+1 by omega]
     have hbn:=hd.byte (n+1)
     obtain⟨q,hq⟩:=Int.eq_ofNat_of_zero_le hbn.1
     have hls:=lensN_succ d n
     rw[hq,Int.toNat_natCast] at hls
     rw[hq]
     intro Z hZ
     have hlen:=lensN_len d hd.rng n
     have inner: ∀t,t≤q→ ∀lp lc H6,St H0 H6 (.sl lp (lensN d n++List.replicate t ((n+1:Nat):Int)).length lc 3 1 (ints (lensN d n++List.replicate t ((n+1:Nat):Int)))::jrR H0 r p l c {s with cd:=C}::σ)→Z [.slice lp (lensN d n++List.replicate t ((n+1:Nat):Int)).length lc,.int .u8 (t:Nat)] H6:=upto fun t ht iht lp lc H6 hs6=>by
      refine hZ _ _ _ _ H6 (br_dec (fun hltt=>?_) (fun hget=>?_))
      ·have hltt:t<q:=by omega
       refine hs6.alc fun b18 H7 hs7=>?_
       rw[w1 (by omega)] at hs7
       refine hs7.appC 1 0 rfl rfl rfl (fun v hv=>by rw[List.mem_singleton.1 hv];rfl) (by decide) rfl (by rw[List.length_append,List.length_replicate];omega) (by rw[List.length_append,List.length_replicate];omega) fun p' c' H8 hs8=>?_
       have hs8:=hs8.tail
       simp only[List.set_cons_zero,List.set_cons_succ] at hs8
       have e:ints (lensN d n++List.replicate t ((n+1:Nat):Int))++[Value.int .i64 ((n+1:Nat):Int)]=ints (lensN d n++List.replicate (t+1) ((n+1:Nat):Int)):=by rw[List.replicate_succ',←List.append_assoc,ints_append (_++_)];rfl
       have e':(lensN d n++List.replicate t ((n+1:Nat):Int)).length+1=(lensN d n++List.replicate (t+1) ((n+1:Nat):Int)).length:=by simp;omega
       rw[e,e'] at hs8
       rw[e',wr8 (by omega),show(t:Int)+1=((t+1:Nat):Int) by omega]
       exact iht hltt p' c' H8 hs8
      ·have:t=q:=by omega
       subst this
       rw[←hls] at hs6 ⊢
       rw[w1 (by omega)]
       exact ihn hlt lp lc H6 hs6
     have:=inner 0 (by omega) lp lc H5 (by rw[List.replicate_zero,List.append_nil];exact hs5)
     rw[List.replicate_zero,List.append_nil] at this
     exact this
    ·have:n=16:=by omega
     subst this
     have hln:(lensM d).length≤255*16:=lensN_len d hd.rng 16
     intro J2 hJ2
     have hL:lensN d 16=lensM d:=rfl
     rw[hL] at hs5 ⊢
     rw[wrap_id (n:=(17:Int)+_) (by omega) (by omega)]
     refine br_dec (fun hlt=>no (fun h=>by have:=h.2.2.2.2.1;omega) H5 hs5.tail.tail) (fun hlt=>br_dec (fun h256=>no (fun h=>by have:=h.2.2.2.1;omega) H5 hs5.tail.tail) (fun h256=>hJ2 H5 ?_))
     clear hJ2 J2
     refine newDecR (hs5.is 0 rfl) (fun hno=>⟨_,_,rfl,br_t rfl (no (fun h=>hno h.2.2.2.2.2) H5 hs5.tail.tail)⟩) (fun ok H6 db P F hs6=>⟨_,_,rfl,br_f rfl ?_⟩)
     have hs6:=hs5.call hs6
     have h:17≤d.length∧d.getD 0 0%16≤3∧d.getD 0 0/16≤1∧(lensM d).length≤256∧17+(lensM d).length≤d.length∧OkC (lensM d):=⟨by omega,by omega,by omega,by omega,by omega,ok⟩
     rw[dif_pos h] at he
     rw[hL,wrap_id (n:=(17:Int)+_) (by omega) (by omega)]
     obtain⟨a1,q1,q2,q3,v1,q4,rfl⟩:=hd.rd hs6.ext (i:=0) (by omega) (by omega) (K:=fun v=>v=d.getD 0 0) rfl
     refine⟨a1,q1,q2,q3,_,q4,a1,q1,q2,q3,_,q4,?_⟩
     refine⟨by decide,by omega,by omega,by omega,by omega,_,rfl,?_⟩
     rw[p1,p2,show(17:Int)+((lensM d).length:Nat)=((17+(lensM d).length:Nat):Int) by omega,Int.toNat_natCast]
     refine hs6.alcE fun b33 H7 e7 hs7=>⟨.inl e7,?_⟩
     rw[wr8 (x:=d.getD 0 0/16*4) (by omega),wr8 (by omega)]
     rw[show 17+(lensM d).length-17=(lensM d).length by omega] at hs7
     obtain⟨k,hk⟩:=Int.eq_ofNat_of_zero_le (show 0≤d.getD 0 0%16+4*(d.getD 0 0/16) by omega)
     rw[hk,Int.toNat_natCast] at he
     rw[show d.getD 0 0%16+d.getD 0 0/16*4=(k:Int) by omega]
     refine⟨by omega,by omega,?_⟩
     rw[add_none,add_none,Nat.zero_add,Int.toNat_natCast,Nat.mul_one]
     have hs8:=hs7.front 3 rfl
     obtain⟨f,Q,hJr,hs9⟩:=jrR_op hs8
     refine putV hs9 0 rfl (by omega) rfl fun H8 hs10=>⟨by omega,by omega,?_⟩
     have hs11:=(hs10.swap).perm (List.Perm.cons _ ((List.Perm.swap _ _ _).trans (List.Perm.cons _ (List.Perm.swap _ _ _))))
     have hcd:=hd.cut (m:=17) (n:=17+(lensM d).length) (by omega) (by omega)
     rw[show 17+(lensM d).length-17=(lensM d).length by omega] at hcd
     have hsy:(d.take (17+(lensM d).length)).drop 17=(d.drop 17).take (lensM d).length:=by rw[List.take_drop]
     rw[hsy] at hcd
     obtain⟨_,_,_,hPl,tr,_,_⟩:=decR_use hs11 (j:=2) rfl
     have hs12:=St.persOf (τ:=[.pers Q,_,_]) (Q:=fun H=>Q H∧TabI b33 db (if dc=17 then dp else Option.map (fun x=>Addr.add x (17*1)) dp) (dc-17) (lensM d) P F H) hs11 fun H' hs'=>⟨hs'.persGet 0 rfl,by
      obtain⟨q2,k2,_,_,_,hdd,hrs⟩:=decR_use hs' (j:=2) rfl
      exact⟨hs'.block 1 rfl,q2,k2,hdd,hrs⟩⟩
     have hT:TabP H0 (fun H=>Q H∧TabI b33 db (if dc=17 then dp else Option.map (fun x=>Addr.add x (17*1)) dp) (dc-17) (lensM d) P F H) b33 (lensM d,(d.drop 17).take (lensM d).length):=
      ⟨ok,hcd.rng,db,_,_,P,F,hcd.is,hPl,tr,fun H hQ=>hQ.2⟩
     have hs13:=jrR_mk (hJr.setC (k:=k) (t:=b33) (fun H hQ=>hQ.1) (by omega) hT) hs12.swap
     refine ih _ _ _ _ _ H8 (by rw[List.length_drop];omega) (hd.from_ (m:=17+(lensM d).length) (by omega)) (by omega) he ?_
     exact hs13.del 1
   exact go 0 (by omega) none 0 H4 (hs4.nilSl _ _)
 exact loop d.length d dp dl dc s.cd H (Nat.le_refl _) hd hdl hres hs
end
end Go.Proofs
namespace Go.Proofs
open Go.Sh
variable {H0 H:Heap} {σ:List Rs} {R:Value→Heap→Prop}
theorem putV2(hs:St H0 H σ)(i:Nat){b n j:Nat}{f:Nat→Value}{ty:TypeId}{v w:Value}{K:Heap→Prop}(hi:σ[i]?=some (.cell b (tabV n f) ty))(hj:j+1<n)(hv:v.oneCell'=true)(hw:w.oneCell'=true)
 (hK: ∀H',St H0 H' (σ.set i (.cell b (tabV n (updV (updV f j v) (j+1) w)) ty))→K H'):stAt H ⟨b,j,none⟩ [v,w] K:=
 hs.putRow i hi (by rw[tabV_size];simp;omega) (fun u hu=>by simp at hu;rcases hu with rfl|rfl<;>assumption) fun H' hs'=>hK H' (by
  have e:(setL (tabV n f).toList j [v,w]).toArray=tabV n (updV (updV f j v) (j+1) w):=by
   have hlen:j+[v,w].length≤(tabV n f).toList.length:=by show j+2≤_;rw[Array.length_toList,tabV_size];omega
   refine Array.ext_getElem? fun i=>?_
   rw[List.getElem?_toArray,setL_get hlen]
   rcases Nat.lt_or_ge i n with h|h
   ·rw[tabV_get h]
    by_cases h1:i=j
    ·subst h1
     rw[if_pos (by simp),Nat.sub_self,updV_ne (by omega),updV_at];rfl
    ·by_cases h2:i=j+1
     ·subst h2
      rw[if_pos (by simp),updV_at,show j+1-j=1 by omega];rfl
     ·rw[if_neg (by simp;omega),updV_ne h2,updV_ne h1,Array.getElem?_toList,tabV_get h]
   ·rw[if_neg (by simp;omega),Array.getElem?_eq_none (by rw[tabV_size];exact h),Array.getElem?_toList,Array.getElem?_eq_none (by rw[tabV_size];exact h)]
  rw[e] at hs';exact hs')
section
variable {r l c:Nat} {p:Option Addr} {s:Jst} {b:List Int}
theorem JrP.cdp{Q:Heap→Prop}{f:Nat→Value}(h:JrP H0 Q f p l c s){k:Nat}(hk:k<8): ∃x:Option Addr,f (14+k)= .pointer x∧(x.isNone=true→ ¬(s.cd.getD k none).isSome)∧(x.isNone=false→(s.cd.getD k none).isSome):=by
 rcases h.cd k hk with ⟨h1,h2⟩|⟨T,t,h1,h2,_⟩
 ·exact⟨none,h2,fun _=>by rw[h1];simp,nofun⟩
 ·exact⟨_,h2,nofun,fun _=>by rw[h1];rfl⟩
theorem JrP.stp{Q:Heap→Prop}{f:Nat→Value}(h:JrP H0 Q f p l c s){k:Nat}(hk:k<4): ∃x:Option Addr,f (10+k)= .pointer x∧(x.isNone=true→ ¬(s.st.getD k none).isSome)∧(x.isNone=false→(s.st.getD k none).isSome):=by
 rcases h.st k hk with ⟨h1,h2⟩|⟨L,t,h1,_,_,h2,_⟩
 ·exact⟨none,h2,fun _=>by rw[h1];simp,nofun⟩
 ·exact⟨_,h2,nofun,fun _=>by rw[h1];rfl⟩
def scanV(f:Nat→Value)(t:List (Nat×Nat))(i:Nat):Value:=f (14+(if i%2=0 then(t.getD (i/2) (0,0)).1 else(t.getD (i/2) (0,0)).2))
def scanL(d:List Int):List (Nat×Nat):=(List.range 3).map fun k=>((d.getD (2+2*k) 0/16).toNat,(4+d.getD (2+2*k) 0%16).toNat)
theorem scanL_get{d:List Int}{k:Nat}(hk:k<3):(scanL d).getD k (0,0)=((d.getD (2+2*k) 0/16).toNat,(4+d.getD (2+2*k) 0%16).toNat):=by
 unfold scanL
 rw[List.getD_eq_getElem?_getD,List.getElem?_map,List.getElem?_range hk];rfl
theorem tabV_congr{n:Nat}{f g:Nat→Value}(h: ∀i,i<n→f i=g i):tabV n f=tabV n g:=by
 unfold tabV
 congr 1
 exact List.map_congr_left fun i hi=>h i (List.mem_range.1 hi)
theorem six_nil:(#[.pointer none,.pointer none,.pointer none,.pointer none,.pointer none,.pointer none]:Array Value)=tabV 6 fun _=> .pointer none:=rfl
set_option maxHeartbeats 1000000 in
theorem c72{f:Nat→Value}{Q:Heap→Prop}(hJr:JrP H0 Q f p l c s)(hs:St H0 H (.cell r (tabV 22 f) 97::σ)){d:List Int}{dp:Option Addr}{dl dc:Nat}(hd:SlB H0 dp dl dc d)
 (hbad:scanM d s=none→ ∀cs H',cs.size=6→(∀v∈cs.toList,v.oneCell'=true)→St H0 H' (.cell r (tabV 22 f) 97::σ)→R (.tuple #[.agg cs,.bool false]) H')
 (hR: ∀t,scanM d s=some t→ ∀H',St H0 H' (.cell r (tabV 22 f) 97::σ)→R (.tuple #[.agg (tabV 6 (scanV f t)),.bool true]) H'):
 CallsH Tryz.prog 72 #[.pointer (some ⟨r,0,none⟩),.slice dp dl dc] H R:=by
 have hl:=hd.len
 have no: ¬(s.seen=true∧d.length=10∧d.getD 0 0=3∧d.getD 7 0=0∧d.getD 8 0=63∧d.getD 9 0=0∧ ∀k,k<3→scanOk d s k)→scanM d s=none:=fun hn=>by unfold scanM;rw[if_neg hn]
 refine Tryz.s72 ?_
 unfold Tryz.S72
 refine hs.alc fun b3 H1 hs1=>?_
 rw[six_nil] at hs1
 have ret: ∀(g:Nat→Value) (H2:Heap),scanM d s=none→(∀i,(g i).oneCell'=true)→St H0 H2 (.cell b3 (tabV 6 g) 99:: .cell r (tabV 22 f) 97::σ)→
  ∃v:Array Value,v.size=6∧rowIn H2 ⟨b3,0,none⟩ v∧v.size=6∧stAt H2 ⟨b3,0,none⟩ v.toList fun H'=> ∃re:Array Value,re.size=6∧rowIn H' ⟨b3,0,none⟩ re∧R (.tuple #[.agg re,.bool false]) H':=fun g H2 hn hg hs2=>
  retC (K:=fun re H'=>R (.tuple #[.agg re,.bool false]) H') hs2 0 rfl (tabV_size _ _) (tabV_one hg) fun H3 hs3=>hbad hn _ H3 (tabV_size _ _) (tabV_one hg) hs3.tail
 have r0:=fun hn=>ret _ H1 hn (fun _=>rfl) hs1
 intro J hJ
 refine⟨_,rfl,s.seen,by rw[←hJr.seen];exact getV hs1 1 (j:=6) rfl (by omega),?_⟩
 cases hseen:s.seen with
 |false=>exact br_t rfl (r0 (no fun h=>by rw[hseen] at h;cases h.1))
 |true=>
 refine br_f rfl (br_ne (fun h=>r0 (no fun hh=>by omega)) (fun h10=>?_))
 have h10:dl=10:=by omega
 subst h10
 have hrd: ∀{H':Heap} {i:Nat},Ext H0 H'→i<10→ ∀{K:Int→Prop},K (d.getD i 0)→ ∃a:Addr,dp=some a∧0≤(i:Int)∧(i:Int)<((10:Nat):Int)∧ ∃v:Int,Sh.cell H' (Addr.add a (Int.toNat (i:Int)*1))=some (.int .u8 v)∧K v:=fun{H'} {i} he hi {K} hK=>hd.rd he (i:=(i:Int)) (by omega) (by omega) (by rw[Int.toNat_natCast];exact hK)
 refine hrd hs1.ext (i:=0) (by omega) (br_ne (fun h=>r0 (no fun hh=>by omega)) (fun h3=>?_))
 refine hrd hs1.ext (i:=7) (by omega) (br_ne (fun h=>r0 (no fun hh=>by omega)) (fun h7=>?_))
 refine hrd hs1.ext (i:=8) (by omega) (br_ne (fun h=>r0 (no fun hh=>by omega)) (fun h8=>?_))
 refine hrd hs1.ext (i:=9) (by omega) (br_ne (fun h=>r0 (no fun hh=>by omega)) (fun h9=>hJ H1 ?_))
 intro X hX
 have loop: ∀k,k≤3→(∀j,j<k→scanOk d s j)→ ∀(g:Nat→Value) (H4:Heap),(∀j,j<k→g (2*j)=scanV f (scanL d) (2*j)∧g (2*j+1)=scanV f (scanL d) (2*j+1))→(∀i,(g i).oneCell'=true)→
  St H0 H4 (.cell b3 (tabV 6 g) 99:: .cell r (tabV 22 f) 97::σ)→X [.int .i64 (k:Nat)] H4:=upto fun k hk ih hpk g H4 hg ho hs4=>by
  refine hX _ H4 (br_dec (fun hlt=>?_) (fun hge=>?_))
  ·have hlt:k<3:=by omega
   have rk:=fun hn: ¬scanOk d s k=>ret g H4 (no fun hh=>hn (hh.2.2.2.2.2.2 k hlt)) ho hs4
   have w2:IntKind.wrap .i64 ((2:Int)*(k:Nat))=((2*k:Nat):Int):=by rw[wrap_id (by omega) (by omega)];omega
   have w22:IntKind.wrap .i64 ((2:Int)+((2*k:Nat):Int))=((2+2*k:Nat):Int):=by rw[wrap_id (by omega) (by omega)];omega
   have w12:IntKind.wrap .i64 ((1:Int)+((2*k:Nat):Int))=((1+2*k:Nat):Int):=by rw[wrap_id (by omega) (by omega)];omega
   rw[w2,w22,w12]
   have bv:=hd.byte (2+2*k)
   have bw:=hd.byte (1+2*k)
   obtain⟨p1,p2⟩:=byte_parts8' bv
   refine hrd hs4.ext (i:=2+2*k) (by omega) ⟨by decide,hrd hs4.ext (i:=2+2*k) (by omega) ?_⟩
   rw[p1,p2]
   intro J2 hJ2
   refine hrd hs4.ext (i:=1+2*k) (by omega) ?_
   rw[wrap_id (n:=d.getD (1+2*k) 0) (by omega) (by omega),w1 (by omega)]
   refine br_ne (fun h=>rk (fun hh=>by have:=hh.1;omega)) (fun hc0=>br_dec (fun h=>rk (fun hh=>by have:=hh.2.1;omega)) (fun ha=>br_dec (fun h=>rk (fun hh=>by have:=hh.2.2.1;omega)) (fun hb=>⟨_,rfl,by omega,by omega,?_⟩)))
   obtain⟨hw4,hwk⟩:=hJr.wh k hlt
   refine⟨(s.wh.getD k 0:Nat),?_,_,rfl,by omega,by omega,?_⟩
   ·rw[add_none,add_none,Nat.zero_add,Int.toNat_natCast,Nat.mul_one,getV hs4 1 rfl (by omega),hwk]
   obtain⟨x,hx,hx1,hx2⟩:=hJr.stp hw4
   refine⟨x,?_,?_⟩
   ·rw[add_none,add_none,Nat.zero_add,Int.toNat_natCast,Nat.mul_one,getV hs4 1 rfl (by omega),hx]
   cases hxn:x.isNone with
   |true=>exact br_t rfl (rk (fun hh=>hx1 hxn hh.2.2.2.1))
   |false=>
   obtain⟨na,hna⟩:=Int.eq_ofNat_of_zero_le (show 0≤d.getD (2+2*k) 0/16 by omega)
   obtain⟨nb,hnb⟩:=Int.eq_ofNat_of_zero_le (show 0≤d.getD (2+2*k) 0%16 by omega)
   obtain⟨y,hy,hy1,hy2⟩:=hJr.cdp (k:=na) (by omega)
   obtain⟨z,hz,hz1,hz2⟩:=hJr.cdp (k:=4+nb) (by omega)
   have hwb:IntKind.wrap .u8 (d.getD (2+2*k) 0%16+4)=((4+nb:Nat):Int):=by rw[wr8 (by omega)];omega
   have hta:(d.getD (2+2*k) 0/16).toNat=na:=by omega
   have htb:(4+d.getD (2+2*k) 0%16).toNat=4+nb:=by omega
   refine br_f rfl (hJ2 H4 ⟨_,rfl,by omega,by omega,y,?_,_,rfl,by omega,by omega,z,?_,by omega,by omega,rfl,?_⟩)
   ·rw[hna,add_none,add_none,Nat.zero_add,Int.toNat_natCast,Nat.mul_one,getV hs4 1 rfl (by omega),hy]
   ·rw[hwb,add_none,add_none,Nat.zero_add,Int.toNat_natCast,Nat.mul_one,getV hs4 1 rfl (by omega),hz]
   rw[add_none,Nat.zero_add,Int.toNat_natCast]
   have hok:y.isNone=false→z.isNone=false→scanOk d s k:=fun h1 h2=>⟨by omega,by omega,by omega,hx2 hxn,by rw[hta];exact hy2 h1,by rw[htb];exact hz2 h2⟩
   refine putV2 hs4 0 (j:=k*2) rfl (by omega) rfl rfl fun H5 hs5=>⟨by omega,by omega,by omega,by omega,y,?_,?_⟩
   ·rw[add_none,show Int.toNat 0*1=0 from rfl,Nat.add_zero,getV hs5 0 rfl (by omega),updV_ne (by omega),updV_at]
   have ho5:=updV_one (j:=k*2+1) (v:= .pointer z) (updV_one (j:=k*2) (v:= .pointer y) ho rfl) rfl
   have rk5:=fun hn: ¬scanOk d s k=>ret _ H5 (no fun hh=>hn (hh.2.2.2.2.2.2 k hlt)) ho5 hs5
   cases hyn:y.isNone with
   |true=>exact br_t rfl (rk5 (fun hh=>hy1 hyn (by rw[←hta];exact hh.2.2.2.2.1)))
   |false=>
   refine br_f rfl ⟨by omega,by omega,by omega,by omega,z,?_,?_⟩
   ·rw[add_none,show Int.toNat 1*1=1 from rfl,getV hs5 0 rfl (by omega),updV_at]
   cases hzn:z.isNone with
   |true=>exact br_t rfl (rk5 (fun hh=>hz1 hzn (by rw[←htb];exact hh.2.2.2.2.2)))
   |false=>
   rw[w1 (by omega)]
   refine br_f rfl (ih hlt (fun j hj=>?_) _ H5 (fun j hj=>?_) ho5 hs5)
   ·rcases Nat.lt_or_ge j k with h|h
    ·exact hpk j h
    ·rw[show j=k by omega];exact hok hyn hzn
   ·rcases Nat.lt_or_ge j k with h|h
    ·rw[updV_ne (by omega),updV_ne (by omega),updV_ne (by omega),updV_ne (by omega)];exact hg j h
    ·have:j=k:=by omega
     subst this
     rw[show j*2=2*j by omega,updV_ne (by omega),updV_at,updV_at]
     unfold scanV
     rw[if_pos (by omega),if_neg (by omega),show 2*j/2=j by omega,show(2*j+1)/2=j by omega,scanL_get hlt]
     simp only
     rw[hta,htb,hy,hz]
     exact⟨rfl,rfl⟩
  ·have:k=3:=by omega
   subst this
   have hsc:scanM d s=some (scanL d):=by unfold scanM;rw[if_pos ⟨hseen,hl,h3,h7,h8,h9,hpk⟩];rfl
   refine retC (K:=fun re H'=>R (.tuple #[.agg re,.bool true]) H') hs4 0 rfl (tabV_size _ _) (tabV_one ho) fun H5 hs5=>?_
   have e:tabV 6 g=tabV 6 (scanV f (scanL d)):=tabV_congr fun i hi=>by
    rcases Nat.mod_two_eq_zero_or_one i with h|h
    ·have:=(hg (i/2) (by omega)).1
     rwa [show 2*(i/2)=i by omega] at this
    ·have:=(hg (i/2) (by omega)).2
     rwa [show 2*(i/2)+1=i by omega] at this
   rw[e]
   exact hR _ hsc H5 hs5.tail
 exact loop 0 (by omega) (fun j hj=>by omega) _ H1 (fun j hj=>by omega) (fun _=>rfl) hs1
end
end Go.Proofs
