/-
  OWN WORK. Several texts in one: JpX, JrG, JqA, JqC, FlUa, JqD, JqE, JqB, HuffA, HuffB, HuffC, HuffD, HuffE, HuffF.
-/
import Derived.Test.YtcggbdggpdcnjaaGreatMgJpegSegmentsF
import Derived.Test.YtcggbdggpdcnjaaGreatMgJpegSegmentsE
import Derived.Test.YtcggbdggpdcnjaaGreatMgJpegSegmentsC
import Derived.Test.YtcggbdggpdcnjaaGreatMgJpegSegmentsB

set_option linter.unusedVariables false
set_option linter.unusedSimpArgs false
namespace Go.Proofs
open Go.Sh
variable {H0 H:Heap} {σ:List Rs} {R:Value→Heap→Prop}
def jr0(v:Value):Nat→Value:=fun i=>if i=0 then v else if i=3∨i=5 then .slice none 0 0 else if i=4∨i=6 then .bool false else if i<10 then .int .i64 0 else .pointer none
theorem jr0_arr(v:Value):#[v,.int .i64 0,.int .i64 0,.slice none 0 0,.bool false,.slice none 0 0,.bool false,.int .i64 0,.int .i64 0,.int .i64 0,.pointer none,.pointer none,.pointer none,.pointer none,.pointer none,.pointer none,.pointer none,.pointer none,.pointer none,.pointer none,.pointer none,.pointer none]=tabV 22 (jr0 v):=rfl
theorem jr0_ok(p:Option Addr)(l c:Nat):JrP H0 (fun _=>True) (jr0 (.slice p l c)) p l c jst0 where
 b:=rfl
 W:=rfl
 Ht:=rfl
 rgb:=rfl
 half:=rfl
 bl:=rfl
 seen:=rfl
 wh k hk:=by
  obtain rfl|rfl|rfl:k=0∨k=1∨k=2:=by omega
  all_goals exact⟨by decide,rfl⟩
 st k hk:=by
  obtain rfl|rfl|rfl|rfl:k=0∨k=1∨k=2∨k=3:=by omega
  all_goals exact .inl ⟨rfl,rfl⟩
 cd k hk:=by
  obtain rfl|rfl|rfl|rfl|rfl|rfl|rfl|rfl:k=0∨k=1∨k=2∨k=3∨k=4∨k=5∨k=6∨k=7:=by omega
  all_goals exact .inl ⟨rfl,rfl⟩
 stl:=rfl
 cdl:=rfl
 one i:=by unfold jr0;split<;>(try rfl);split<;>(try rfl);split<;>(try rfl);split<;>rfl
theorem St.persTrue(hs:St H0 H σ):St H0 H (.pers (fun _=>True)::σ):=St.persOf (τ:=[]) hs fun _ _=>trivial
def img0:Array Value:=#[.int .i64 0,.int .i64 0,.slice none 0 0,.bool false,.slice none 0 0]
theorem fail5{K:Array Value→Heap→Prop}{b:Nat}{cs:Array Value}{ty:TypeId}(hs:St H0 H σ)(i:Nat)(hi:σ[i]?=some (.cell b cs ty))(hcs:cs.size=5)(hK: ∀H',Ext H0 H'→K img0 H'):
 img0.size=5∧stAt H ⟨b,0,none⟩ (Array.toList img0) fun H'=> ∃re:Array Value,re.size=5∧rowIn H' ⟨b,0,none⟩ re∧K re H':=
 ⟨rfl,hs.putAll i hi (by rw[hcs];rfl) (by simp[img0,Value.oneCell']) fun H' hs'=>⟨img0,rfl,rowIn_whole (hs'.block i (by rw[List.getElem?_set_self (List.getElem?_eq_some_iff.1 hi).1])),hK H' hs'.ext⟩⟩
section
variable {u a:Nat} {B:List Int}
structure BlkJ(H0:Heap)(σ:List Rs)(u a:Nat)(B:List Int)(T:TabJ×TabJ)(la:Int)(X:List Int)(okb:Bool)(a2:Nat)(H:Heap):Prop where
 len:X.length=64
 st:St H0 H (unR u B a2 okb::σ)
 no:okb=false→blockJ T la ((bitsH B).drop a)=none
 yes:okb=true→blockJ T la ((bitsH B).drop a)=some (X,(bitsH B).drop a2)
theorem block_join(hs:St H0 H (unR u B a true::σ)){j t0 t1:Nat}{Q:Heap→Prop}{T0 T1:TabJ}(hj:σ[j]?=some (.pers Q))(hT0:TabP H0 Q t0 T0)(hT1:TabP H0 Q t1 T1){la:Int}(hla: -100000≤la∧la≤100000):
 CallsH Tryz.prog 37 #[.pointer (some ⟨u,0,none⟩),.agg #[.pointer (some ⟨t0,0,none⟩),.pointer (some ⟨t1,0,none⟩)],.int .i64 la] H fun v H'=> ∃X okb a2,v= .agg (ints X).toArray∧BlkJ H0 σ u a B (T0,T1) la X okb a2 H':=
 c37 hs hj hT0 hT1 hla (fun hno X H' a' hX hs'=>⟨X,false,a',rfl,hX,hs',fun _=>hno,nofun⟩) (fun X a' hyes hX H' hs'=>⟨X,true,a',rfl,hX,hs',nofun,fun _=>hyes⟩)
end
theorem setL3{Z A B C:List Value}(hZ:Z.length=192)(hA:A.length=64)(hB:B.length=64)(hC:C.length=64):setL (setL (setL Z 0 A) 64 B) 128 C=A++B++C:=by
 unfold setL
 have h1:(A++Z.drop 64).length=192:=by simp[hA,hZ]
 simp only[List.take_zero,List.nil_append,Nat.zero_add,hA]
 have h2:(A++Z.drop 64).take 64=A:=by rw[List.take_append_of_le_length (by omega),List.take_of_length_le (by omega)]
 have h3:(A++Z.drop 64).drop (64+B.length)=Z.drop 128:=by rw[List.drop_append,List.drop_eq_nil_of_le (by omega),List.nil_append,List.drop_drop,hA,hB]
 rw[h2,h3]
 have h4:(A++B++Z.drop 128).take 128=A++B:=by rw[List.take_append_of_le_length (by simp;omega),List.take_of_length_le (by simp;omega)]
 have h5:(A++B++Z.drop 128).drop (128+C.length)=[]:=List.drop_eq_nil_of_le (by simp;omega)
 rw[h4,h5,List.append_nil]
set_option maxHeartbeats 4000000 in
theorem c10{p:Option Addr}{l c:Nat}{b:List Int}(hb:SlB H p l c b)(hl:l≤900000000)
 (hbad:decJ b=none→ ∀H',Ext H H'→R (.tuple #[.agg img0,.int .i64 51]) H')
 (hR: ∀m,decJ b=some m→ ∀W Ht:Nat,m.W=W→m.Ht=Ht→PaintOk W Ht m.half m.bl m.st→ ∀H' q k bq bk,St H H' [.sl q (paintM W Ht m.half m.bl m.st).length k 5 1 (kints .u8 (paintM W Ht m.half m.bl m.st)),.sl bq m.bl.length bk 48 64 (ints m.bl.flatten)]→
  R (.tuple #[.agg #[.int .i64 (W:Nat),.int .i64 (Ht:Nat),.slice q (paintM W Ht m.half m.bl m.st).length k,.bool m.half,.slice bq m.bl.length bk],.int .i64 0]) H'):
 CallsH Tryz.prog 10 #[.slice p l c] H R:=by
 have hbl:=hb.len
 have hle:=hb.le
 refine Tryz.s10 ?_
 unfold Tryz.S10
 refine(St.nil H).alc fun b2 H1 hs1=>?_
 have hs1:St H H1 [.cell b2 img0 37]:=hs1
 have f0:decJ b=none→ ∀{σ:List Rs} {H':Heap} (i:Nat),St H H' σ→σ[i]?=some (Rs.cell b2 img0 37)→img0.size=5∧stAt H' ⟨b2,0,none⟩ (Array.toList img0) fun H2=> ∃re:Array Value,re.size=5∧rowIn H2 ⟨b2,0,none⟩ re∧R (.tuple #[.agg re,.int .i64 51]) H2:=fun hn σ H' i hs hi=>
  fail5 (K:=fun re H2=>R (.tuple #[.agg re,.int .i64 51]) H2) hs i hi rfl fun H2 e=>hbad hn H2 e
 intro J hJ
 have start:b.length<2∨b.getD 0 0≠255∨b.getD 1 0≠216→decJ b=none:=fun h=>by unfold decJ;rw[if_pos h]
 refine br_dec (fun h2=>f0 (start (.inl (by omega))) 0 hs1 rfl) (fun h2=>hb.rd hs1.ext (by omega) (by omega) ?_)
 refine br_ne (fun hff=>f0 (start (.inr (.inl hff))) 0 hs1 rfl) (fun hff=>hb.rd hs1.ext (by omega) (by omega) ?_)
 refine br_ne (fun hd8=>f0 (start (.inr (.inr hd8))) 0 hs1 rfl) (fun hd8=>hJ H1 ⟨by omega,by omega,?_⟩)
 clear hJ J
 have hdec:decJ b=match headM (b.drop 2) jst0 with
  |none=>none
  |some (s,t,r)=>match bodyM r with
   |none=>none
   |some p=>bodyJ s t p:=by
  unfold decJ
  rw[if_neg (fun h=>by
   rcases h with h|h|h
   ·omega
   ·exact h hff
   ·exact h hd8)]
  rfl
 refine hs1.alc fun r H2 hs2=>?_
 rw[jr0_arr] at hs2
 have hb2:=hb.from_ (m:=2) (by omega)
 have hs3:=jrR_mk (jr0_ok _ _ _) (St.persTrue hs2).swap
 refine c33 hs3 hb2 (by omega) (fun hno cs H3 hcs ho hs3=>⟨_,_,rfl,?_⟩) (fun s t rest hhead f Q p' l' c' hJr hrest hl' H3 hs3=>⟨_,_,rfl,?_⟩)
 ·rw[hno] at hdec
  refine hs3.alc fun b12 H4 hs4=>⟨hcs,hs4.putAll 0 rfl (by rw[Array.length_toList,hcs];rfl) ho fun H5 hs5=>br_t rfl (f0 hdec 1 hs5 rfl)⟩
 rw[hhead] at hdec
 simp only at hdec
 obtain⟨hseen,hsized,hscan⟩:=headM_ok _ (Nat.le_refl _) (fun x hx=>hb.rng x (List.mem_of_mem_drop hx)) (fun h=>by cases h) hhead
 have hrl:=hrest.len
 have hsl: ∀i,(scanV f t i).oneCell'=true:=fun i=>hJr.one _
 refine hs3.alc fun b12 H4 hs4=>⟨tabV_size _ _,hs4.putAll 0 rfl (by rw[Array.length_toList,tabV_size];rfl) (tabV_one hsl) fun H5 hs5=>br_f rfl ?_⟩
 have hs5:St H H5 (.cell r (tabV 22 f) 97:: .cell b12 (tabV 6 (scanV f t)) 99:: .pers Q:: .cell b2 img0 37::[]):=hs5.swap
 clear hs1 hs2 hs3 hs4
 refine c34 hJr.b hs5 hrest hl' (fun hno q n m H6 hs6=>⟨_,_,_,_,rfl,br_t rfl ?_⟩) (fun B hB hBr hBl q m H6 hs6=>⟨_,_,_,_,rfl,br_f rfl ?_⟩)
 ·rw[hno] at hdec
  exact f0 hdec 3 hs6 rfl
 rw[hB] at hdec
 simp only at hdec
 have hrl6:l'≤1000000000:=hl'
 obtain⟨hW1,hH1,hW2,hH2,hA⟩:=hsized
 obtain⟨W,hW⟩:=Int.eq_ofNat_of_zero_le (show 0≤s.W by omega)
 obtain⟨Ht,hHt⟩:=Int.eq_ofNat_of_zero_le (show 0≤s.Ht by omega)
 rw[hW] at hW1 hA hW2
 rw[hHt] at hH1 hA hH2
 have hn:W*Ht≤4194304:=by rw[←Int.natCast_mul] at hA;omega
 have bW:W≤32768:=by omega
 have bH:Ht≤32768:=by omega
 unfold bodyJ at hdec
 rw[hW,hHt,Int.toNat_natCast,Int.toNat_natCast] at hdec
 refine⟨_,rfl,(W:Nat),?_,_,rfl,(Ht:Nat),?_,_,rfl,s.half,?_,?_⟩
 ·rw[←hW,←hJr.W];exact getV hs6 1 (j:=1) rfl (by omega)
 ·rw[←hHt,←hJr.Ht];exact getV hs6 1 (j:=2) rfl (by omega)
 ·rw[←hJr.half];exact getV hs6 1 (j:=4) rfl (by omega)
 refine c35 (Nat.le_trans bW (by decide)) (Nat.le_trans bH (by decide)) fun H7 qo mo hs7=>⟨_,_,_,rfl,?_⟩
 have hs7:=hs6.call hs7
 have hB9:B.length≤1000000000:=by omega
 have hcnt:=order_cnt2 W Ht s.half (Nat.le_trans bW (by decide)) (Nat.le_trans bH (by decide))
 have hin:=order_in (W:=W) (Ht:=Ht) (half:=s.half)
 generalize hO:orderM W Ht s.half=O at*
 rw[wrap_id (n:=(8:Int)*(B.length:Nat)) (by omega) (by omega)]
 refine br_dec (fun hgt=>?_) (fun hgt=>?_)
 ·rw[if_pos (by omega)] at hdec
  exact f0 hdec 5 hs7 rfl
 rw[if_neg (by omega)] at hdec
 refine c36 (hs7.is 1 rfl) hB9 hBr fun rb H8 hs8=>⟨_,rfl,?_⟩
 have hs8:=hs7.call hs8
 refine hs8.alc fun b37 H9 hs9=>?_
 have hs9:=unR_mk hs9.swap
 refine hs9.alc fun b39 H10 hs10=>?_
 have hs10:=hs10.nilSl 48 64
 have hs11:St H H10 (unR b37 B 0 true:: .sl none 0 0 48 64 []:: .cell b39 (ints [0,0,0]).toArray 73:: .sl qo O.length mo 112 3 (ints (flat3 O)):: .cell r (tabV 22 f) 97:: .cell b12 (tabV 6 (scanV f t)) 99:: .pers Q:: .cell b2 img0 37::[]):=(hs10.front 2 rfl).del 4
 clear hs5 hs6 hs7 hs8 hs9 hs10
 obtain⟨bres,hbres⟩: ∃x,blocksJ (tabsJ s t) O [0,0,0] (bitsH B)=x:=⟨_,rfl⟩
 rw[hbres] at hdec
 have hno:bres=none→decJ b=none:=fun h=>by rw[hdec,h]
 have tabs: ∀k,k<3→ ∃ta tb,scanV f t (k*2)= .pointer (some ⟨ta,0,none⟩)∧scanV f t (k*2+1)= .pointer (some ⟨tb,0,none⟩)∧TabP H Q ta (tabsJ s t k).1∧TabP H Q tb (tabsJ s t k).2:=fun k hk=>by
  obtain⟨h1,h2⟩:=hscan.rng k hk
  have i0:=hscan.c0 k hk
  have i1:=hscan.c1 k hk
  rcases hJr.cd _ (show(t.getD k (0,0)).1<8 by omega) with ⟨hn,_⟩|⟨T0,ta,hT0,hf0,hP0⟩
  ·rw[hn] at i0;cases i0
  rcases hJr.cd _ h2 with ⟨hn,_⟩|⟨T1,tb,hT1,hf1,hP1⟩
  ·rw[hn] at i1;cases i1
  refine⟨ta,tb,?_,?_,?_,?_⟩
  ·unfold scanV;rw[if_pos (by omega),show k*2/2=k by omega];exact hf0
  ·unfold scanV;rw[if_neg (by omega),show(k*2+1)/2=k by omega];exact hf1
  ·unfold tabsJ;simp only;rw[hT0];exact hP0
  ·unfold tabsJ;simp only;rw[hT1];exact hP1
 intro X hX
 have fin: ∀(bs:List (List Int)) (a:Nat) (bq:Option Addr) (bk:Nat) (la:List Int) (H11:Heap),bs.length=O.length→(∀x∈bs,Blk x)→bres=some (bs,(bitsH B).drop a)→
  St H H11 (unR b37 B a true:: .sl bq bs.length bk 48 64 (ints bs.flatten):: .cell b39 (ints la).toArray 73:: .sl qo O.length mo 112 3 (ints (flat3 O)):: .cell r (tabV 22 (updV f 5 (.slice bq bs.length bk))) 97:: .cell b12 (tabV 6 (scanV f t)) 99:: .pers Q:: .cell b2 img0 37::[])→X [.int .i64 (O.length:Nat)] H11:=fun bs a bq bk la H11 hbsl hbs hbr hs12=>by
  rw[hbr] at hdec
  simp only at hdec
  have ha:=unR_a hs12
  obtain⟨rb2,hs12'⟩:=unR_op hs12
  refine hX _ H11 (br_n (by omega) ⟨_,rfl,_,hs12'.get 1 (j:=0) rfl rfl,c38 hs12' (i:=0) rfl ⟨_,rfl,br_dec (fun h8=>?_) (fun h8=>?_)⟩⟩)
  ·rw[if_pos (by rw[List.length_drop,bitsH_len];omega)] at hdec
   exact f0 hdec 7 hs12 rfl
  rw[if_neg (by rw[List.length_drop,bitsH_len];omega)] at hdec
  -- the steps of the parts
  have steps: ∀k,k<3→ ∃L bst,(stepsJ s).getD k []=L∧L.length=64∧(∀i,i<64→1≤L.getD i 0∧L.getD i 0≤255)∧updV f 5 (.slice bq bs.length bk) (7+k)= .int .i64 (s.wh.getD k 0:Nat)∧s.wh.getD k 0<4∧updV f 5 (.slice bq bs.length bk) (10+s.wh.getD k 0)= .pointer (some ⟨bst,0,none⟩)∧H11[bst]?=some (.cells (ints L).toArray 48):=fun k hk=>by
   obtain⟨w4,wk⟩:=hJr.wh k hk
   have is:=hscan.st k hk
   rcases hJr.st _ w4 with ⟨hn,_⟩|⟨L,bst,hL,hl64,hlr,hf,hq⟩
   ·rw[hn] at is;cases is
   refine⟨L,bst,?_,hl64,hlr,?_,w4,?_,hq _ (hs12.persGet 6 rfl)⟩
   ·unfold stepsJ
    rw[List.getD_eq_getElem?_getD,List.getElem?_map,List.getElem?_range hk]
    show(s.st.getD (s.wh.getD k 0) none).getD []=L
    rw[hL];rfl
   ·rw[updV_ne (by omega)];exact wk
   ·rw[updV_ne (by omega)];exact hf
  obtain⟨L0,s0,d0,l0,r0,x0,y0,z0,m0⟩:=steps 0 (by omega)
  obtain⟨L1,s1,d1,l1,r1,x1,y1,z1,m1⟩:=steps 1 (by omega)
  obtain⟨L2,s2,d2,l2,r2,x2,y2,z2,m2⟩:=steps 2 (by omega)
  have est:stepsJ s=[L0,L1,L2]:=by
   have hl3:(stepsJ s).length=3:=by simp[stepsJ]
   match h:stepsJ s,hl3 with
   |[A,B,C],_=>rw[h] at d0 d1 d2;simp at d0 d1 d2;rw[d0,d1,d2]
  rw[est] at hdec
  have hok:PaintOk W Ht s.half bs [L0,L1,L2]:=⟨by omega,by omega,hn,bW,bH,by rw[hO];exact hbsl,fun x hx=>(hbs x hx).1,fun x hx=>(hbs x hx).2,rfl,
   fun x hx=>by simp at hx;rcases hx with rfl|rfl|rfl<;>assumption,fun x hx=>by simp at hx;rcases hx with rfl|rfl|rfl<;>assumption⟩
  have cw: ∀(k:Nat),k<3→cell H11 (.add (.add ⟨r,0,none⟩ 7) (Int.toNat ((k:Nat):Int)*1))=some (updV f 5 (.slice bq bs.length bk) (7+k)):=fun k hk=>by
   rw[add_none,add_none,Nat.zero_add,Int.toNat_natCast,Nat.mul_one];exact getV hs12 4 rfl (by omega)
  have cs: ∀(k:Nat),k<4→cell H11 (.add (.add ⟨r,0,none⟩ 10) (Int.toNat ((k:Nat):Int)*1))=some (updV f 5 (.slice bq bs.length bk) (10+k)):=fun k hk=>by
   rw[add_none,add_none,Nat.zero_add,Int.toNat_natCast,Nat.mul_one];exact getV hs12 4 rfl (by omega)
  refine⟨_,rfl,_,rfl,by decide,by decide,(s.wh.getD 0 0:Nat),(cw 0 (by omega)).trans (by rw[x0]),_,rfl,by omega,by omega,some ⟨s0,0,none⟩,(cs _ y0).trans (by rw[z0]),_,rfl,(ints L0).toArray,by rw[intsA_size];exact l0,rowIn_whole m0,?_⟩
  refine⟨_,rfl,by decide,by decide,(s.wh.getD 1 0:Nat),(cw 1 (by omega)).trans (by rw[x1]),_,rfl,by omega,by omega,some ⟨s1,0,none⟩,(cs _ y1).trans (by rw[z1]),_,rfl,(ints L1).toArray,by rw[intsA_size];exact l1,rowIn_whole m1,?_⟩
  refine⟨_,rfl,by decide,by decide,(s.wh.getD 2 0:Nat),(cw 2 (by omega)).trans (by rw[x2]),_,rfl,by omega,by omega,some ⟨s2,0,none⟩,(cs _ y2).trans (by rw[z2]),_,rfl,(ints L2).toArray,by rw[intsA_size];exact l2,rowIn_whole m2,by rw[intsA_size];exact l0,by decide,by rw[intsA_size];exact l1,by decide,by rw[intsA_size];exact l2,by decide,?_⟩
  have eS:(List.toArray (setL (setL (setL (Array.toList (Array.replicate 192 (Value.int .i64 0))) 0 (ints L0).toArray.toList) 64 (ints L1).toArray.toList) 128 (ints L2).toArray.toList))=(ints [L0,L1,L2].flatten).toArray:=by
   rw[setL3 (by rw[Array.toList_replicate,List.length_replicate]) (by simpa[ints_len] using l0) (by simpa[ints_len] using l1) (by simpa[ints_len] using l2)]
   simp[ints]
  rw[eS]
  have hs13:St H H11 (.cell r (tabV 22 (updV f 5 (.slice bq bs.length bk))) 97:: .sl bq bs.length bk 48 64 (ints bs.flatten):: .cell b2 img0 37::[]):=by
   have h1:=hs12.front 4 rfl
   exact((((h1.del 1).del 2).del 2).del 2).del 2
  refine c39 hok hs13 (by rw[updV_ne (by omega),hJr.W,hW]) (by rw[updV_ne (by omega),hJr.Ht,hHt]) (by rw[updV_ne (by omega),hJr.rgb]) (by rw[updV_ne (by omega),hJr.half]) (updV_at _ _ _) (updV_one hJr.one rfl) fun q m H14 hs14=>⟨rfl,_,rfl,?_⟩
  have hpl:=paintM_len W Ht s.half bs [L0,L1,L2]
  generalize hPM:paintM W Ht s.half bs [L0,L1,L2]=PM at*
  refine⟨#[.int .i64 (W:Nat),.int .i64 (Ht:Nat),.slice q PM.length m,.bool s.half,.slice bq bs.length bk],rfl,?_,rfl,hs14.putAll 3 rfl rfl (by simp[Value.oneCell']) fun H15 hs15=>⟨#[.int .i64 (W:Nat),.int .i64 (Ht:Nat),.slice q PM.length m,.bool s.half,.slice bq bs.length bk],rfl,rowIn_whole (hs15.block 3 rfl),?_⟩⟩
  ·rw[add_none,Nat.zero_add]
   refine rowIn_block (hs14.block 1 rfl) fun j v hv=>?_
   have hj:=(Array.getElem?_eq_some_iff.1 hv).1
   have hj5:j<5:=hj
   rw[tabV_get (by omega)]
   obtain rfl|rfl|rfl|rfl|rfl:j=0∨j=1∨j=2∨j=3∨j=4:=by omega
   ·cases hv;rw[updV_ne (by omega),updV_ne (by omega),hJr.W,hW];rfl
   ·cases hv;rw[updV_ne (by omega),updV_ne (by omega),hJr.Ht,hHt];rfl
   ·cases hv;rw[updV_at];rfl
   ·cases hv;rw[updV_ne (by omega),updV_ne (by omega),hJr.half];rfl
   ·cases hv;rw[updV_ne (by omega),updV_at];rfl
  ·have:=hR _ hdec W Ht rfl rfl hok H15 q m bq bk
   simp only[hPM] at this
   refine this ?_
   exact((hs15.del 3).del 1)
 have loop: ∀(m i:Nat) (bs:List (List Int)) (la:List Int) (a:Nat) (bq:Option Addr) (bk:Nat) (H11:Heap),O.length-i≤m→i≤O.length→bs.length=i→(∀x∈bs,Blk x)→la.length=3→(∀j,-100000≤la.getD j 0∧la.getD j 0≤100000)→
  (blocksJ (tabsJ s t) (O.drop i) la ((bitsH B).drop a)).map (fun y=>(bs++y.1,y.2))=bres→
  St H H11 (unR b37 B a true:: .sl bq bs.length bk 48 64 (ints bs.flatten):: .cell b39 (ints la).toArray 73:: .sl qo O.length mo 112 3 (ints (flat3 O)):: .cell r (tabV 22 (updV f 5 (.slice bq bs.length bk))) 97:: .cell b12 (tabV 6 (scanV f t)) 99:: .pers Q:: .cell b2 img0 37::[])→X [.int .i64 (i:Nat)] H11:=by
  intro m
  induction m with
  |zero=>
   intro i bs la a bq bk H11 hm hi hbl hbs hla hlr he hs12
   have:i=O.length:=by omega
   subst this
   refine fin bs a bq bk la H11 hbl hbs ?_ hs12
   rw[←he,List.drop_eq_nil_of_le (by omega),blocksJ];simp
  |succ m ih=>
   intro i bs la a bq bk H11 hm hi hbl hbs hla hlr he hs12
   by_cases hlt:i<O.length
   ·refine hX _ H11 (br_y (by omega) ?_)
    have hu:=get_gD O (0,0,0) hlt
    have hdrop:O.drop i=O.getD i (0,0,0)::O.drop (i+1):=by
     rw[List.drop_eq_getElem_cons hlt]
     congr 1
     exact(gD_get (List.getElem?_eq_getElem hlt)).symm
    obtain⟨hk3,_,_⟩:=hin _ (List.mem_of_getElem? hu)
    generalize O.getD i (0,0,0)=v at*
    rw[hdrop,blocksJ] at he
    obtain⟨blk,hqo,hrow⟩:=rowPlaces (hs12.rs 3 rfl) hu hlt
    obtain⟨ta,tb,ht0,ht1,hP0,hP1⟩:=tabs v.1 hk3
    refine⟨_,hqo,by omega,by omega,_,rfl,by rw[add_none,Nat.zero_add,Int.toNat_natCast];exact hrow,?_⟩
    refine hs12.alc fun b46 H12 hs13=>⟨rfl,hs13.putAll 0 rfl rfl (by simp[Value.oneCell']) fun H13 hs14=>?_⟩
    have hs14:St H H13 (.cell b46 #[.int .i64 (v.1:Nat),.int .i64 (v.2.1:Nat),.int .i64 (v.2.2:Nat)] 112::unR b37 B a true:: .sl bq bs.length bk 48 64 (ints bs.flatten):: .cell b39 (ints la).toArray 73:: .sl qo O.length mo 112 3 (ints (flat3 O)):: .cell r (tabV 22 (updV f 5 (.slice bq bs.length bk))) 97:: .cell b12 (tabV 6 (scanV f t)) 99:: .pers Q:: .cell b2 img0 37::[]):=hs14
    clear hs13
    intro J hJ
    have join: ∀(bx:Nat) (Y:List Int) (okb:Bool) (a2:Nat) (H14:Heap),Y.length=64→St H H14 (.cell bx (ints Y).toArray 48::unR b37 B a2 okb:: .cell b46 #[.int .i64 (v.1:Nat),.int .i64 (v.2.1:Nat),.int .i64 (v.2.2:Nat)] 112:: .sl bq bs.length bk 48 64 (ints bs.flatten):: .cell b39 (ints la).toArray 73:: .sl qo O.length mo 112 3 (ints (flat3 O)):: .cell r (tabV 22 (updV f 5 (.slice bq bs.length bk))) 97:: .cell b12 (tabV 6 (scanV f t)) 99:: .pers Q:: .cell b2 img0 37::[])→
     (okb=false→blockJ (tabsJ s t v.1) (la.getD v.1 0) ((bitsH B).drop a)=none)→(okb=true→blockJ (tabsJ s t v.1) (la.getD v.1 0) ((bitsH B).drop a)=some (Y,(bitsH B).drop a2))→J [.pointer (some ⟨bx,0,none⟩)] H14:=fun bx Y okb a2 H14 hY hs15 hn' hy'=>by
     refine hJ _ H14 ⟨_,rfl,_,unR_ok hs15.swap,?_⟩
     cases okb with
     |false=>
      rw[hn' rfl] at he
      exact br_t rfl (f0 (hno he.symm) 9 hs15 rfl)
     |true=>
      have hyy:=hy' rfl
      rw[hyy] at he
      simp only at he
      have hYr:=(blockJ_rng (fun x hx=>bitsH_01 B x (List.mem_of_mem_drop hx)) hyy).1
      have hY0:=hYr.2 0
      refine br_f rfl ⟨_,hs15.get 2 (j:=0) rfl rfl,by decide,by decide,Y.getD 0 0,hs15.rdA 0 (j:=0) rfl (get_gD Y 0 (by omega)),by omega,by omega,?_⟩
      rw[add_none,Nat.zero_add,Int.toNat_natCast,Nat.mul_one]
      refine hs15.putA 4 rfl (by omega) fun H15 hs16=>⟨_,rfl,bq,bs.length,bk,?_,(ints Y).toArray,by rw[intsA_size];exact hY,rowIn_whole (hs16.block 0 rfl),by rw[intsA_size];exact hY,by decide,?_⟩
      ·exact(getV hs16 6 (j:=5) rfl (by omega)).trans (by rw[updV_at])
      rw[setL_all (by simpa[ints_len] using hY)]
      refine hs16.alcE fun b62 H16 e16 hs17=>⟨.inl e16,?_⟩
      refine hs17.appC 4 0 rfl rfl (by simpa[ints_len] using hY) (fun w hw=>ints_one Y w (by simpa using hw)) (by decide) (by simp) (by omega) (by omega) fun p' c' H17 hs18=>⟨_,rfl,?_⟩
      have hs18:=hs18.tail
      refine putV hs18 6 (j:=5) rfl (by omega) rfl fun H18 hs19=>?_
      rw[w1 (by omega)]
      have e3: ∀v v':Value,updV (updV f 5 v) 5 v'=updV f 5 v':=fun v v'=>by funext k;unfold updV;split<;>rfl
      rw[e3] at hs19
      have e4:ints bs.flatten++(ints Y).toArray.toList.toArray.toList=ints (bs++[Y]).flatten:=by simp[ints]
      have e5:bs.length+1=(bs++[Y]).length:=by simp
      refine ih (i+1) (bs++[Y]) (la.set v.1 (Y.getD 0 0)) a2 p' c' H18 (by omega) (by omega) (by simp;omega) (fun x hx=>?_) (by simp[hla]) (fun j=>?_) ?_ ?_
      ·rcases List.mem_append.1 hx with h|h
       ·exact hbs x h
       ·rw[List.mem_singleton.1 h];exact hYr
      ·rw[getD_set_ite _ _ _ _ _ (by omega)];split
       ·omega
       ·exact hlr j
      ·rw[←he]
       cases blocksJ (tabsJ s t) (O.drop (i+1)) (la.set v.1 (Y.getD 0 0)) ((bitsH B).drop a2) with
       |none=>rfl
       |some y=>simp
      ·rw[←e4,←e5]
       have hs20:=hs19.tail
       exact(hs20.del 1)
    have hrowb: ∀{H':Heap} {ρ:List Rs} (i:Nat),St H H' ρ→ρ[i]?=some (Rs.cell b12 (tabV 6 (scanV f t)) 99)→rowIn H' ⟨b12,v.1*2,none⟩ #[.pointer (some ⟨ta,0,none⟩),.pointer (some ⟨tb,0,none⟩)]:=fun i hs' hi'=>
     rowIn_block (hs'.block i hi') fun j w hw=>by
      have hj:j<2:=(Array.getElem?_eq_some_iff.1 hw).1
      rw[tabV_get (by omega)]
      obtain rfl|rfl:j=0∨j=1:=by omega
      ·cases hw;rw[Nat.add_zero,ht0];rfl
      ·cases hw;rw[ht1];rfl
    refine⟨_,hs14.get 0 (j:=0) rfl rfl,by omega,by omega,#[.pointer (some ⟨ta,0,none⟩),.pointer (some ⟨tb,0,none⟩)],rfl,by rw[add_none,Nat.zero_add,Int.toNat_natCast];exact hrowb 6 hs14 rfl,_,hs14.get 0 (j:=0) rfl rfl,by omega,by omega,la.getD v.1 0,?_,?_,?_⟩
    ·rw[add_none,Nat.zero_add,Int.toNat_natCast,Nat.mul_one];exact hs14.rdA 3 rfl (get_gD la 0 (by omega))
    ·refine(block_join (hs14.front 1 rfl) (j:=6) rfl hP0 hP1 (hlr _)).mono fun w H14 ⟨Y,okb,a2,hw,hB'⟩=>⟨_,hw,hB'.st.alc fun b76 H15 hs15=>⟨by rw[intsA_size];exact hB'.len,hs15.putAllA 0 rfl (by rw[hB'.len];simp) fun H16 hs16=>?_⟩⟩
     exact join b76 Y okb a2 H16 hB'.len hs16 hB'.no hB'.yes
    ·refine hs14.alcE fun b79 H14 e14 hs15=>⟨.inl e14,?_⟩
     refine(block_join (hs15.front 2 rfl) (j:=7) rfl hP0 hP1 (hlr _)).mono fun w H15 ⟨Y,okb,a2,hw,hB'⟩=>⟨_,hw,by rw[intsA_size];exact hB'.len,hB'.st.putAllA 1 rfl (by rw[hB'.len];simp) fun H16 hs16=>?_⟩
     exact join b79 Y okb a2 H16 hB'.len hs16.swap hB'.no hB'.yes
   ·have:i=O.length:=by omega
    subst this
    refine fin bs a bq bk la H11 hbl hbs ?_ hs12
    rw[←he,List.drop_eq_nil_of_le (by omega),blocksJ];simp
 have hf0:updV f 5 (.slice none 0 0)=f:=by
  funext k;unfold updV;split
  ·rename_i hk;subst hk;exact hJr.bl.symm
  ·rfl
 refine loop O.length 0 [] [0,0,0] 0 none 0 H10 (by omega) (by omega) rfl (by simp) rfl (fun j=>?_) ?_ ?_
 ·rcases Nat.lt_or_ge j 3 with h|h
  ·obtain rfl|rfl|rfl:j=0∨j=1∨j=2:=by omega
   all_goals exact⟨by decide,by decide⟩
  ·rw[gD_none _ _ (by simpa using h)];omega
 ·rw[List.drop_zero,List.drop_zero,hbres];cases bres<;>simp
 ·rw[show([]:List (List Int)).length=0 from rfl,hf0];exact hs11
end Go.Proofs
namespace Go.Proofs
open Go.Sh
variable {H0 H:Heap} {σ:List Rs} {R:Value→Heap→Prop}
def rd0(v:Value):Nat→Value:=fun i=>if i=0 then v else if i<3 then .int .i64 0 else if i<5 then .bool false else if i<264 then .int .i64 0 else if i<268 then .bool false else if i%4=0 then .bool false else .slice none 0 0
def rdZ:Array Value:=#[Value.slice none 0 0]++Array.replicate 2 (Value.int .i64 0)++Array.replicate 2 (Value.bool false)++Array.replicate 259 (Value.int .i64 0)++Array.replicate 5 (Value.bool false)++Array.replicate 3 (Value.slice none 0 0)++#[Value.bool false]++Array.replicate 3 (Value.slice none 0 0)++#[Value.bool false]++Array.replicate 3 (Value.slice none 0 0)++#[Value.bool false]++Array.replicate 3 (Value.slice none 0 0)++#[Value.bool false]++Array.replicate 3 (Value.slice none 0 0)++#[Value.bool false]++Array.replicate 3 (Value.slice none 0 0)++#[Value.bool false]++Array.replicate 3 (Value.slice none 0 0)++#[Value.bool false]++Array.replicate 3 (Value.slice none 0 0)
theorem rd0_arr(v:Value):List.toArray (List.set (Array.toList rdZ) 0 v)=tabV 300 (rd0 v):=by
 have h:Array.toList rdZ=(List.range 300).map (rd0 (.slice none 0 0)):=by kernel_rfl
 rw[h]
 unfold tabV
 refine congrArg List.toArray (List.ext_getElem? fun i=>?_)
 rcases Nat.eq_zero_or_pos i with h0|h0
 ·subst h0;rw[List.getElem?_set_self (by simp)];rfl
 ·rw[List.getElem?_set_ne (by omega),List.getElem?_map,List.getElem?_map]
  rcases Nat.lt_or_ge i 300 with h1|h1
  ·rw[List.getElem?_range h1,Option.map_some,Option.map_some]
   unfold rd0
   rw[if_neg (show ¬i=0 by omega),if_neg (show ¬i=0 by omega)]
  ·rw[List.getElem?_eq_none (by rw[List.length_range];exact h1)];rfl
theorem rd0_ok(p:Option Addr)(l c:Nat):RdJ H0 (fun _=>True) (rd0 (.slice p l c)) p l c jst0 where
 b:=rfl
 W:=rfl
 Ht:=rfl
 seen:=rfl
 half:=rfl
 hf:=fun _=>rfl
 wh k hk:=by
  obtain rfl|rfl|rfl:k=0∨k=1∨k=2:=by omega
  all_goals exact⟨by decide,rfl⟩
 has k hk:=by
  obtain rfl|rfl|rfl|rfl:k=0∨k=1∨k=2∨k=3:=by omega
  all_goals rfl
 st k L hk hL:=by
  obtain rfl|rfl|rfl|rfl:k=0∨k=1∨k=2∨k=3:=by omega
  all_goals cases hL
 cd k hk:=by
  obtain rfl|rfl|rfl|rfl|rfl|rfl|rfl|rfl:k=0∨k=1∨k=2∨k=3∨k=4∨k=5∨k=6∨k=7:=by omega
  all_goals exact .inl ⟨rfl,rfl⟩
 stl:=rfl
 cdl:=rfl
 one i:=by unfold rd0;split<;>(try rfl);split<;>(try rfl);split<;>(try rfl);split<;>(try rfl);split<;>(try rfl);split<;>rfl
structure BlkD(H0:Heap)(s:Nat)(q:Option Addr)(n m:Nat)(L:List Int)(T:TabJ×TabJ)(la:Int)(σ:List Rs)(a:Nat)(X:List Int)(okb:Bool)(a':Nat)(H':Heap):Prop where
 len:X.length=64
 le:a'≤n
 no:okb=false→blockJ T la (L.drop a)=none
 yes:okb=true→blockJ T la (L.drop a)=some (X,L.drop a')
 st:St H0 H' (btR s q n m a' okb::σ)
theorem blkD{s n m a:Nat}{q:Option Addr}{L:List Int}{j k:Nat}{Q:Heap→Prop}{Ta Tb:TabJ}{u1 u2 u3 v1 v2 v3:Value}(hs:St H0 H (btR s q n m a true::σ))(hj:σ[j]?=some (.sl q n m 3 1 (ints L)))(hk:σ[k]?=some (.pers Q))(hTa:DTab H0 Q Ta u1 u2 u3)(hTb:DTab H0 Q Tb v1 v2 v3)(hL:Bits01 L)(hn:n≤100000000000)(ha:a≤n)
 {la:Int}(hla: -32768≤la∧la≤32768):
 CallsH Tryz.prog 31 #[.pointer (some ⟨s,0,none⟩),.agg #[.bool true,u1,u2,u3],.agg #[.bool true,v1,v2,v3],.int .i64 la] H (fun w H'=> ∃X okb a',w= .agg (ints X).toArray∧BlkD H0 s q n m L (Ta,Tb) la σ a X okb a' H'):=
 c31 hs hj hk hTa hTb hL hn ha hla (fun hno X H' a' hX ha' hs'=>⟨X,false,a',rfl,hX,ha',fun _=>hno,nofun,hs'⟩)
  (fun X a' hy ha' hX H' hs'=>⟨X,true,a',rfl,hX,ha',nofun,fun _=>hy,hs'⟩)
set_option maxHeartbeats 4000000 in
theorem c9{p:Option Addr}{l c:Nat}{b:List Int}(hb:SlB H p l c b)(hl:l≤900000000)
 (hbad:decJ b=none→ ∀H',Ext H H'→R (.tuple #[.agg img0,.bool false]) H')
 (hR: ∀m,decJ b=some m→ ∀W Ht:Nat,m.W=W→m.Ht=Ht→PaintOk W Ht m.half m.bl m.st→ ∀H' q k bq bk,St H H' [.sl q (paintM W Ht m.half m.bl m.st).length k 5 1 (kints .u8 (paintM W Ht m.half m.bl m.st)),.sl bq m.bl.length bk 48 64 (ints m.bl.flatten)]→
  R (.tuple #[.agg #[.int .i64 (W:Nat),.int .i64 (Ht:Nat),.slice q (paintM W Ht m.half m.bl m.st).length k,.bool m.half,.slice bq m.bl.length bk],.bool true]) H'):
 CallsH Tryz.prog 9 #[.slice p l c] H R:=by
 have hbl:=hb.len
 refine Tryz.s9 ?_
 unfold Tryz.S9
 refine(St.nil H).alc fun b2 H1 hs1=>?_
 have f0:decJ b=none→ ∀{ρ:List Rs} {H':Heap} (i:Nat),St H H' ρ→ρ[i]?=some (.cell b2 img0 34)→img0.size=5∧stAt H' ⟨b2,0,none⟩ (Array.toList img0) fun H'=> ∃re:Array Value,re.size=5∧rowIn H' ⟨b2,0,none⟩ re∧R (.tuple #[.agg re,.bool false]) H':=fun hno {ρ H'} i hs hi=>
  fail5 (K:=fun re H'=>R (.tuple #[.agg re,.bool false]) H') hs i hi rfl (hbad hno)
 intro J hJ
 refine br_dec (fun h2=>f0 (by unfold decJ;rw[if_pos (.inl (by omega))]) 0 hs1 rfl) (fun h2=>hb.rd hs1.ext (by omega) (by omega) (br_ne (fun hff=>f0 (by unfold decJ;rw[if_pos (.inr (.inl hff))]) 0 hs1 rfl) (fun hff=>hb.rd hs1.ext (by omega) (by omega) (br_ne (fun hd8=>f0 (by unfold decJ;rw[if_pos (.inr (.inr hd8))]) 0 hs1 rfl) (fun hd8=>hJ H1 ⟨by decide,by omega,?_⟩)))))
 clear hJ J
 obtain⟨res,hdec⟩: ∃x,decJ b=x:=⟨_,rfl⟩
 have hdec0:=hdec
 unfold decJ at hdec
 rw[if_neg (by rw[show Int.toNat 0=0 from rfl] at hff;rw[show Int.toNat 1=1 from rfl] at hd8;omega)] at hdec
 have hb2:=hb.from_ (m:=2) (by omega)
 rw[show Int.toNat 2=2 from rfl]
 refine hs1.alc fun r H2 hs2=>?_
 have ez:=rd0_arr (.slice (if c=2 then p else Option.map (fun x=>Addr.add x (2*1)) p) (l-2) (c-2))
 unfold rdZ at ez
 rw[ez] at hs2
 have hs3:=rdJ_mk (rd0_ok (H0:=H) _ _ _) ((St.persTrue hs2).swap)
 clear hs2
 refine c29 hs3 hb2 (by omega) (fun hno cs H3 hcs ho hs4=>⟨_,_,rfl,?_⟩) (fun s t rest hhead f Q p' l' c' hJr hrest hl' H3 hs4=>⟨_,_,rfl,?_⟩)
 ·rw[hno] at hdec
  refine hs4.alc fun b12 H4 hs5=>⟨hcs,hs5.putAll 0 rfl (by rw[Array.length_toList,hcs];rfl) ho fun H5 hs6=>br_t rfl (f0 (hdec0.trans hdec.symm) 1 hs6 rfl)⟩
 rw[hhead] at hdec
 simp only at hdec
 obtain⟨hseen,hsized,hscan⟩:=headM_ok _ (Nat.le_refl _) (fun x hx=>hb.rng x (List.mem_of_mem_drop hx)) (fun h=>by cases h) hhead
 have hrl:=hrest.len
 have hwo: ∀i,(scanW t i).oneCell'=true:=fun i=>rfl
 refine hs4.alc fun b12 H4 hs5=>⟨tabV_size _ _,hs5.putAll 0 rfl (by rw[Array.length_toList,tabV_size];rfl) (tabV_one hwo) fun H5 hs6=>br_f rfl ?_⟩
 have hs6:St H H5 (.cell r (tabV 300 f) 80:: .cell b12 (tabV 6 (scanW t)) 81:: .pers Q:: .cell b2 img0 34::[]):=hs6.swap
 clear hs3 hs4 hs5 hs1
 have hrest5:SlB H5 p' l' c' rest:=⟨hrest.is.ext hs6.ext,hrest.le,hrest.rng⟩
 refine⟨_,rfl,p',l',c',by rw[←hJr.b];exact getV hs6 0 (j:=0) rfl (by omega),c30 (hs6) hrest hl' (fun hno cs H6 hcs ho hs7=>⟨_,_,rfl,?_⟩) (fun B hB hBl H6 q m hs7=>⟨_,_,rfl,?_⟩)⟩
 all_goals
  obtain⟨hW1,hH1,hW2,hH2,hA⟩:=hsized
  obtain⟨W,hW⟩:=Int.eq_ofNat_of_zero_le (show 0≤s.W by omega)
  obtain⟨Ht,hHt⟩:=Int.eq_ofNat_of_zero_le (show 0≤s.Ht by omega)
  rw[hW] at hW1 hA hW2
  rw[hHt] at hH1 hA hH2
  have hn:W*Ht≤4194304:=by rw[←Int.natCast_mul] at hA;omega
  have bW:W≤32768:=by omega
  have bH:Ht≤32768:=by omega
 ·rw[hno] at hdec
  refine hs7.alc fun b23 H7 hs8=>⟨hcs,hs8.putAll 0 rfl (by rw[Array.length_toList,hcs];rfl) ho fun H8 hs9=>⟨_,rfl,(W:Nat),?_,_,rfl,(Ht:Nat),?_,_,rfl,s.half,?_,?_⟩⟩
  ·rw[←hW,←hJr.W];exact getV hs9 1 (j:=1) rfl (by omega)
  ·rw[←hHt,←hJr.Ht];exact getV hs9 1 (j:=2) rfl (by omega)
  ·rw[←hJr.half];exact getV hs9 1 (j:=4) rfl (by omega)
  refine c25 (Nat.le_trans bW (by decide)) (Nat.le_trans bH (by decide)) fun H9 qo mo hs10=>⟨_,_,_,rfl,?_⟩
  have hs10:=hs9.call hs10
  intro J hJ
  exact br_t rfl (f0 (hdec0.trans hdec.symm) 5 hs10 rfl)
 rw[hB] at hdec
 simp only at hdec
 unfold bodyJ at hdec
 rw[hW,hHt,Int.toNat_natCast,Int.toNat_natCast] at hdec
 refine hs7.alc fun b23 H7 hs8=>⟨rfl,hs8.putAll 0 rfl rfl (by simp[Value.oneCell']) fun H8 hs9=>⟨_,rfl,(W:Nat),?_,_,rfl,(Ht:Nat),?_,_,rfl,s.half,?_,?_⟩⟩
 ·rw[←hW,←hJr.W];exact getV hs9 2 (j:=1) rfl (by omega)
 ·rw[←hHt,←hJr.Ht];exact getV hs9 2 (j:=2) rfl (by omega)
 ·rw[←hJr.half];exact getV hs9 2 (j:=4) rfl (by omega)
 refine c25 (Nat.le_trans bW (by decide)) (Nat.le_trans bH (by decide)) fun H9 qo mo hs10=>⟨_,_,_,rfl,?_⟩
 have hs10:=hs9.call hs10
 have hcnt:=order_cnt2 W Ht s.half (Nat.le_trans bW (by decide)) (Nat.le_trans bH (by decide))
 have hin:=order_in (W:=W) (Ht:=Ht) (half:=s.half)
 generalize hO:orderM W Ht s.half=O at*
 have hs10:St H H9 (.sl qo O.length mo 69 3 (ints (flat3 O))::btR b23 q (8*B.length) m 0 true:: .sl q (8*B.length) m 3 1 (ints (bitsH B)):: .cell r (tabV 300 f) 80:: .cell b12 (tabV 6 (scanW t)) 81:: .pers Q:: .cell b2 img0 34::[]):=hs10
 intro J35 hJ35
 refine br_f rfl ⟨_,_,_,hs10.get 1 (j:=0) rfl rfl,br_dec (fun hgt=>?_) (fun hgt=>hJ35 H9 ?_)⟩
 ·rw[if_pos (by omega)] at hdec
  exact f0 (hdec0.trans hdec.symm) 6 hs10 rfl
 clear hJ35 J35
 rw[if_neg (by omega)] at hdec
 refine hs10.alc fun b37 H10 hs11=>⟨_,rfl,(W:Nat),?_,_,rfl,(Ht:Nat),?_,_,rfl,s.half,?_,?_⟩
 ·rw[←hW,←hJr.W];exact getV hs11 4 (j:=1) rfl (by omega)
 ·rw[←hHt,←hJr.Ht];exact getV hs11 4 (j:=2) rfl (by omega)
 ·rw[←hJr.half];exact getV hs11 4 (j:=4) rfl (by omega)
 refine hs11.alcE fun b45 H11 e11 hs12=>⟨.inl e11,rfl,hs12.putAll 0 rfl rfl (by simp[Value.oneCell']) fun H12 hs13=>?_⟩
 have hs13:St H H12 (.cell b45 #[.int .i64 (W:Nat),.int .i64 (Ht:Nat),.slice none 0 0,.bool s.half,.slice none 0 0] 34:: .cell b37 (ints [0,0,0]).toArray 73:: .sl qo O.length mo 69 3 (ints (flat3 O))::btR b23 q (8*B.length) m 0 true:: .sl q (8*B.length) m 3 1 (ints (bitsH B)):: .cell r (tabV 300 f) 80:: .cell b12 (tabV 6 (scanW t)) 81:: .pers Q:: .cell b2 img0 34::[]):=hs13
 have hs15:=(((((((hs13.nilSl 48 64).front 3 rfl).front 2 rfl).front 3 rfl).front 3 rfl).front 5 rfl).front 5 rfl)
 generalize hτ:(Rs.sl qo O.length mo 69 3 (ints (flat3 O))::Rs.cell r (tabV 300 f) 80::Rs.cell b12 (tabV 6 (scanW t)) 81::Rs.pers Q::Rs.cell b2 img0 34::[])=τ
 have st0:St H H12 (btR b23 q (8*B.length) m 0 true:: .sl q (8*B.length) m 3 1 (ints (bitsH B)):: .sl none ([]:List (List Int)).length 0 48 64 (ints ([]:List (List Int)).flatten):: .cell b37 (ints [0,0,0]).toArray 73:: .cell b45 #[.int .i64 (W:Nat),.int .i64 (Ht:Nat),.slice none 0 0,.bool s.half,.slice none ([]:List (List Int)).length 0] 34::τ):=by
  rw[←hτ];exact hs15
 clear hs6 hs7 hs8 hs9 hs10 hs11 hs12 hs13 hs15
 have q0:τ[0]?=some (.sl qo O.length mo 69 3 (ints (flat3 O))):=by rw[←hτ];rfl
 have q1:τ[1]?=some (.cell r (tabV 300 f) 80):=by rw[←hτ];rfl
 have q2:τ[2]?=some (.cell b12 (tabV 6 (scanW t)) 81):=by rw[←hτ];rfl
 have q3:τ[3]?=some (.pers Q):=by rw[←hτ];rfl
 have q4:τ[4]?=some (.cell b2 img0 34):=by rw[←hτ];rfl
 have hL01:=bitsH_01 B
 have hBn:8*B.length≤100000000000:=by omega
 obtain⟨bres,hbres⟩: ∃x,blocksJ (tabsJ s t) O [0,0,0] (bitsH B)=x:=⟨_,rfl⟩
 rw[hbres] at hdec
 have hno:bres=none→decJ b=none:=fun h=>by rw[hdec0,←hdec,h]
 have up: ∀{c1 c2 c3 c4 c5:Rs} {i:Nat} {x:Rs},τ[i]?=some x→(c1::c2::c3::c4::c5::τ)[i+5]?=some x:=fun h=>h
 have tabs: ∀k,k<3→ ∃a b:Nat,scanW t (2*k)= .int .i64 (a:Nat)∧scanW t (2*k+1)= .int .i64 (b:Nat)∧a<8∧b<8∧f (268+a*4)= .bool true∧f (268+b*4)= .bool true∧
  DTab H Q (tabsJ s t k).1 (f (268+a*4+1)) (f (268+a*4+2)) (f (268+a*4+3))∧DTab H Q (tabsJ s t k).2 (f (268+b*4+1)) (f (268+b*4+2)) (f (268+b*4+3)):=fun k hk=>by
  obtain⟨h1,h2⟩:=hscan.rng k hk
  have i0:=hscan.c0 k hk
  have i1:=hscan.c1 k hk
  rcases hJr.cd _ (show(t.getD k (0,0)).1<8 by omega) with ⟨hn,_⟩|⟨T0,hT0,hf0,hP0⟩
  ·rw[hn] at i0;cases i0
  rcases hJr.cd _ h2 with ⟨hn,_⟩|⟨T1,hT1,hf1,hP1⟩
  ·rw[hn] at i1;cases i1
  refine⟨(t.getD k (0,0)).1,(t.getD k (0,0)).2,?_,?_,by omega,h2,hf0,hf1,?_,?_⟩
  ·unfold scanW;rw[if_pos (by omega),show 2*k/2=k by omega]
  ·unfold scanW;rw[if_neg (by omega),show(2*k+1)/2=k by omega]
  ·unfold tabsJ;simp only;rw[hT0];exact hP0
  ·unfold tabsJ;simp only;rw[hT1];exact hP1
 have row4: ∀{H':Heap} {ρ:List Rs} (i:Nat) (k:Nat),k<8→St H H' ρ→ρ[i]?=some (.cell r (tabV 300 f) 80)→f (268+k*4)= .bool true→rowIn H' (((⟨r,0,none⟩:Addr).add 268).add (Int.toNat (k:Int)*4)) #[.bool true,f (268+k*4+1),f (268+k*4+2),f (268+k*4+3)]:=fun{H' ρ} i k hk hs hi h0=>by
  rw[add_none,add_none,Nat.zero_add,Int.toNat_natCast]
  refine rowIn_block (hs.block i hi) fun j v hv=>?_
  have hj:j<4:=(Array.getElem?_eq_some_iff.1 hv).1
  rw[tabV_get (by omega)]
  obtain rfl|rfl|rfl|rfl:j=0∨j=1∨j=2∨j=3:=by omega
  ·cases hv;rw[Nat.add_zero,h0];rfl
  ·cases hv;rfl
  ·cases hv;rfl
  ·cases hv;rfl
 intro J48 hJ48 X hX
 -- behind the blocks
 have fin: ∀(bs:List (List Int)) (a:Nat) (okb:Bool) (bq:Option Addr) (bk:Nat) (la:List Int) (H13:Heap),a≤8*B.length→(okb=false→bres=none)→(okb=true→bs.length=O.length∧(∀x∈bs,Blk x)∧bres=some (bs,(bitsH B).drop a))→
  St H H13 (btR b23 q (8*B.length) m a okb:: .sl q (8*B.length) m 3 1 (ints (bitsH B)):: .sl bq bs.length bk 48 64 (ints bs.flatten):: .cell b37 (ints la).toArray 73:: .cell b45 #[.int .i64 (W:Nat),.int .i64 (Ht:Nat),.slice none 0 0,.bool s.half,.slice bq bs.length bk] 34::τ)→J48 [] H13:=fun bs a okb bq bk la H13 ha hf ht hs16=>by
  refine hJ48 H13 ?_
  intro J50 hJ50
  refine⟨_,hs16.get 0 (j:=2) rfl rfl,?_⟩
  cases okb with
  |false=>exact br_t rfl (f0 (hno (hf rfl)) 9 hs16 (up q4))
  |true=>
  obtain⟨hbsl,hbs,hbr⟩:=ht rfl
  rw[hbr] at hdec
  simp only at hdec
  have wl:IntKind.wrap .i64 (((8*B.length:Nat):Int)-(a:Nat))=((8*B.length-a:Nat):Int):=by rw[wrap_id (by omega) (by omega)];omega
  refine br_f rfl ⟨_,_,_,hs16.get 0 (j:=0) rfl rfl,_,hs16.get 0 (j:=1) rfl rfl,?_⟩
  rw[wl]
  refine br_dec (fun h8=>?_) (fun h8=>hJ50 H13 ?_)
  ·rw[if_pos (by rw[List.length_drop,bitsH_len];omega)] at hdec
   exact f0 (hdec0.trans hdec.symm) 9 hs16 (up q4)
  rw[if_neg (by rw[List.length_drop,bitsH_len];omega)] at hdec
  have steps: ∀k,k<3→ ∃L,(stepsJ s).getD k []=L∧L.length=64∧(∀i,i<64→1≤L.getD i 0∧L.getD i 0≤255)∧cell H13 (((⟨r,0,none⟩:Addr).add 5).add (Int.toNat (k:Int)*1))=some (.int .i64 (s.wh.getD k 0:Nat))∧s.wh.getD k 0<4∧rowIn H13 (((⟨r,0,none⟩:Addr).add 8).add (Int.toNat ((s.wh.getD k 0:Nat):Int)*64)) (ints L).toArray:=fun k hk=>by
   obtain⟨w4,wk⟩:=hJr.wh k hk
   have is:=hscan.st k hk
   cases hL:s.st.getD (s.wh.getD k 0) none with
   |none=>rw[hL] at is;cases is
   |some L=>
    obtain⟨a1,a2,a3⟩:=hJr.st _ L w4 hL
    refine⟨L,?_,a1,a2,?_,w4,?_⟩
    ·unfold stepsJ
     rw[List.getD_eq_getElem?_getD,List.getElem?_map,List.getElem?_range hk]
     show(s.st.getD (s.wh.getD k 0) none).getD []=L
     rw[hL];rfl
    ·rw[add_none,add_none,Nat.zero_add,Int.toNat_natCast,Nat.mul_one,getV hs16 6 (up q1) (by omega),wk]
    ·rw[add_none,add_none,Nat.zero_add,Int.toNat_natCast]
     refine rowIn_block (hs16.block 6 (up q1)) fun j v hv=>?_
     have hj:j<64:=by
      have:=(Array.getElem?_eq_some_iff.1 hv).1
      rw[intsA_size] at this;omega
     rw[tabV_get (by omega),a3 j hj]
     rw[List.getElem?_toArray,ints_get (get_gD L 0 (by omega))] at hv
     exact hv
  obtain⟨L0,d0,l0,r0,x0,y0,m0⟩:=steps 0 (by omega)
  obtain⟨L1,d1,l1,r1,x1,y1,m1⟩:=steps 1 (by omega)
  obtain⟨L2,d2,l2,r2,x2,y2,m2⟩:=steps 2 (by omega)
  have est:stepsJ s=[L0,L1,L2]:=by
   have hl3:(stepsJ s).length=3:=by simp[stepsJ]
   match h:stepsJ s,hl3 with
   |[A,B,C],_=>rw[h] at d0 d1 d2;simp at d0 d1 d2;rw[d0,d1,d2]
  rw[est] at hdec
  have hok:PaintOk W Ht s.half bs [L0,L1,L2]:=⟨by omega,by omega,hn,bW,bH,by rw[hO];exact hbsl,fun x hx=>(hbs x hx).1,fun x hx=>(hbs x hx).2,rfl,
   fun x hx=>by simp at hx;rcases hx with rfl|rfl|rfl<;>assumption,fun x hx=>by simp at hx;rcases hx with rfl|rfl|rfl<;>assumption⟩
  refine⟨_,rfl,(W:Nat),?_,_,rfl,(Ht:Nat),?_,_,rfl,s.half,?_,_,_,_,hs16.get 4 (j:=4) rfl rfl,?_⟩
  ·rw[←hW,←hJr.W];exact getV hs16 6 (j:=1) (up q1) (by omega)
  ·rw[←hHt,←hJr.Ht];exact getV hs16 6 (j:=2) (up q1) (by omega)
  ·rw[←hJr.half];exact getV hs16 6 (j:=4) (up q1) (by omega)
  refine⟨_,rfl,by decide,by decide,_,x0,_,rfl,by omega,by omega,(ints L0).toArray,by rw[intsA_size];exact l0,m0,_,rfl,by decide,by decide,_,x1,_,rfl,by omega,by omega,(ints L1).toArray,by rw[intsA_size];exact l1,m1,_,rfl,by decide,by decide,_,x2,_,rfl,by omega,by omega,(ints L2).toArray,by rw[intsA_size];exact l2,m2,by rw[intsA_size];exact l0,by decide,by rw[intsA_size];exact l1,by decide,by rw[intsA_size];exact l2,by decide,?_⟩
  have eS:(List.toArray (setL (setL (setL (Array.toList (Array.replicate 192 (Value.int .i64 0))) 0 (ints L0).toArray.toList) 64 (ints L1).toArray.toList) 128 (ints L2).toArray.toList))=(ints [L0,L1,L2].flatten).toArray:=by
   rw[setL3 (by rw[Array.toList_replicate,List.length_replicate]) (by simpa[ints_len] using l0) (by simpa[ints_len] using l1) (by simpa[ints_len] using l2)]
   simp[ints]
  rw[eS]
  have hs17:=hs16.front 2 rfl
  refine c32 hok hs17 fun q' m' H14 hs18=>⟨_,_,_,rfl,?_⟩
  have hpl:=paintM_len W Ht s.half bs [L0,L1,L2]
  have hRf:=hR _ (hdec0.trans hdec.symm) W Ht rfl rfl hok
  simp only at hRf
  generalize hPM:paintM W Ht s.half bs [L0,L1,L2]=PM at*
  refine hs18.put 5 rfl (Nat.lt_of_sub_eq_succ rfl) rfl fun H15 hs19=>?_
  have i4:τ[4]?=some (.cell b2 img0 34):=q4
  refine retVia (K:=fun re H'=>R (.tuple #[.agg re,.bool true]) H') hs19 5 10 rfl i4 rfl rfl (by simp[Value.oneCell']) fun H16 hs20=>?_
  refine hRf H16 q' m' bq bk ?_
  have hs21:St H H16 ([.sl q' PM.length m' 5 1 (kints .u8 PM),.sl bq bs.length bk 48 64 (ints bs.flatten)]++_):=hs20
  exact hs21.app.1
 have loop: ∀(mm i:Nat) (bs:List (List Int)) (la:List Int) (a:Nat) (okb:Bool) (bq:Option Addr) (bk:Nat) (H13:Heap),O.length-i≤mm→i≤O.length→a≤8*B.length→la.length=3→bs.length≤i→(okb=false→bres=none)→
  (okb=true→bs.length=i∧(∀x∈bs,Blk x)∧(∀j,-32768≤la.getD j 0∧la.getD j 0≤32768)∧(blocksJ (tabsJ s t) (O.drop i) la ((bitsH B).drop a)).map (fun y=>(bs++y.1,y.2))=bres)→
  St H H13 (btR b23 q (8*B.length) m a okb:: .sl q (8*B.length) m 3 1 (ints (bitsH B)):: .sl bq bs.length bk 48 64 (ints bs.flatten):: .cell b37 (ints la).toArray 73:: .cell b45 #[.int .i64 (W:Nat),.int .i64 (Ht:Nat),.slice none 0 0,.bool s.half,.slice bq bs.length bk] 34::τ)→X [.int .i64 (i:Nat)] H13:=by
  intro mm
  induction mm with
  |zero=>
   intro i bs la a okb bq bk H13 hm hi ha hla hbi hf ht hs16
   have:i=O.length:=by omega
   subst this
   refine hX _ H13 ?_
   intro J88 hJ88
   refine br_n (by omega) (fin bs a okb bq bk la H13 ha hf (fun h=>?_) hs16)
   obtain⟨h1,h2,_,h4⟩:=ht h
   refine⟨h1,h2,?_⟩
   rw[←h4,List.drop_eq_nil_of_le (by omega),blocksJ];simp
  |succ mm ih=>
   intro i bs la a okb bq bk H13 hm hi ha hla hbi hf ht hs16
   refine hX _ H13 ?_
   intro J88 hJ88
   rcases Nat.lt_or_ge i O.length with hlt|hge
   rotate_left
   ·have:i=O.length:=by omega
    subst this
    refine br_n (by omega) (fin bs a okb bq bk la H13 ha hf (fun h=>?_) hs16)
    obtain⟨h1,h2,_,h4⟩:=ht h
    refine⟨h1,h2,?_⟩
    rw[←h4,List.drop_eq_nil_of_le (by omega),blocksJ];simp
   refine br_y (by omega) ⟨_,hs16.get 0 (j:=2) rfl rfl,?_⟩
   cases okb with
   |false=>exact br_f rfl (fin bs a false bq bk la H13 ha hf nofun hs16)
   |true=>
   obtain⟨hbl,hbs,hlr,he⟩:=ht rfl
   have hu:=get_gD O (0,0,0) hlt
   have hdrop:O.drop i=O.getD i (0,0,0)::O.drop (i+1):=by
    rw[List.drop_eq_getElem_cons hlt]
    congr 1
    exact(gD_get (List.getElem?_eq_getElem hlt)).symm
   obtain⟨hk3,_,_⟩:=hin _ (List.mem_of_getElem? hu)
   generalize O.getD i (0,0,0)=v at*
   rw[hdrop,blocksJ] at he
   obtain⟨blk,hqo,hrow⟩:=rowPlaces (hs16.rs 5 (up q0)) hu hlt
   obtain⟨ta,tb,ht0,ht1,ha8,hb8,hfa,hfb,hP0,hP1⟩:=tabs v.1 hk3
   refine br_t rfl (hJ88 H13 ⟨_,hqo,by omega,by omega,(v.1:Nat),by rw[add_none,Nat.zero_add,Int.toNat_natCast];exact hrow 0 _ rfl,?_⟩)
   intro J92 hJ92
   have join: ∀(bx:Nat) (Y:List Int) (okb2:Bool) (a2:Nat) (H14:Heap),Y.length=64→a2≤8*B.length→St H H14 (.cell bx (ints Y).toArray 48::btR b23 q (8*B.length) m a2 okb2:: .sl q (8*B.length) m 3 1 (ints (bitsH B)):: .sl bq bs.length bk 48 64 (ints bs.flatten):: .cell b37 (ints la).toArray 73:: .cell b45 #[.int .i64 (W:Nat),.int .i64 (Ht:Nat),.slice none 0 0,.bool s.half,.slice bq bs.length bk] 34::τ)→
    (okb2=false→blockJ (tabsJ s t v.1) (la.getD v.1 0) ((bitsH B).drop a)=none)→(okb2=true→blockJ (tabsJ s t v.1) (la.getD v.1 0) ((bitsH B).drop a)=some (Y,(bitsH B).drop a2))→J92 [.pointer (some ⟨bx,0,none⟩)] H14:=fun bx Y okb2 a2 H14 hY ha2 hs17 hn' hy'=>by
    refine hJ92 _ H14 ⟨by decide,by decide,Y.getD 0 0,hs17.rdA 0 (j:=0) rfl (get_gD Y 0 (by omega)),by omega,by omega,?_⟩
    rw[add_none,Nat.zero_add,Int.toNat_natCast,Nat.mul_one]
    refine hs17.putA 4 rfl (by omega) fun H15 hs18=>⟨_,_,_,hs18.get 5 (j:=4) rfl rfl,(ints Y).toArray,by rw[intsA_size];exact hY,rowIn_whole (hs18.block 0 rfl),by rw[intsA_size];exact hY,by decide,?_⟩
    rw[setL_all (by simpa[ints_len] using hY)]
    refine hs18.alc fun b99 H16 hs19=>?_
    refine hs19.appC 4 0 rfl rfl (by simpa[ints_len] using hY) (fun w hw=>ints_one Y w (by simpa using hw)) (by decide) (by simp) (by omega) (by omega) fun p' c' H17 hs20=>?_
    have hs20:=hs20.tail
    refine hs20.put 5 rfl (Nat.lt_of_sub_eq_succ rfl) rfl fun H18 hs21=>?_
    rw[w1 (by omega)]
    have e4:ints bs.flatten++(ints Y).toArray.toList.toArray.toList=ints (bs++[Y]).flatten:=by simp[ints]
    have e5:bs.length+1=(bs++[Y]).length:=by simp
    refine ih (i+1) (bs++[Y]) (la.set v.1 (Y.getD 0 0)) a2 okb2 p' c' H18 (by omega) (by omega) ha2 (by simp[hla]) (by simp;omega) (fun h=>?_) (fun h=>?_) ?_
    ·rw[hn' h] at he;exact he.symm
    ·have hyy:=hy' h
     rw[hyy] at he
     simp only at he
     have hYr:=(blockJ_rng (fun x hx=>bitsH_01 B x (List.mem_of_mem_drop hx)) hyy).1
     have hY0:=hYr.2 0
     refine⟨by simp;omega,fun x hx=>?_,fun j=>?_,?_⟩
     ·rcases List.mem_append.1 hx with h|h
      ·exact hbs x h
      ·rw[List.mem_singleton.1 h];exact hYr
     ·rw[getD_set_ite _ _ _ _ _ (by omega)];split
      ·omega
      ·exact hlr j
     ·rw[←he]
      cases blocksJ (tabsJ s t) (O.drop (i+1)) (la.set v.1 (Y.getD 0 0)) ((bitsH B).drop a2) with
      |none=>rfl
      |some y=>simp
    ·rw[←e4,←e5]
     exact hs21.tail
   have w2:IntKind.wrap .i64 ((2:Int)*(v.1:Nat))=((2*v.1:Nat):Int):=by rw[wrap_id (by omega) (by omega)];omega
   have w21:IntKind.wrap .i64 (((2*v.1:Nat):Int)+1)=((2*v.1+1:Nat):Int):=by rw[wrap_id (by omega) (by omega)];omega
   rw[w2,w21]
   refine⟨by omega,by omega,(ta:Nat),?_,_,rfl,by omega,by omega,_,rfl,row4 6 ta ha8 hs16 (up q1) hfa,by omega,by omega,(tb:Nat),?_,_,rfl,by omega,by omega,_,rfl,row4 6 tb hb8 hs16 (up q1) hfb,by omega,by omega,la.getD v.1 0,?_,?_,?_⟩
   ·rw[add_none,Nat.zero_add,Int.toNat_natCast,Nat.mul_one,getV hs16 7 (up q2) (by omega),ht0]
   ·rw[add_none,Nat.zero_add,Int.toNat_natCast,Nat.mul_one,getV hs16 7 (up q2) (by omega),ht1]
   ·rw[add_none,Nat.zero_add,Int.toNat_natCast,Nat.mul_one];exact hs16.rdA 3 rfl (get_gD la 0 (by omega))
   ·refine(blkD hs16 (j:=0) (k:=7) rfl q3 hP0 hP1 hL01 hBn ha (hlr _)).mono fun w H14 ⟨Y,okb2,a2,hw,hB'⟩=>⟨_,hw,hB'.st.alc fun b76 H15 hs17=>⟨by rw[intsA_size];exact hB'.len,?_⟩⟩
    rw[zeroA] at hs17
    exact hs17.putAllA 0 rfl (by rw[hB'.len];rfl) fun H16 hs18=>join b76 Y okb2 a2 H16 hB'.len hB'.le hs18 hB'.no hB'.yes
   ·refine hs16.alcE fun b79 H14 e14 hs17=>⟨.inl e14,?_⟩
    rw[zeroA] at hs17
    refine(blkD hs17.swap (j:=1) (k:=8) rfl q3 hP0 hP1 hL01 hBn ha (hlr _)).mono fun w H15 ⟨Y,okb2,a2,hw,hB'⟩=>⟨_,hw,by rw[intsA_size];exact hB'.len,?_⟩
    exact hB'.st.putAllA 1 rfl (by rw[hB'.len];rfl) fun H16 hs18=>join b79 Y okb2 a2 H16 hB'.len hB'.le hs18.swap hB'.no hB'.yes
 refine loop O.length 0 [] [0,0,0] 0 true none 0 H12 (by omega) (by omega) (by omega) rfl (by simp) nofun (fun _=>⟨rfl,by simp,fun j=>?_,?_⟩) st0
 ·rcases Nat.lt_or_ge j 3 with h|h
  ·obtain rfl|rfl|rfl:j=0∨j=1∨j=2:=by omega
   all_goals exact⟨by decide,by decide⟩
  ·rw[gD_none _ _ (by simpa using h)];omega
 ·rw[List.drop_zero,List.drop_zero,hbres];cases bres<;>simp
end Go.Proofs
namespace Go.Proofs
open Go.Sh
def sizeM(v:Int):Nat:=if v=0 then 0 else Nat.log2 v.natAbs+1
def bitsM(v:Int):Int:=if v<0 then v+2^sizeM v-1 else v
theorem size_pow{v:Int}(h:v≠0):0<sizeM v∧(2:Int)^(sizeM v-1)≤v.natAbs∧(v.natAbs:Int)<2^sizeM v:=by
 unfold sizeM
 rw[if_neg h]
 have h1:=Nat.log2_self_le (n:=v.natAbs) (by omega)
 have h2:=Nat.lt_log2_self (n:=v.natAbs)
 refine⟨by omega,?_,?_⟩
 ·rw[Nat.add_sub_cancel,←pow_cast];omega
 ·rw[←pow_cast];omega
theorem size_le{v:Int}{k:Nat}(h:(v.natAbs:Int)<2^k):sizeM v≤k:=by
 rcases Nat.lt_or_ge k (sizeM v) with hl|hl
 ·exfalso
  by_cases h0:v=0
  ·unfold sizeM at hl;rw[if_pos h0] at hl;omega
  ·obtain⟨h1,h2,_⟩:=size_pow h0
   have:=pow_le (m:=k) (n:=sizeM v-1) (by omega)
   omega
 ·exact hl
theorem pow_succ_pred{n:Nat}(h:0<n):(2:Int)^n=2*2^(n-1):=by
 obtain⟨k,rfl⟩: ∃k,n=k+1:=⟨n-1,by omega⟩
 rw[Nat.add_sub_cancel,Int.pow_succ];omega
theorem sign_bits(v:Int):signM (sizeM v) (bitsM v)=v∧0≤bitsM v∧bitsM v<2^sizeM v:=by
 by_cases h0:v=0
 ·subst h0;exact⟨rfl,by decide,by decide⟩
 ·obtain⟨h1,h2,h3⟩:=size_pow h0
  have h4:=pow_succ_pred h1
  unfold signM bitsM
  by_cases hn:v<0
  ·rw[if_pos hn,if_pos ⟨h1,by omega⟩];omega
  ·rw[if_neg hn,if_neg (by omega)];omega
theorem bitsOf_succ(v:Int)(n:Nat):bitsOf true v (n+1)=bitsOf true (v/2) n++[v%2]:=by
 unfold bitsOf
 rw[List.range_succ,List.map_append]
 congr 1
 ·refine List.map_congr_left fun k hk=>?_
  have hk:=List.mem_range.1 hk
  simp only[if_true]
  rw[show n+1-1-k=n-1-k+1 by omega,Int.pow_succ,Int.mul_comm,←Int.ediv_ediv_of_nonneg (by omega)]
 ·simp
theorem valB_bits: ∀(n:Nat) (v:Int),0≤v→v<2^n→valB (bitsOf true v n)=v
 |0,v,h0,h1=>by
  simp at h1;have:v=0:=by omega
  subst this;rfl
 |n+1,v,h0,h1=>by
  rw[Int.pow_succ] at h1
  rw[bitsOf_succ,valB_snoc,valB_bits n (v/2) (by omega) (by omega)];omega
theorem numJ_bits{n:Nat}{v:Int}(h0:0≤v)(h1:v<2^n)(rest:List Int):numJ n (bitsOf true v n++rest)=some (signM n v,rest):=by
 unfold numJ
 have hl:=bitsOf_len true v n
 rw[if_neg (by rw[List.length_append];omega),List.take_append_of_le_length (by omega),List.take_of_length_le (by omega),valB_bits n v h0 h1,List.drop_append,List.drop_eq_nil_of_le (by omega),hl,Nat.sub_self]
 rfl
theorem symB_has{ls:List Int}(ok:OkC ls){s m:Nat}(hs:ls[s]?=some (m:Int))(rest:List Int): ∀(d j f:Nat),j+d=m→0<d→d≤f→symB ls f j (codeM ls s/2^(m-j)) ((bitsOf true (codeM ls s) m).drop j++rest)=some (s,rest)
 |0,j,f,hj,h0,hf=>by omega
 |d+1,j,f,hj,h0,hf=>by
  obtain⟨f,rfl⟩: ∃g,f=g+1:=⟨f-1,by omega⟩
  have hg:(bitsOf true (codeM ls s) m).getD j 0=codeM ls s/2^(m-1-j)%2:=by rw[bitsOf_get (by omega),if_pos rfl]
  have hb:(bitsOf true (codeM ls s) m).drop j=codeM ls s/2^(m-1-j)%2::(bitsOf true (codeM ls s) m).drop (j+1):=by
   rw[List.drop_eq_getElem_cons (by rw[bitsOf_len];omega),←hg]
   congr 1
   exact(gD_get (List.getElem?_eq_getElem _)).symm
  have hv:2*(codeM ls s/2^(m-j))+codeM ls s/2^(m-1-j)%2=codeM ls s/2^(m-1-j):=by
   have:=div_bit (codeM ls s) (m-1-j)
   rwa [show m-1-j+1=m-j from by omega] at this
  rw[hb,List.cons_append,symB,hv]
  by_cases hd:d=0
  ·subst hd
   have e:m-1-j=0:=by omega
   have hm:j+1=m:=by omega
   rw[e,Int.pow_zero,Int.ediv_one,hm,findM_eq ok (by omega) hs rfl]
   simp only
   rw[List.drop_eq_nil_of_le (by rw[bitsOf_len];omega),List.nil_append]
  ·have hf':findM ls (j+1) (codeM ls s/2^(m-1-j))=none:=by
    cases hf2:findM ls (j+1) (codeM ls s/2^(m-1-j)) with
    |none=>rfl
    |some t=>
     obtain⟨h1,h2⟩:=findM_some hf2
     have hts:t≠s:=fun he=>by subst he;rw[hs] at h1;have:=Option.some.inj h1;omega
     have:=no_prefix ok hts h1 hs (by omega) (by omega)
     rw[show m-(j+1)=m-1-j from by omega] at this
     exact absurd h2.symm this
   have hbg:begM ls (j+1) (codeM ls s/2^(m-1-j))=true:=begM_mk hs (by omega) (by rw[show m-(j+1)=m-1-j from by omega])
   rw[hf',hbg]
   simp only[if_true]
   have:=symB_has ok hs rest d (j+1) f (by omega) (by omega) (by omega)
   rw[show m-(j+1)=m-1-j from by omega] at this
   exact this
theorem symJ_has{ls:List Int}(ok:OkC ls){s m:Nat}(hs:ls[s]?=some (m:Int))(hm:0<m)(rest:List Int):symJ ls (bitsOf true (codeM ls s) m++rest)=some (s,rest):=by
 have hr:=ok.w.rng _ (List.mem_of_getElem? hs)
 have hc:=code_rng ok hs (by omega)
 have:=symB_has ok hs rest m 0 17 (by omega) (by omega) (by omega)
 rw[Nat.sub_zero,Int.ediv_eq_zero_of_lt hc.1 hc.2,List.drop_zero] at this
 exact this
structure Itm where
 t:Nat
 s:Int
 v:Int
 n:Nat
def acI(t:Nat)(b:List Int)(k z:Nat):List Itm:=
 if k<64 then
  if b.getD (zig k) 0=0 then acI t b (k+1) (z+1)
  else List.replicate (z/16) ⟨t+2,240,0,0⟩++⟨t+2,((16*(z%16)+sizeM (b.getD (zig k) 0):Nat):Int),bitsM (b.getD (zig k) 0),sizeM (b.getD (zig k) 0)⟩::acI t b (k+1) 0
 else if 0<z then[⟨t+2,0,0,0⟩] else[]
termination_by 64-k
def blkI(t:Nat)(last:Int)(b:List Int):List Itm:=⟨t,(sizeM (b.getD 0 0-last):Nat),bitsM (b.getD 0 0-last),sizeM (b.getD 0 0-last)⟩::acI t b 1 0
def itemsM:List (Nat×Nat×Nat)→List (List Int)→List Int→List Itm
 |u::O,b::bl,la=>blkI (min u.1 1) (la.getD u.1 0) b++itemsM O bl (la.set u.1 (b.getD 0 0))
 |_,_,_=>[]
def itBits(E:Nat→Int→List Int)(x:Itm):List Int:=E x.t x.s++bitsOf true x.v x.n
def itsBits(E:Nat→Int→List Int)(l:List Itm):List Int:=l.flatMap (itBits E)
theorem itsBits_append(E:Nat→Int→List Int)(a b:List Itm):itsBits E (a++b)=itsBits E a++itsBits E b:=by simp[itsBits]
theorem itsBits_cons(E:Nat→Int→List Int)(a:Itm)(b:List Itm):itsBits E (a::b)=itBits E a++itsBits E b:=rfl
def Reads(T:TabJ)(e:Int→List Int)(c:Int):Prop:= ∀rest,∃i,symJ T.1 (e c++rest)=some (i,rest)∧T.2.getD i 0=c
theorem ac_runs{T:TabJ}{E:Nat→Int→List Int}{t:Nat}{out rest:List Int}(hr:Reads T (E (t+2)) 240): ∀(r q:Nat),q+16*r≤64→acJ T q out (itsBits E (List.replicate r ⟨t+2,240,0,0⟩)++rest)=acJ T (q+16*r) out rest
 |0,q,h=>by simp[itsBits]
 |r+1,q,h=>by
  rw[List.replicate_succ,itsBits_cons,List.append_assoc]
  obtain⟨i,h1,h2⟩:=hr (itsBits E (List.replicate r ⟨t+2,240,0,0⟩)++rest)
  have hb:itBits E ⟨t+2,240,0,0⟩=E (t+2) 240:=by simp[itBits,bitsOf]
  rw[hb,acJ,if_pos (by omega),h1]
  simp only
  rw[h2,if_neg (by decide),if_neg (by
   intro hh
   rcases hh with hh|hh|hh
   ·exact absurd hh (by decide)
   ·exact absurd hh.2 (by decide)
   ·have:((240:Int)/16).toNat=15:=by decide
    omega),if_pos (by decide),show((240:Int)/16).toNat=15 from by decide,ac_runs hr r (q+15+1) (by omega)]
  congr 1;omega
theorem acI_read{T:TabJ}{E:Nat→Int→List Int}{t:Nat}{b rest:List Int}(hbl:b.length=64)(hb: ∀k,1≤k→k<64→((b.getD (zig k) 0).natAbs:Int)<1024): ∀(m k z:Nat) (out:List Int),64-k≤m→k≤64→z<k→(∀j,k-z≤j→j<k→b.getD (zig j) 0=0)→
 out.length=64→(∀j,j<64→out.getD (zig j) 0=if j<k then b.getD (zig j) 0 else 0)→(∀x∈acI t b k z,Reads T (E (t+2)) x.s)→acJ T (k-z) out (itsBits E (acI t b k z)++rest)=some (b,rest):=by
 intro m
 have done: ∀(k z:Nat) (out:List Int),k=64→z<k→out.length=64→(∀j,j<64→out.getD (zig j) 0=if j<k then b.getD (zig j) 0 else 0)→(∀x∈acI t b k z,Reads T (E (t+2)) x.s)→acJ T (k-z) out (itsBits E (acI t b k z)++rest)=some (b,rest):=by
  intro k z out hk hz hol ho hr
  have hout:out=b:=list_ext_getD hol hbl fun j hj=>by
   have:=ho (zag j) (zag_lt hj)
   rw[zig_zag hj,if_pos (by have:=zag_lt hj;omega)] at this
   exact this
  subst hk
  rw[acI,if_neg (by omega)] at hr ⊢
  by_cases h0:0<z
  ·rw[if_pos h0] at hr ⊢
   obtain⟨i,h1,h2⟩:=hr _ (List.mem_singleton.2 rfl) rest
   have hbb:itsBits E [⟨t+2,0,0,0⟩]=E (t+2) 0:=by simp[itsBits,itBits,bitsOf]
   rw[hbb,acJ,if_pos (by omega),h1]
   simp only
   rw[h2,if_pos rfl,hout]
  ·rw[if_neg h0,acJ,if_neg (by omega)]
   simp[itsBits,hout]
 induction m with
 |zero=>
  intro k z out hm hk hz hp hol ho hr
  exact done k z out (by omega) hz hol ho hr
 |succ m ih=>
  intro k z out hm hk hz hp hol ho hr
  by_cases hk64:k=64
  ·exact done k z out hk64 hz hol ho hr
  have hk':k<64:=by omega
  rw[acI,if_pos hk'] at hr ⊢
  by_cases h0:b.getD (zig k) 0=0
  ·rw[if_pos h0] at hr ⊢
   have:=ih (k+1) (z+1) out (by omega) (by omega) (by omega) (fun j h1 h2=>by
    rcases Nat.lt_or_ge j k with h|h
    ·exact hp j (by omega) h
    ·rw[show j=k by omega];exact h0) hol (fun j hj=>by
    rw[ho j hj]
    by_cases h1:j<k
    ·rw[if_pos h1,if_pos (by omega)]
    ·rw[if_neg h1]
     by_cases h2:j=k
     ·subst h2;rw[if_pos (by omega),h0]
     ·rw[if_neg (by omega)]) hr
   rwa [show k+1-(z+1)=k-z by omega] at this
  ·rw[if_neg h0] at hr ⊢
   generalize hv:b.getD (zig k) 0=v at*
   have hv1:=hb k (by omega) hk'
   rw[hv] at hv1
   have hn:sizeM v≤10:=size_le (by simpa using hv1)
   obtain⟨hn0,_,_⟩:=size_pow h0
   obtain⟨s1,s2,s3⟩:=sign_bits v
   rw[itsBits_append,List.append_assoc,itsBits_cons,List.append_assoc]
   have run:acJ T (k-z) out (itsBits E (List.replicate (z/16) ⟨t+2,240,0,0⟩)++(itBits E ⟨t+2,((16*(z%16)+sizeM v:Nat):Int),bitsM v,sizeM v⟩++(itsBits E (acI t b (k+1) 0)++rest)))=acJ T (k-z+16*(z/16)) out (itBits E ⟨t+2,((16*(z%16)+sizeM v:Nat):Int),bitsM v,sizeM v⟩++(itsBits E (acI t b (k+1) 0)++rest)):=by
    by_cases hz0:z/16=0
    ·rw[hz0];simp[itsBits]
    ·exact ac_runs (hr ⟨t+2,240,0,0⟩ (List.mem_append_left _ (by rw[List.mem_replicate];exact⟨hz0,rfl⟩))) _ _ (by omega)
   rw[run]
   obtain⟨i,h1,h2⟩:=hr _ (List.mem_append_right _ (List.mem_cons_self ..)) (bitsOf true (bitsM v) (sizeM v)++(itsBits E (acI t b (k+1) 0)++rest))
   unfold itBits
   simp only at h1 h2 ⊢
   rw[List.append_assoc,acJ,if_pos (by omega),h1]
   simp only
   rw[h2]
   have c1:((16*(z%16)+sizeM v:Nat):Int)%16=(sizeM v:Nat):=by omega
   have c2:((16*(z%16)+sizeM v:Nat):Int)/16=((z%16:Nat):Int):=by omega
   rw[c1,c2,Int.toNat_natCast,Int.toNat_natCast,if_neg (by omega),if_neg (by omega),if_neg (by omega),numJ_bits s2 s3,s1]
   simp only
   rw[show k-z+16*(z/16)+z%16=k by omega]
   have:=ih (k+1) 0 (out.set (zig k) v) (by omega) (by omega) (by omega) (fun j h1 h2=>by omega) (by rw[List.length_set];exact hol) (fun j hj=>by
    rw[getD_set_ite _ _ _ _ _ (by rw[hol];exact zig_lt hk')]
    by_cases h1:zig k=zig j
    ·have:k=j:=by rw[←zag_zig hk',h1,zag_zig hj]
     subst this
     rw[if_pos rfl,if_pos (by omega),hv]
    ·have hne:j≠k:=fun h=>h1 (by rw[h])
     rw[if_neg h1,ho j hj]
     by_cases h2:j<k
     ·rw[if_pos h2,if_pos (by omega)]
     ·rw[if_neg h2,if_neg (by omega)]) (fun x hx=>hr x (List.mem_append_right _ (List.mem_cons_of_mem _ hx)))
   rw[Nat.sub_zero] at this
   exact this
theorem blkI_read{T0 T1:TabJ}{E:Nat→Int→List Int}{t:Nat}{last:Int}{b rest:List Int}(hbl:b.length=64)(hb: ∀k,1≤k→k<64→((b.getD (zig k) 0).natAbs:Int)<1024)(hb0: -32768≤b.getD 0 0∧b.getD 0 0≤32767)(hd:((b.getD 0 0-last).natAbs:Int)<2048)
 (hr0:Reads T0 (E t) (sizeM (b.getD 0 0-last):Nat))(hr: ∀x∈acI t b 1 0,Reads T1 (E (t+2)) x.s):blockJ (T0,T1) last (itsBits E (blkI t last b)++rest)=some (b,rest):=by
 unfold blkI
 rw[itsBits_cons,List.append_assoc]
 generalize hdv:b.getD 0 0-last=d at*
 have hn:sizeM d≤11:=size_le (by simpa using hd)
 obtain⟨s1,s2,s3⟩:=sign_bits d
 unfold itBits blockJ
 simp only
 rw[List.append_assoc]
 obtain⟨i,h1,h2⟩:=hr0 (bitsOf true (bitsM d) (sizeM d)++(itsBits E (acI t b 1 0)++rest))
 rw[h1]
 simp only
 rw[h2,if_neg (by omega),Int.toNat_natCast,numJ_bits s2 s3,s1]
 simp only
 rw[show last+d=b.getD 0 0 by omega,cut16M_id (by omega)]
 have:=acI_read (T:=T1) (E:=E) (t:=t) (rest:=rest) hbl hb 64 1 0 (zeros64.set 0 (b.getD 0 0)) (by omega) (by omega) (by omega) (fun j h1 h2=>by omega) (by rw[List.length_set,zeros64_len]) (fun j hj=>by
  rw[getD_set_ite _ _ _ _ _ (by rw[zeros64_len];omega)]
  have z0:zig 0=0:=rfl
  by_cases h1:0=zig j
  ·have:j=0:=by rw[←zag_zig hj,←h1];rfl
   subst this
   rw[if_pos h1,if_pos (by omega),z0]
  ·have hne:j≠0:=fun h=>h1 (by rw[h];rfl)
   rw[if_neg h1,if_neg (by omega)]
   unfold zeros64
   rw[List.getD_eq_getElem?_getD,List.getElem?_replicate]
   split<;>rfl) hr
 rw[Nat.sub_zero] at this
 exact this
structure WBlk(b:List Int):Prop where
 len:b.length=64
 ac: ∀k,1≤k→k<64→((b.getD (zig k) 0).natAbs:Int)<1024
 dc: -1024≤b.getD 0 0∧b.getD 0 0<1024
theorem items_read{T:Nat→TabJ×TabJ}{TT:Nat→TabJ}{E:Nat→Int→List Int}{rest:List Int}: ∀(O:List (Nat×Nat×Nat)) (bl:List (List Int)) (la:List Int),O.length=bl.length→(∀b∈bl,WBlk b)→(∀u∈O,u.1<3∧T u.1=(TT (min u.1 1),TT (min u.1 1+2)))→la.length=3→(∀j,j<3→ -1024≤la.getD j 0∧la.getD j 0<1024)→
 (∀x∈itemsM O bl la,Reads (TT x.t) (E x.t) x.s)→blocksJ T O la (itsBits E (itemsM O bl la)++rest)=some (bl,rest)
 |[],[],la,_,_,_,_,_,_=>by simp[blocksJ,itemsM,itsBits]
 |[],b::bl,_,h,_,_,_,_,_=>by simp at h
 |u::O,[],_,h,_,_,_,_,_=>by simp at h
 |u::O,b::bl,la,hl,hb,hT,hla,hlr,hr=>by
  obtain⟨hu3,hTu⟩:=hT u (List.mem_cons_self ..)
  have hw:=hb b (List.mem_cons_self ..)
  have hlu:=hlr u.1 hu3
  rw[itemsM] at hr ⊢
  rw[itsBits_append,List.append_assoc,blocksJ,hTu]
  have hac: ∀x∈acI (min u.1 1) b 1 0,x.t=min u.1 1+2:=by
   have: ∀(m k z:Nat),64-k≤m→ ∀x∈acI (min u.1 1) b k z,x.t=min u.1 1+2:=by
    intro m
    induction m with
    |zero=>
     intro k z hm x hx
     rw[acI,if_neg (by omega)] at hx
     split at hx
     ·rw[List.mem_singleton.1 hx]
     ·cases hx
    |succ m ih=>
     intro k z hm x hx
     rw[acI] at hx
     split at hx
     ·split at hx
      ·exact ih _ _ (by omega) x hx
      ·rcases List.mem_append.1 hx with h|h
       ·rw[(List.mem_replicate.1 h).2]
       ·rcases List.mem_cons.1 h with h|h
        ·rw[h]
        ·exact ih _ _ (by omega) x h
     ·split at hx
      ·rw[List.mem_singleton.1 hx]
      ·cases hx
   exact this 64 1 0 (by omega)
  rw[blkI_read (T0:=TT (min u.1 1)) (T1:=TT (min u.1 1+2)) hw.len hw.ac (by have:=hw.dc;omega) (by have:=hw.dc;omega) (hr _ (List.mem_append_left _ (List.mem_cons_self ..))) (fun x hx=>by
   have:=hr x (List.mem_append_left _ (List.mem_cons_of_mem _ hx))
   rwa [hac x hx] at this)]
  simp only
  rw[items_read O bl (la.set u.1 (b.getD 0 0)) (by simpa using hl) (fun x hx=>hb x (List.mem_cons_of_mem _ hx)) (fun x hx=>hT x (List.mem_cons_of_mem _ hx)) (by rw[List.length_set];exact hla) (fun j hj=>by
   rw[getD_set_ite _ _ _ _ _ (by omega)];split
   ·exact hw.dc
   ·exact hlr j hj) (fun x hx=>hr x (List.mem_append_right _ hx))]
end Go.Proofs
namespace Go.Proofs
open Go.Sh
variable {H0 H:Heap} {σ:List Rs} {R:Value→Heap→Prop}
theorem size_uniq{v:Int}{n:Nat}(hn:0<n)(h1:(2:Int)^(n-1)≤v.natAbs)(h2:(v.natAbs:Int)<2^n):sizeM v=n:=by
 have hle:=size_le h2
 have h0:v≠0:=fun h=>by subst h;have:=two_pow_pos (n-1);simp at h1;omega
 obtain⟨_,_,h5⟩:=size_pow h0
 rcases Nat.lt_or_ge (sizeM v) n with h|h
 ·have:=pow_le (m:=sizeM v) (n:=n-1) (by omega);omega
 ·omega
theorem size_256{x:Nat}(h:256≤x):sizeM (x:Nat)=sizeM ((x/256:Nat):Int)+8:=by
 have h0:((x/256:Nat):Int)≠0:=by omega
 obtain⟨h1,h2,h3⟩:=size_pow h0
 have e8:(2:Int)^8=256:=by decide
 refine size_uniq (by omega) ?_ ?_
 ·rw[show sizeM ((x/256:Nat):Int)+8-1=sizeM ((x/256:Nat):Int)-1+8 by omega,Int.pow_add,e8];omega
 ·rw[Int.pow_add,e8];omega
theorem wr64u{x:Int}(h:0≤x∧x<18446744073709551616):IntKind.wrap .u64 x=x:=by simp[IntKind.wrap,IntKind.bits,IntKind.signed];omega
theorem lenRd{T:ByteArray}{x:Nat}{n:Int}{K:Value→Heap→Prop}(hT: ∀i:Fin 256,T[i.val]?=some (UInt8.ofNat (sizeM (i.val:Int))))(hx:x<256)(hn:0≤n∧n≤100)(hK:K (.int .i64 (n+(sizeM (x:Nat):Nat))) H):
 ∃b:UInt8,0≤IntKind.wrap .u8 (x:Int)∧T[Int.toNat (IntKind.wrap .u8 (x:Int))]?=some b∧K (.int .i64 (IntKind.wrap .i64 (n+IntKind.wrap .i64 ((UInt8.toNat b:Nat):Int)))) H:=by
 rw[wr8 (by omega),Int.toNat_natCast]
 have hs:sizeM (x:Nat)≤8:=size_le (by rw[show(2:Int)^8=256 by decide];omega)
 refine⟨_,by omega,hT ⟨x,hx⟩,?_⟩
 have e:(UInt8.ofNat (sizeM ((x:Nat):Int))).toNat=sizeM ((x:Nat):Int):=by
  rw[UInt8.toNat_ofNat',Nat.mod_eq_of_lt (by omega)]
 rw[e,wrap_id (n:=((sizeM ((x:Nat):Int):Nat):Int)) (by omega) (by omega),wrap_id (by omega) (by omega)]
 exact hK
theorem shr64_8(x:Nat):shrI .u64 (x:Int) (8:Int)=((x/256:Nat):Int):=by
 unfold shrI
 rw[show min (8:Int).toNat (IntKind.bits .u64)=8 from rfl,Int.fdiv_eq_ediv_of_nonneg _ (by decide),show(2:Int)^8=256 by decide]
 omega
theorem c106{x:Nat}(hx:x<65536)(hR:R (.int .i64 (sizeM (x:Nat):Nat)) H):CallsH Tryz.prog 106 #[.int .u64 (x:Nat)] H R:=by
 refine Tryz.s106 ?_
 unfold Tryz.S106
 intro J hJ
 refine br_n (by omega) (hJ _ _ H ?_)
 clear hJ J
 intro J hJ
 refine br_n (by omega) (hJ _ _ H ?_)
 clear hJ J
 intro J hJ
 refine br_dec (fun h=>⟨by decide,?_⟩) (fun h=>?_)
 ·refine hJ _ _ H ?_
  rw[shr64_8,show IntKind.wrap .i64 ((0:Int)+8)=8 by decide]
  refine lenRd (K:=R) ?_ (by omega) (by omega) ?_
  ·decide+kernel
  ·rw[size_256 (by omega)] at hR
   rw[show(8:Int)+(sizeM ((x/256:Nat):Int):Nat)=((sizeM ((x/256:Nat):Int)+8:Nat):Int) by omega]
   exact hR
 ·refine hJ _ _ H ?_
  refine lenRd (K:=R) ?_ (by omega) (by omega) ?_
  ·decide+kernel
  ·rw[Int.zero_add];exact hR
theorem c49{v:Int}(hv: -65535≤v∧v≤65535)(hR:R (.tuple #[.int .i64 (sizeM v:Nat),.int .i64 (bitsM v)]) H):CallsH Tryz.prog 49 #[.int .i64 v] H R:=by
 have hs:sizeM v≤16:=size_le (by rw[show(2:Int)^16=65536 by decide];omega)
 have hp:(2:Int)^sizeM v≤2^16:=pow_le hs
 have e16:(2:Int)^16=65536:=by decide
 have hp0:=two_pow_pos (sizeM v)
 have ea:sizeM (v.natAbs:Nat)=sizeM v:=by
  by_cases h0:v=0
  ·subst h0;rfl
  ·obtain⟨h1,h2,h3⟩:=size_pow h0
   exact size_uniq h1 (by simpa using h2) (by simpa using h3)
 refine Tryz.s49 ?_
 unfold Tryz.S49
 rw[wrap_id (n:=0-v) (by omega) (by omega),show max v (0-v)=((v.natAbs:Nat):Int) by omega,wr64u (by omega)]
 refine Tryz.s84 (c106 (by omega) ⟨_,rfl,⟨_,rfl,?_⟩⟩)
 rw[ea]
 unfold bitsM at hR
 refine br_dec (fun hn=>⟨by omega,?_⟩) (fun hn=>?_)
 ·rw[if_pos hn] at hR
  rw[shl_of (k:=sizeM v) (by omega) (by omega) (by omega),Int.one_mul,wrap_id (n:=v+2^sizeM v) (by omega) (by omega),wrap_id (by omega) (by omega)]
  exact hR
 ·rw[if_neg hn] at hR;exact hR
end Go.Proofs
namespace Go.Proofs
open Go.Sh
variable {H0 H:Heap} {σ:List Rs} {R:Value→Heap→Prop}
theorem c51{p:Option Addr}{l c:Nat}{xs:List Int}(h:IS H p l (kints .i64 xs))(hl:l≤1000000000)
 (hR: ∀q m H',St H H' [.sl q l m 3 1 (kints .i64 xs)]→R (.slice q l m) H'):CallsH Tryz.prog 51 #[.slice p l c] H R:=
 Tryz.s51 (clone_of h (by omega) (by omega) rfl hR)
structure PB(H:Heap)(p:Option Addr)(l:Nat)(ps:List (List Int)):Prop where
 len:ps.length=l
 get: ∀(i:Nat) x,ps[i]?=some x→ ∃a q n c,p=some a∧Go.Sh.cell H (a.add i)=some (.slice q n c)∧IS H q n (kints .u8 x)
theorem PB.ext{H H':Heap}{p:Option Addr}{l:Nat}{ps:List (List Int)}(h:PB H p l ps)(e:Ext H H'):PB H' p l ps:=⟨h.len,fun i x hx=>by
 obtain⟨a,q,n,c,h1,h2,h3⟩:=h.get i x hx
 exact⟨a,q,n,c,h1,e.cell h2,h3.ext e⟩⟩
def AllIS(H:Heap):List (Option Addr×Nat×Nat)→List (List Int)→Prop
 |[],[]=>True
 |v::vs,x::ps=>IS H v.1 v.2.1 (kints .u8 x)∧AllIS H vs ps
 |_,_=>False
theorem AllIS.get: ∀{vs:List (Option Addr×Nat×Nat)} {ps:List (List Int)},AllIS H vs ps→vs.length=ps.length∧ ∀(i:Nat) x,ps[i]?=some x→ ∃v,vs[i]?=some v∧IS H v.1 v.2.1 (kints .u8 x)
 |[],[],_=>⟨rfl,fun i x hx=>by simp at hx⟩
 |v::vs,x::ps,h=>by
  obtain⟨h1,h2⟩:=AllIS.get h.2
  refine⟨by simp[h1],fun i y hy=>?_⟩
  cases i with
  |zero=>simp at hy;subst hy;exact⟨v,rfl,h.1⟩
  |succ i=>exact h2 i y (by simpa using hy)
theorem pb_blk{b:Nat}{ty:TypeId}{vs:List (Option Addr×Nat×Nat)}{ps:List (List Int)}(hb:H[b]?=some (.cells (vs.map fun v=>Value.slice v.1 v.2.1 v.2.2).toArray ty))(hv:AllIS H vs ps):PB H (some ⟨b,0,none⟩) vs.length ps:=by
 obtain⟨hl,hg⟩:=hv.get
 refine⟨hl.symm,fun i x hx=>?_⟩
 obtain⟨v,h1,h2⟩:=hg i x hx
 refine⟨_,v.1,v.2.1,v.2.2,rfl,?_,h2⟩
 rw[add_none,Nat.zero_add]
 exact cell_get hb (by simp[h1])
theorem c83{n:Nat}(hn:n≤1000000000)(hR: ∀H' p' c',St H H' [.sl p' 0 c' 5 1 []]→R (.slice p' 0 c') H'):
 CallsH Tryz.prog 83 #[.slice none 0 0,.int .i64 n] H R:=by
 refine Tryz.s83 ?_
 unfold Tryz.S83
 intro J hJ
 refine br_n (by omega) (hJ H ?_)
 have w1:IntKind.wrap .i64 (((0:Nat):Int)-((0:Nat):Int))=0:=by decide
 have w2:IntKind.wrap .i64 ((n:Int)-0)=(n:Int):=by rw[wrap_id (by omega) (by omega)];omega
 rw[w1,w2]
 refine br_dec (fun hp=>⟨by omega,by omega,by omega,by omega,?_,by omega,fun h0=>by omega,fun _=>⟨#[],rfl,fun c' hc'=>⟨by omega,by omega,?_⟩⟩⟩) (fun h0=>hR H none 0 ((St.nil H).nilSl 5 1))
 ·simp;omega
 ·have hc0:c'≠0:=by simp at hc';omega
  simp only[hc0,if_false,Option.map_some,Nat.sub_zero,Int.toNat_natCast,Nat.zero_mul,add_none,Nat.zero_add]
  refine hR _ _ c' ((St.nil H).newSl (Ext.push _ _) ⟨rfl,Nat.zero_le _,by simp,.inr ⟨H.size,_,rfl,Nat.le_refl _,get_push_self _ _,?_,fun i v hv=>by simp at hv⟩⟩)
  rw[zeroCells_eq _ _ (by simp)]
  simp[reps_length] at hc' ⊢
  omega
theorem flatB_take{ps:List (List Int)}{k:Nat}{x:List Int}(h:ps[k]?=some x):(ps.take (k+1)).flatten=(ps.take k).flatten++x:=by
 rw[List.take_add_one,h,Option.toList_some,List.flatten_append];simp
theorem flat_le(ps:List (List Int))(k:Nat):(ps.take k).flatten.length≤ps.flatten.length:=by
 conv=>rhs;rw[←List.take_append_drop k ps,List.flatten_append,List.length_append]
 omega
theorem c48{p:Option Addr}{l c:Nat}{ps:List (List Int)}(h:PB H p l ps)(hl:l≤1000000000)(hn:ps.flatten.length≤1000000000)
 (hR: ∀q c' H',St H H' [.sl q ps.flatten.length c' 5 1 (kints .u8 ps.flatten)]→R (.slice q ps.flatten.length c') H'):CallsH Tryz.prog 48 #[.slice p l c] H R:=by
 have hpl:=h.len
 refine Tryz.s48 ?_
 unfold Tryz.S48
 intro X2 hX2
 have go: ∀k,k≤l→X2 [.int .i64 ((ps.take k).flatten.length:Nat),.int .i64 (k:Nat)] H:=upto fun k hk ih=>by
  have hf:=flat_le ps k
  refine hX2 _ _ H (br_dec (fun hlt=>?_) (fun hge=>?_))
  ·have hlt:k<l:=by omega
   obtain⟨x,hx⟩: ∃x,ps[k]?=some x:=⟨_,List.getElem?_eq_getElem (by omega)⟩
   obtain⟨a,q,n,c2,h1,h2,h3⟩:=h.get k x hx
   have h3l:=h3.length
   have hf2:=flat_le ps (k+1)
   have ih:=ih hlt
   rw[flatB_take hx,List.length_append,h3l] at ih hf2
   refine⟨a,h1,by omega,by omega,q,n,c2,by rw[Int.toNat_natCast,Nat.mul_one];exact h2,?_⟩
   rw[wrap_id (n:=_+(n:Int)) (by omega) (by omega),wrap_id (n:=(k:Int)+1) (by omega) (by omega)]
   exact br_n (by omega) ih
  ·have:k=l:=by omega
   subst this
   rw[List.take_of_length_le (by omega)]
   refine c83 hn fun H9 q0 c0 hs9=>⟨_,_,_,rfl,?_⟩
   intro X11 hX
   have add: ∀j,j≤k→ ∀q c' H1,St H H1 [.sl q (ps.take j).flatten.length c' 5 1 (kints .u8 (ps.take j).flatten)]→X11 [.slice q (ps.take j).flatten.length c',.int .i64 (j:Nat)] H1:=upto fun j hj ih q c' H1 hs1=>by
    have hf:=flat_le ps j
    refine hX _ _ _ _ H1 (br_dec (fun hlt=>?_) (fun hge=>?_))
    ·have hlt:j<k:=by omega
     obtain⟨x,hx⟩: ∃x,ps[j]?=some x:=⟨_,List.getElem?_eq_getElem (by omega)⟩
     obtain⟨a,q2,n,c2,h1,h2,h3⟩:=(h.ext hs1.ext).get j x hx
     have h3l:=h3.length
     have hf2:=flat_le ps (j+1)
     have ih:=ih hlt
     rw[flatB_take hx,List.length_append,h3l] at ih hf2
     refine⟨a,h1,by omega,by omega,q2,n,c2,by rw[Int.toNat_natCast,Nat.mul_one];exact h2,?_⟩
     refine hs1.appI 0 rfl h3 (kints_one _ _) rfl (by omega) (by omega) fun p' c3 H2 hs2=>?_
     rw[wrap_id (by omega) (by omega)]
     refine ih p' c3 H2 ?_
     rw[kints_append]
     exact hs2
    ·have:j=k:=by omega
     subst this
     rw[List.take_of_length_le (by omega)] at hs1 ⊢
     exact hR q c' H1 hs1
   exact add 0 (by omega) q0 c0 H9 hs9
 exact go 0 (by omega)
end Go.Proofs
namespace Go.Proofs
open Go.Sh
variable {H0 H:Heap} {σ:List Rs} {R:Value→Heap→Prop}
theorem is_block{b l:Nat}{ty:TypeId}{fs:List Value}(h:H[b]?=some (.cells fs.toArray ty))(hl:fs.length=l):IS H (some ⟨b,0,none⟩) l fs:=
 ⟨hl,fun i v hv=>⟨_,rfl,by rw[add_none,Nat.zero_add];exact cell_get h (by rw[List.getElem?_toArray];exact hv)⟩⟩
theorem wr8m(x:Int):IntKind.wrap .u8 x=x%256:=by simp[IntKind.wrap,IntKind.bits,IntKind.signed]
def segB(mark:Int)(d:List Int):List Int:=[255,mark,((d.length+2)/256:Nat),((d.length+2)%256:Nat)]++d
theorem segB_len(mark:Int)(d:List Int):(segB mark d).length=4+d.length:=by unfold segB;rw[List.length_append];rfl
theorem c17{mark:Int}{p:Option Addr}{l c:Nat}{d:List Int}(h:IS H p l (kints .u8 d))(hl:l≤60000)
 (hR: ∀q m H',St H H' [.sl q (segB mark d).length m 5 1 (kints .u8 (segB mark d))]→R (.slice q (segB mark d).length m) H'):CallsH Tryz.prog 17 #[.int .u8 mark,.slice p l c] H R:=by
 have hdl:=h.length
 refine Tryz.s17 ⟨by decide,(St.nil H).alc fun b3 H4 hs4=>hs4.alc fun b5 H6 hs6=>?_⟩
 have e1:IntKind.wrap .u8 (shrI .i64 (IntKind.wrap .i64 ((l:Int)+2)) 8)=(((d.length+2)/256:Nat):Int):=by
  rw[wrap_id (n:=(l:Int)+2) (by omega) (by omega),show(8:Int)=((8:Nat):Int) from rfl,shr_of _ (by omega),show(2:Int)^8=256 by decide,wr8 (by omega)]
  omega
 have e2:IntKind.wrap .u8 (IntKind.wrap .i64 ((l:Int)+2))=(((d.length+2)%256:Nat):Int):=by
  rw[wrap_id (n:=(l:Int)+2) (by omega) (by omega),wr8m];omega
 rw[e1,e2] at hs6
 have hpb:PB H6 (some ⟨b5,0,none⟩) 2 [[255,mark,((d.length+2)/256:Nat),((d.length+2)%256:Nat)],d]:=
  pb_blk (vs:=[(some ⟨b3,0,none⟩,4,4),(p,l,c)]) (hs6.block 0 rfl) ⟨is_block (fs:=kints .u8 [255,mark,((d.length+2)/256:Nat),((d.length+2)%256:Nat)]) (hs6.block 1 rfl) rfl,h.ext hs6.ext,trivial⟩
 have hfl:[[255,mark,(((d.length+2)/256:Nat):Int),((d.length+2)%256:Nat)],d].flatten=segB mark d:=by unfold segB;simp
 refine c48 hpb (by omega) (by rw[hfl,segB_len];omega) fun q m H8 hs8=>⟨_,_,_,rfl,?_⟩
 rw[hfl] at hs8 ⊢
 exact hR q m H8 (St.rebase hs6.ext hs8)
def flat4(l:List Itm):List Int:=l.flatMap fun x=>[(x.t:Int),x.s,x.v,(x.n:Int)]
theorem flat4_append(a b:List Itm):flat4 (a++b)=flat4 a++flat4 b:=by simp[flat4]
theorem acI_len(t:Nat)(b:List Int): ∀(m k z:Nat),64-k≤m→(acI t b k z).length≤2*(64-k)+z/16+1:=by
 intro m
 induction m with
 |zero=>
  intro k z hm
  rw[acI,if_neg (by omega)]
  split<;>simp
 |succ m ih=>
  intro k z hm
  rw[acI]
  split
  ·split
   ·have:=ih (k+1) (z+1) (by omega);omega
   ·have:=ih (k+1) 0 (by omega)
    rw[List.length_append,List.length_replicate,List.length_cons];omega
  ·split<;>simp
theorem blkI_len(t:Nat)(la:Int)(b:List Int):(blkI t la b).length≤128:=by
 unfold blkI
 rw[List.length_cons]
 have:=acI_len t b 64 1 0 (by omega);omega
theorem itemsM_len: ∀(O:List (Nat×Nat×Nat)) (bl:List (List Int)) (la:List Int),(itemsM O bl la).length≤128*O.length
 |[],bl,la=>by simp[itemsM]
 |u::O,[],la=>by simp[itemsM]
 |u::O,b::bl,la=>by
  rw[itemsM,List.length_append,List.length_cons]
  have:=blkI_len (min u.1 1) (la.getD u.1 0) b
  have:=itemsM_len O bl (la.set u.1 (b.getD 0 0))
  omega
theorem row64R{p:Option Addr}{n:Nat}{el:TypeId}{l:List (List Int)}(h:RS H p n el 64 (ints l.flatten))(h64: ∀b∈l,b.length=64){t:Nat}{b:List Int}(hb:l[t]?=some b)(ht:t<n):
 ∃blk,p=some ⟨blk,0,none⟩∧rowIn H ⟨blk,t*64,none⟩ (ints b).toArray:=
 h.row ht (by decide) fun j v hv=>by
  rw[List.getElem?_toArray] at hv
  have hj:=(List.getElem?_eq_some_iff.1 hv).1
  rw[ints_len,h64 b (List.mem_of_getElem? hb)] at hj
  simp only[ints,List.getElem?_map] at hv ⊢
  rw[flat64_get h64 hb hj];exact hv
def itV(x:Itm):Array Value:=#[.int .i64 (x.t:Nat),.int .i64 x.s,.int .i64 x.v,.int .i64 (x.n:Nat)]
theorem app4{p:Option Addr}{n c:Nat}{acc:List Itm}(hs:St H0 H (.sl p n c 58 4 (ints (flat4 acc))::σ))(hn:acc.length=n)(hl:n≤100000000)(x:Itm){K:Option Addr→Nat→Nat→Heap→Prop}
 (hK: ∀p' c' H',St H0 H' (.sl p' (acc++[x]).length c' 58 4 (ints (flat4 (acc++[x])))::σ)→K p' (acc++[x]).length c' H'):
 alc H (.cells (itV x) 58) fun b H'=>appQ 4 32 #[.int .i64 0,.int .i64 0,.int .i64 0,.int .i64 0] H' p n c (some ⟨b,0,none⟩) 1 58 K:=by
 refine hs.alc fun b H1 hs1=>hs1.appC 1 0 rfl rfl rfl (fun w hw=>?_) (by decide) rfl (by omega) (by omega) fun p' c' H2 hs2=>?_
 ·simp[itV] at hw;rcases hw with rfl|rfl|rfl|rfl<;>rfl
 ·have hs2:=hs2.tail
  have e:ints (flat4 acc)++(itV x).toList=ints (flat4 (acc++[x])):=by rw[flat4_append,ints_append];rfl
  have e':n+1=(acc++[x]).length:=by rw[List.length_append,hn];rfl
  simp only[List.set_cons_zero,List.set_cons_succ] at hs2
  rw[e,e'] at hs2
  rw[e']
  exact hK p' c' H2 hs2
end Go.Proofs
namespace Go.Proofs
open Go.Sh
variable {H0 H:Heap} {σ:List Rs} {R:Value→Heap→Prop}
theorem zig_bound(b:List Int)(hb:WBlk b)(k:Nat)(hk:k<64): -1024≤b.getD (zig k) 0∧b.getD (zig k) 0<1024:=by
 rcases Nat.eq_zero_or_pos k with h|h
 ·subst h;exact hb.dc
 ·have:=hb.ac k h hk;omega
set_option maxHeartbeats 4000000 in
theorem c18{W Ht l c:Nat}{half:Bool}{p:Option Addr}{bl:List (List Int)}(hW:W≤1000)(hH:Ht≤1000)(h:RS H p l 48 64 (ints bl.flatten))(hl:bl.length=l)(hlO:bl.length=(orderM W Ht half).length)(hw: ∀b∈bl,WBlk b)
 (hR: ∀q m H',St H H' [.sl q (itemsM (orderM W Ht half) bl [0,0,0]).length m 58 4 (ints (flat4 (itemsM (orderM W Ht half) bl [0,0,0])))]→R (.slice q (itemsM (orderM W Ht half) bl [0,0,0]).length m) H'):
 CallsH Tryz.prog 18 #[.int .i64 (W:Nat),.int .i64 (Ht:Nat),.bool half,.slice p l c] H R:=by
 refine Tryz.s18 ?_
 unfold Tryz.S18
 refine(St.nil H).alc fun b5 H1 hs1=>c15 fun H2 e2=>⟨_,rfl,(hs1.step e2).alc fun b10 H3 hs3=>⟨by rw[intsA_size];rfl,hs3.putAllA 0 rfl (by simp[zigI_len]) fun H4 hs4=>?_⟩⟩
 refine c35 (Nat.le_trans hW (by decide)) (Nat.le_trans hH (by decide)) fun H5 qo mo hs5=>⟨_,_,_,rfl,?_⟩
 have hs5:=hs4.call hs5
 have hin:=order_in (W:=W) (Ht:=Ht) (half:=half)
 have hcnt:=order_cnt W Ht half hW hH
 have h64: ∀b∈bl,b.length=64:=fun b hb=>(hw b hb).len
 have hall:=itemsM_len (orderM W Ht half) bl [0,0,0]
 generalize hO:orderM W Ht half=O at*
 generalize hA:itemsM O bl [0,0,0]=A at*
 have hs5:St H H5 (.sl none 0 0 58 4 []:: .cell b5 (ints [0,0,0]).toArray 73:: .cell b10 (ints zigI).toArray 48:: .sl qo O.length mo 112 3 (ints (flat3 O))::[]):=by
  have h1:=hs5.nilSl 58 4
  exact((h1.front 3 rfl).perm ((List.Perm.swap _ _ _).trans (List.Perm.cons _ (List.Perm.cons _ (List.Perm.swap _ _ _)))))
 clear hs1 hs3 hs4
 intro X hX
 have loop: ∀(k:Nat),k≤O.length→ ∀(q:Option Addr) (m:Nat) (acc:List Itm) (la:List Int) (H6:Heap),acc++itemsM (O.drop k) (bl.drop k) la=A→la.length=3→(∀j,-1024≤la.getD j 0∧la.getD j 0<1024)→
  St H H6 (.sl q acc.length m 58 4 (ints (flat4 acc)):: .cell b5 (ints la).toArray 73:: .cell b10 (ints zigI).toArray 48:: .sl qo O.length mo 112 3 (ints (flat3 O))::[])→X [.slice q acc.length m,.int .i64 (k:Nat)] H6:=upto fun k hk ih q m acc la H6 hacc hla hlr hs6=>by
  have hal:acc.length≤128*95256:=by
   have:=congrArg List.length hacc
   rw[List.length_append] at this;omega
  refine hX _ _ _ _ H6 (br_dec (fun hlt=>?_) (fun hge=>?_))
  ·have hlt:k<O.length:=by omega
   have hu:=get_gD O (0,0,0) hlt
   obtain⟨hk3,_,_⟩:=hin _ (List.mem_of_getElem? hu)
   have hdO:O.drop k=O.getD k (0,0,0)::O.drop (k+1):=by
    rw[List.drop_eq_getElem_cons hlt]
    congr 1
    exact(gD_get (List.getElem?_eq_getElem hlt)).symm
   have hbk:=get_gD bl [] (i:=k) (by omega)
   have hdB:bl.drop k=bl.getD k []::bl.drop (k+1):=by
    rw[List.drop_eq_getElem_cons (by omega)]
    congr 1
    exact(gD_get (List.getElem?_eq_getElem (by omega))).symm
   have hwb:=hw _ (List.mem_of_getElem? hbk)
   generalize hu':O.getD k (0,0,0)=u at*
   generalize hb':bl.getD k []=b at*
   rw[hdO,hdB,itemsM] at hacc
   have hb64:=hwb.len
   obtain⟨blk,hqo,hrow⟩:=rowPlaces (hs6.rs 3 rfl) hu hlt
   refine⟨_,hqo,by omega,by omega,_,rfl,by rw[add_none,Nat.zero_add,Int.toNat_natCast];exact hrow,?_⟩
   refine hs6.alc fun b22 H7 hs7=>⟨rfl,hs7.putAll 0 rfl rfl (by simp[Value.oneCell']) fun H8 hs8=>?_⟩
   obtain⟨blk2,hp,hrow2⟩:=row64R (h.ext hs8.ext) h64 hbk (by omega)
   have emin:(min ((u.1:Nat):Int) 1)=((min u.1 1:Nat):Int):=by omega
   generalize ht:min u.1 1=t at*
   have ht1:t≤1:=by omega
   refine⟨_,hp,by omega,by omega,(ints b).toArray,by rw[intsA_size];exact hb64,by rw[add_none,Nat.zero_add,Int.toNat_natCast];exact hrow2,_,hs8.get 0 (j:=0) rfl rfl,hs8.alcE fun b28 H9 e9 hs9=>⟨.inl e9,by rw[intsA_size];exact hb64,?_⟩⟩
   rw[zeroA] at hs9
   refine hs9.putAllA 0 rfl (by rw[hb64,intsA_size,List.length_replicate]) fun H10 hs10=>⟨.inr ⟨rfl,_,hs10.get 1 (j:=0) rfl rfl,rfl⟩,by decide,by decide,b.getD 0 0,hs10.rdA 0 (j:=0) rfl (get_gD b 0 (by omega)),_,hs10.get 1 (j:=0) rfl rfl,by omega,by omega,la.getD u.1 0,?_,?_⟩
   ·rw[add_none,Nat.zero_add,Int.toNat_natCast,Nat.mul_one];exact hs10.rdA 3 rfl (get_gD la 0 (by omega))
   have hlu:=hlr u.1
   have hdc:=hwb.dc
   rw[wrap_id (n:=b.getD 0 0-la.getD u.1 0) (by omega) (by omega)]
   refine c49 (by omega) ⟨_,_,rfl,_,hs10.get 1 (j:=0) rfl rfl,by decide,by decide,b.getD 0 0,hs10.rdA 0 (j:=0) rfl (get_gD b 0 (by omega)),by omega,by omega,?_⟩
   rw[add_none,Nat.zero_add,Int.toNat_natCast,Nat.mul_one]
   refine hs10.putA 3 rfl (by omega) fun H11 hs11=>⟨rfl,by decide,?_⟩
   have hs12:St H H11 (.sl q acc.length m 58 4 (ints (flat4 acc)):: .cell b28 (ints b).toArray 48:: .cell b5 (ints (la.set u.1 (b.getD 0 0))).toArray 73:: .cell b10 (ints zigI).toArray 48:: .sl qo O.length mo 112 3 (ints (flat3 O))::[]):=(hs11.del 1).swap
   clear hs7 hs8 hs9 hs10 hs11
   rw[emin]
   have hset: ∀x:Itm,(List.toArray (setL [.int .i64 0,.int .i64 0,.int .i64 0,.int .i64 0] 0 (Array.toList #[.int .i64 (x.t:Nat),.int .i64 x.s,.int .i64 x.v,.int .i64 (x.n:Nat)])))=itV x:=fun x=>rfl
   refine app4 hs12 rfl (by omega) ⟨t,(sizeM (b.getD 0 0-la.getD u.1 0):Nat),bitsM (b.getD 0 0-la.getD u.1 0),sizeM (b.getD 0 0-la.getD u.1 0)⟩ fun q2 m2 H12 hs13=>⟨by decide,by decide,?_⟩
   unfold blkI at hacc
   rw[List.cons_append,←List.singleton_append,←List.append_assoc,←List.append_assoc] at hacc
   generalize hacc1:acc++[(⟨t,(sizeM (b.getD 0 0-la.getD u.1 0):Nat),bitsM (b.getD 0 0-la.getD u.1 0),sizeM (b.getD 0 0-la.getD u.1 0)⟩:Itm)]=acc1 at*
   generalize hrest:itemsM (O.drop (k+1)) (bl.drop (k+1)) (la.set u.1 (b.getD 0 0))=rest at*
   have ih:=ih hlt
   intro Y hY
   have inner: ∀(d j z:Nat) (q:Option Addr) (m:Nat) (acc:List Itm) (H13:Heap),d+j=64→1≤j→z<j→acc++acI t b j z++rest=A→
    St H H13 (.sl q acc.length m 58 4 (ints (flat4 acc)):: .cell b28 (ints b).toArray 48:: .cell b5 (ints (la.set u.1 (b.getD 0 0))).toArray 73:: .cell b10 (ints zigI).toArray 48:: .sl qo O.length mo 112 3 (ints (flat3 O))::[])→Y [.slice q acc.length m,.int .i64 (z:Nat),.int .i64 ((j-1:Nat):Int)] H13:=by
    intro d
    induction d with
    |zero=>
     intro j z q m acc H13 hd hj hz hacc hs14
     have:j=64:=by omega
     subst this
     have hal:acc.length≤128*95256:=by
      have:=congrArg List.length hacc
      rw[List.length_append,List.length_append] at this;omega
     rw[acI,if_neg (by omega)] at hacc
     have next: ∀(acc':List Itm) (q':Option Addr) (m':Nat) (H14:Heap),acc'++rest=A→St H H14 (.sl q' acc'.length m' 58 4 (ints (flat4 acc')):: .cell b28 (ints b).toArray 48:: .cell b5 (ints (la.set u.1 (b.getD 0 0))).toArray 73:: .cell b10 (ints zigI).toArray 48:: .sl qo O.length mo 112 3 (ints (flat3 O))::[])→X [.slice q' acc'.length m',.int .i64 (IntKind.wrap .i64 ((k:Int)+1))] H14:=fun acc' q' m' H14 ha hs15=>by
      rw[w1 (by omega)]
      refine ih q' m' acc' (la.set u.1 (b.getD 0 0)) H14 (by rw[hrest];exact ha) (by rw[List.length_set];exact hla) (fun i=>?_) (hs15.del 1)
      rw[getD_set_ite _ _ _ _ _ (by omega)];split
      ·exact hdc
      ·exact hlr i
     refine hY _ _ _ _ _ H13 (br_n (by show ¬(((64-1:Nat):Int)<((64-Int.toNat 1:Nat):Int));decide) (br_dec (fun h0=>?_) (fun h0=>?_)))
     ·rw[if_pos (by omega)] at hacc
      refine⟨rfl,by decide,?_⟩
      rw[show IntKind.wrap .i64 (((t:Nat):Int)+2)=((t+2:Nat):Int) by rw[wrap_id (by omega) (by omega)];omega]
      exact app4 hs14 rfl (by omega) ⟨t+2,0,0,0⟩ fun q' m' H14 hs15=>next _ q' m' H14 hacc hs15
     ·rw[if_neg (by omega),List.append_nil] at hacc
      exact next acc q m H13 hacc hs14
    |succ d ihd=>
     intro j z q m acc H13 hd hj hz hacc hs14
     have hj64:j<64:=by omega
     have hal:acc.length≤128*95256:=by
      have:=congrArg List.length hacc
      rw[List.length_append,List.length_append] at this;omega
     rw[acI,if_pos hj64] at hacc
     have hzl:=zig_lt hj64
     have hgz:=zigI_get hj64
     have hvb:=zig_bound b hwb j hj64
     have ea:(if 64=Int.toNat 1 then(⟨b10,0,none⟩:Addr) else Addr.add ⟨b10,0,none⟩ (Int.toNat 1*1))=⟨b10,1,none⟩:=rfl
     refine hY _ _ _ _ _ H13 (br_y (by show((j-1:Nat):Int)<((64-Int.toNat 1:Nat):Int);rw[show Int.toNat 1=1 from rfl];omega) ⟨_,rfl,by omega,by show((j-1:Nat):Int)<((64-Int.toNat 1:Nat):Int);rw[show Int.toNat 1=1 from rfl];omega,((zig j:Nat):Int),?_,by omega,by omega,b.getD (zig j) 0,?_,?_⟩)
     ·rw[ea,add_none,Int.toNat_natCast,Nat.mul_one,show 1+(j-1)=j by omega];exact hs14.rdA 3 rfl hgz
     ·rw[add_none,Nat.zero_add,Int.toNat_natCast,Nat.mul_one];exact hs14.rdA 1 rfl (get_gD b 0 (by omega))
     have wj:IntKind.wrap .i64 (((j-1:Nat):Int)+1)=((j+1-1:Nat):Int):=by rw[wrap_id (by omega) (by omega)];omega
     refine br_eq (fun h0=>?_) (fun h0=>?_)
     ·rw[if_pos h0] at hacc
      rw[wj,w1 (by omega)]
      exact ihd (j+1) (z+1) q m acc H13 (by omega) (by omega) (by omega) hacc hs14
     ·rw[if_neg h0] at hacc
      have wt2:IntKind.wrap .i64 (((t:Nat):Int)+2)=((t+2:Nat):Int):=by rw[wrap_id (by omega) (by omega)];omega
      rw[wt2,wj]
      intro Z hZ
      have runs: ∀(r z:Nat) (q:Option Addr) (m:Nat) (acc:List Itm) (H14:Heap),z/16=r→z<64→acc++(List.replicate (z/16) ⟨t+2,240,0,0⟩++⟨t+2,((16*(z%16)+sizeM (b.getD (zig j) 0):Nat):Int),bitsM (b.getD (zig j) 0),sizeM (b.getD (zig j) 0)⟩::acI t b (j+1) 0)++rest=A→
       St H H14 (.sl q acc.length m 58 4 (ints (flat4 acc)):: .cell b28 (ints b).toArray 48:: .cell b5 (ints (la.set u.1 (b.getD 0 0))).toArray 73:: .cell b10 (ints zigI).toArray 48:: .sl qo O.length mo 112 3 (ints (flat3 O))::[])→Z [.slice q acc.length m,.int .i64 (z:Nat)] H14:=by
       intro r
       induction r with
       |zero=>
        intro z q m acc H14 hr hz64 hacc hs15
        have hal:acc.length≤128*95256:=by
         have:=congrArg List.length hacc
         rw[List.length_append,List.length_append] at this;omega
        rw[hr,List.replicate_zero,List.nil_append] at hacc
        refine hZ _ _ _ _ H14 (br_n (by omega) ⟨by omega,by omega,b.getD (zig j) 0,?_,?_⟩)
        ·rw[add_none,Nat.zero_add,Int.toNat_natCast,Nat.mul_one];exact hs15.rdA 1 rfl (get_gD b 0 (by omega))
        have hs:sizeM (b.getD (zig j) 0)≤11:=size_le (by rw[show(2:Int)^11=2048 by decide];omega)
        refine c49 (by omega) ⟨_,_,rfl,rfl,by decide,?_⟩
        have e16:IntKind.wrap .i64 (IntKind.wrap .i64 ((16:Int)*(z:Nat))+(sizeM (b.getD (zig j) 0):Nat))=((16*(z%16)+sizeM (b.getD (zig j) 0):Nat):Int):=by
         rw[wrap_id (n:=(16:Int)*(z:Nat)) (by omega) (by omega),wrap_id (by omega) (by omega)];omega
        rw[e16]
        refine app4 hs15 rfl (by omega) ⟨t+2,((16*(z%16)+sizeM (b.getD (zig j) 0):Nat):Int),bitsM (b.getD (zig j) 0),sizeM (b.getD (zig j) 0)⟩ fun q' m' H15 hs16=>?_
        exact ihd (j+1) 0 q' m' _ H15 (by omega) (by omega) (by omega) (by rw[List.append_assoc acc,List.singleton_append];exact hacc) hs16
       |succ r ihr=>
        intro z q m acc H14 hr hz64 hacc hs15
        have hal:acc.length≤128*95256:=by
         have:=congrArg List.length hacc
         rw[List.length_append,List.length_append] at this;omega
        refine hZ _ _ _ _ H14 (br_y (by omega) ⟨rfl,by decide,?_⟩)
        refine app4 hs15 rfl (by omega) ⟨t+2,240,0,0⟩ fun q' m' H15 hs16=>?_
        rw[wrap_id (by omega) (by omega),show(z:Int)-16=((z-16:Nat):Int) by omega]
        refine ihr (z-16) q' m' _ H15 (by omega) (by omega) ?_ hs16
        rw[hr,List.replicate_succ,List.cons_append] at hacc
        rw[List.append_assoc acc,List.singleton_append,show(z-16)/16=r by omega,show(z-16)%16=z%16 by omega]
        exact hacc
      exact runs (z/16) z q m acc H13 rfl (by omega) hacc hs14
   exact inner 63 1 0 q2 m2 acc1 H12 (by omega) (by omega) (by omega) hacc hs13
  ·have:k=O.length:=by omega
   subst this
   rw[List.drop_eq_nil_of_le (by omega),itemsM] at hacc
   ·rw[List.append_nil] at hacc
    subst hacc
    exact hR q m H6 (((hs6.del 1).del 1).del 1)
   ·intro u O' b' bl' h1 h2;cases h1
 exact loop 0 (by omega) none 0 [] [0,0,0] H5 (by rw[List.drop_zero,List.drop_zero,hA];rfl) rfl (fun j=>by
  rcases Nat.lt_or_ge j 3 with h|h
  ·obtain rfl|rfl|rfl:j=0∨j=1∨j=2:=by omega
   all_goals exact⟨by decide,by decide⟩
  ·rw[gD_none _ _ (by simpa using h)];omega) hs5
end Go.Proofs
namespace Go.Proofs
open Go.Sh
def fltK(ls:List Int)(n k:Nat):List Int:=((List.range k).filter fun s=>ls.getD s 0==(n:Int)).map Int.ofNat
theorem fltK_succ(ls:List Int)(n k:Nat):fltK ls n (k+1)=fltK ls n k++(if ls.getD k 0=(n:Int) then[(k:Int)] else[]):=by
 unfold fltK
 rw[List.range_succ,List.filter_append,List.map_append]
 congr 1
 by_cases h:ls.getD k 0=(n:Int)
 ·rw[if_pos h]
  have:(ls.getD k 0==(n:Int))=true:=by rw[beq_iff_eq];exact h
  simp only[List.filter_cons,this,if_true,List.filter_nil,List.map_cons,List.map_nil];rfl
 ·rw[if_neg h]
  have:(ls.getD k 0==(n:Int))=false:=by rw[beq_eq_false_iff_ne];exact h
  simp only[List.filter_cons,this,List.filter_nil,Bool.false_eq_true,if_false,List.map_nil]
theorem fltK_len{ls:List Int}{n:Nat}: ∀{k:Nat},k≤ls.length→(fltK ls n k).length=rank ls k n
 |0,_=>by simp[fltK,rank]
 |k+1,h=>by
  rw[fltK_succ,List.length_append,fltK_len (by omega),rank_snoc (get_gD ls 0 (by omega)) n]
  split<;>rfl
theorem fltK_get{ls:List Int}{n s:Nat}(hs:s<ls.length)(h:ls.getD s 0=(n:Int)): ∀k,s<k→k≤ls.length→(fltK ls n k)[rank ls s n]?=some (s:Int)
 |0,h1,_=>by omega
 |k+1,h1,h2=>by
  rw[fltK_succ]
  by_cases hk:s=k
  ·subst hk
   rw[if_pos h,List.getElem?_append_right (by rw[fltK_len (by omega)];omega),fltK_len (by omega),Nat.sub_self];rfl
  ·have:=fltK_get hs h k (by omega) (by omega)
   rw[List.getElem?_append_left (List.getElem?_eq_some_iff.1 this).1]
   exact this
theorem fltK_rng{ls:List Int}{n k:Nat}: ∀x∈fltK ls n k,0≤x∧x<k:=fun x hx=>by
 unfold fltK at hx
 obtain⟨y,hy,rfl⟩:=List.mem_map.1 hx
 have:=List.mem_range.1 (List.mem_filter.1 hy).1
 exact⟨Int.natCast_nonneg y,by show(y:Int)<k;omega⟩
def srtS(ls:List Int)(k:Nat):List Int:=(List.range k).flatMap fun n=>fltK ls (n+1) ls.length
def srtL(ls:List Int)(k:Nat):List Int:=(List.range k).flatMap fun n=>List.replicate (rank ls ls.length (n+1)) ((n+1:Nat):Int)
theorem srtS_succ(ls:List Int)(k:Nat):srtS ls (k+1)=srtS ls k++fltK ls (k+1) ls.length:=by unfold srtS;rw[List.range_succ,List.flatMap_append];simp
theorem srtL_succ(ls:List Int)(k:Nat):srtL ls (k+1)=srtL ls k++List.replicate (rank ls ls.length (k+1)) ((k+1:Nat):Int):=by unfold srtL;rw[List.range_succ,List.flatMap_append];simp
theorem srt_len(ls:List Int): ∀k,(srtS ls k).length=(srtL ls k).length
 |0=>rfl
 |k+1=>by rw[srtS_succ,srtL_succ,List.length_append,List.length_append,srt_len ls k,fltK_len (Nat.le_refl _),List.length_replicate]
theorem srtL_rng(ls:List Int): ∀k,∀x∈srtL ls k,1≤x∧x≤k
 |0,x,hx=>by cases hx
 |k+1,x,hx=>by
  rw[srtL_succ] at hx
  rcases List.mem_append.1 hx with h|h
  ·have:=srtL_rng ls k x h;omega
  ·rw[(List.mem_replicate.1 h).2];omega
theorem srtS_rng(ls:List Int): ∀k,∀x∈srtS ls k,0≤x∧x<ls.length
 |0,x,hx=>by cases hx
 |k+1,x,hx=>by
  rw[srtS_succ] at hx
  rcases List.mem_append.1 hx with h|h
  ·exact srtS_rng ls k x h
  ·exact fltK_rng x h
theorem srtL_split(ls:List Int)(n:Nat): ∀d,∃B,srtL ls (n+d)=srtL ls n++B∧ ∀x∈B,(n:Int)<x
 |0=>⟨[],by simp,by simp⟩
 |d+1=>by
  obtain⟨B,h1,h2⟩:=srtL_split ls n d
  refine⟨B++List.replicate (rank ls ls.length (n+d+1)) ((n+d+1:Nat):Int),?_,fun x hx=>?_⟩
  ·rw[←Nat.add_assoc,srtL_succ,h1,List.append_assoc]
  ·rcases List.mem_append.1 hx with h|h
   ·exact h2 x h
   ·rw[(List.mem_replicate.1 h).2];omega
theorem srtS_split(ls:List Int)(n:Nat): ∀d,∃B,srtS ls (n+d)=srtS ls n++B
 |0=>⟨[],by simp⟩
 |d+1=>by
  obtain⟨B,h1⟩:=srtS_split ls n d
  exact⟨B++fltK ls (n+d+1) ls.length,by rw[←Nat.add_assoc,srtS_succ,h1,List.append_assoc]⟩
theorem countP_none{L:List Int}{n:Nat}(h: ∀x∈L,x≠(n:Int)):L.countP (fun x=>x==(n:Int))=0:=by
 rw[List.countP_eq_zero]
 intro x hx he
 exact h x hx (by simpa using he)
theorem countP_rep(n c:Nat):(List.replicate c ((n:Nat):Int)).countP (fun x=>x==(n:Int))=c:=by
 rw[List.countP_replicate];simp
theorem rank_srt{ls:List Int}{n r K:Nat}(hn:n+1≤K)(hr:r≤rank ls ls.length (n+1)):rank (srtL ls K) ((srtL ls n).length+r) (n+1)=r:=by
 obtain⟨B,h1,h2⟩:=srtL_split ls (n+1) (K-(n+1))
 rw[show n+1+(K-(n+1))=K by omega,srtL_succ,List.append_assoc] at h1
 unfold rank at*
 rw[h1,List.take_append,List.take_of_length_le (by omega),Nat.add_sub_cancel_left,List.countP_append,countP_none (fun x hx=>by have:=srtL_rng ls n x hx;omega),Nat.zero_add,List.take_append_of_le_length (by rw[List.length_replicate];exact hr),List.take_replicate,Nat.min_eq_left hr]
 exact countP_rep (n+1) r
theorem cnt_srt{ls:List Int}{n K:Nat}(hn:n+1≤K):cnt (srtL ls K) (n+1)=rank ls ls.length (n+1):=by
 obtain⟨B,h1,h2⟩:=srtL_split ls (n+1) (K-(n+1))
 rw[show n+1+(K-(n+1))=K by omega,srtL_succ,List.append_assoc] at h1
 unfold cnt
 rw[if_neg (by omega)]
 conv=>lhs;unfold rank
 rw[List.take_of_length_le (Nat.le_refl _),h1,List.countP_append,List.countP_append,countP_none (fun x hx=>by have:=srtL_rng ls n x hx;omega),countP_rep (n+1),countP_none (fun x hx=>by have:=h2 x hx;omega)]
 omega
theorem base_srt{ls:List Int}{K:Nat}: ∀{n:Nat},n≤K+1→base (srtL ls K) n=base ls n
 |0,_=>rfl
 |n+1,h=>by
  rw[base,base,base_srt (n:=n) (by omega)]
  congr 2
  cases n with
  |zero=>rfl
  |succ n=>
   rw[cnt_srt (by omega)]
   unfold cnt
   rw[if_neg (by omega)]
theorem base_app{ls:List Int}{m:Int}: ∀{n:Nat},(n:Int)≤m→base (ls++[m]) n=base ls n
 |0,_=>rfl
 |n+1,h=>by
  rw[base,base,base_app (n:=n) (by omega)]
  congr 2
  unfold cnt
  by_cases h0:n=0
  ·rw[if_pos h0,if_pos h0]
  ·rw[if_neg h0,if_neg h0]
   unfold rank
   rw[List.take_of_length_le (Nat.le_refl _),List.take_of_length_le (Nat.le_refl _),List.countP_append]
   have:List.countP (fun x=>x==(n:Int)) [m]=0:=countP_none (fun x hx=>by rw[List.mem_singleton.1 hx];omega)
   omega
theorem rank_app{ls:List Int}{m:Int}{s n:Nat}(h:s≤ls.length):rank (ls++[m]) s n=rank ls s n:=by
 unfold rank;rw[List.take_append_of_le_length h]
theorem wt_rep(c:Nat)(n:Int):wtM (List.replicate c n)=c*wt n:=by
 induction c with
 |zero=>simp[wtM]
 |succ c ih=>
  rw[List.replicate_succ']
  rw[wtM_snoc,ih]
  rw[show((c+1:Nat):Int)=(c:Int)+1 by omega,Int.add_mul,Int.one_mul]
theorem wtM_append(a b:List Int):wtM (a++b)=wtM a+wtM b:=by unfold wtM;rw[List.map_append,sum_append]
def wtsum(ls:List Int)(k K:Nat):Int:=sumN K fun n=>(rank ls k (n+1):Int)*wt ((n+1:Nat):Int)
theorem wt_srt(ls:List Int): ∀K,wtM (srtL ls K)=wtsum ls ls.length K
 |0=>rfl
 |K+1=>by
  rw[srtL_succ,wtM_append,wt_srt ls K,wt_rep]
  unfold wtsum
  rw[sumN]
def isum(v:Int)(K:Nat):Int:=sumN K fun n=>if v=((n+1:Nat):Int) then wt ((n+1:Nat):Int) else 0
theorem sumN_plus(f g:Nat→Int): ∀n,sumN n (fun i=>f i+g i)=sumN n f+sumN n g
 |0=>rfl
 |n+1=>by rw[sumN,sumN,sumN,sumN_plus f g n];omega
theorem isum_all: ∀v:Fin 17,isum (v.val:Int) 16=wt (v.val:Int):=by decide
theorem wtsum_snoc{ls:List Int}{k K:Nat}{v:Int}(h:ls[k]?=some v):wtsum ls (k+1) K=wtsum ls k K+isum v K:=by
 unfold wtsum isum
 rw[←sumN_plus]
 refine sumN_congr fun n hn=>?_
 rw[rank_snoc h]
 split
 ·rw[show((rank ls k (n+1)+1:Nat):Int)=(rank ls k (n+1):Int)+1 by omega,Int.add_mul,Int.one_mul]
 ·rw[Nat.add_zero,Int.add_zero]
theorem wtsum_eq{ls:List Int}(hr: ∀x∈ls,0≤x∧x≤16): ∀k,k≤ls.length→wtsum ls k 16=wtM (ls.take k)
 |0,_=>by unfold wtsum wtM rank;simp[sumN]
 |k+1,h=>by
  have hg:=get_gD ls 0 (i:=k) (by omega)
  have hv:=hr _ (List.mem_of_getElem? hg)
  rw[wtsum_snoc hg,wtsum_eq hr k (by omega),List.take_add_one,hg]
  simp only[Option.toList_some]
  rw[wtM_snoc]
  obtain⟨n,hn⟩:=Int.eq_ofNat_of_zero_le hv.1
  rw[hn]
  have:=isum_all ⟨n,by omega⟩
  simp only at this
  rw[this]
def lsum(ls:List Int)(k K:Nat):Nat:=((List.range K).map fun n=>rank ls k (n+1)).sum
theorem lsum_succ(ls:List Int)(k K:Nat):lsum ls k (K+1)=lsum ls k K+rank ls k (K+1):=by unfold lsum;rw[List.range_succ];simp
theorem srtL_len(ls:List Int): ∀K,(srtL ls K).length=lsum ls ls.length K
 |0=>rfl
 |K+1=>by rw[srtL_succ,List.length_append,srtL_len ls K,List.length_replicate,lsum_succ]
theorem lsum_snoc{ls:List Int}{k:Nat}{v:Int}(h:ls[k]?=some v): ∀K,lsum ls (k+1) K≤lsum ls k K+(if 0<v∧v≤K then 1 else 0)
 |0=>by simp[lsum]
 |K+1=>by
  have:=lsum_snoc h K
  rw[lsum_succ,lsum_succ,rank_snoc h]
  split at this<;>split<;>split<;>omega
theorem lsum_le{ls:List Int}(K:Nat): ∀k,k≤ls.length→lsum ls k K≤k
 |0,_=>by
  have: ∀K,lsum ls 0 K=0:=fun K=>by
   induction K with
   |zero=>rfl
   |succ K ih=>rw[lsum_succ,ih];simp[rank]
  rw[this];omega
 |k+1,h=>by
  have h1:=lsum_le (ls:=ls) K k (by omega)
  have h2:=lsum_snoc (get_gD ls 0 (i:=k) (by omega)) K
  split at h2<;>omega
structure CodeOk(ls:List Int)(m:Int):Prop where
 len:ls.length=256
 ok:OkC (ls++[m])
 le: ∀x∈ls,x≤m
theorem CodeOk.rng{ls:List Int}{m:Int}(h:CodeOk ls m): ∀x∈ls,0≤x∧x≤16:=fun x hx=>h.ok.w.rng x (List.mem_append_left _ hx)
theorem srt_ok{ls:List Int}{m:Int}(h:CodeOk ls m):OkC (srtL ls 16):=by
 have hl:(srtL ls 16).length≤256:=by rw[srtL_len,←h.len];exact lsum_le 16 _ (Nat.le_refl _)
 refine⟨⟨by omega,fun x hx=>by have:=srtL_rng ls 16 x hx;omega⟩,?_⟩
 rw[wt_srt,wtsum_eq h.rng _ (Nat.le_refl _),List.take_of_length_le (Nat.le_refl _)]
 have h1:=h.ok.le
 rw[wtM_append] at h1
 have h2:0≤wtM [m]:=(wtM_rng (ls:=[m]) fun n hn=>h.ok.w.rng n (List.mem_append_right _ hn)).1
 omega
def eBits(ls:List Int)(m:Int)(c:Int):List Int:=bitsOf true (codeM (ls++[m]) c.toNat) (ls.getD c.toNat 0).toNat
theorem codes_read{ls:List Int}{m:Int}(h:CodeOk ls m){s:Nat}(hs:s<256)(h0:0<ls.getD s 0):Reads (srtL ls 16,srtS ls 16) (eBits ls m) (s:Int):=by
 intro rest
 have hll:=h.len
 have hg:=get_gD ls 0 (i:=s) (by omega)
 have hr:=h.rng _ (List.mem_of_getElem? hg)
 have hle:=h.le _ (List.mem_of_getElem? hg)
 obtain⟨n,hn⟩: ∃n:Nat,ls.getD s 0=((n+1:Nat):Int):=⟨(ls.getD s 0).toNat-1,by omega⟩
 rw[hn] at hr hle hg
 have hrk:rank ls s (n+1)<rank ls ls.length (n+1):=by
  have:=(List.getElem?_eq_some_iff.1 (fltK_get (n:=n+1) (by omega) hn ls.length (by omega) (Nat.le_refl _))).1
  rwa [fltK_len (Nat.le_refl _)] at this
 obtain⟨B,hB1,_⟩:=srtL_split ls (n+1) (16-(n+1))
 rw[show n+1+(16-(n+1))=16 by omega,srtL_succ ls n,List.append_assoc] at hB1
 obtain⟨C,hC1⟩:=srtS_split ls (n+1) (16-(n+1))
 rw[show n+1+(16-(n+1))=16 by omega,srtS_succ ls n,List.append_assoc] at hC1
 have hL:(srtL ls 16)[(srtL ls n).length+rank ls s (n+1)]?=some ((n+1:Nat):Int):=by
  rw[hB1,List.getElem?_append_right (by omega),Nat.add_sub_cancel_left,List.getElem?_append_left (by rw[List.length_replicate];exact hrk),List.getElem?_replicate,if_pos hrk]
 have hS:(srtS ls 16)[(srtL ls n).length+rank ls s (n+1)]?=some (s:Int):=by
  rw[hC1,List.getElem?_append_right (by rw[srt_len];omega),srt_len,Nat.add_sub_cancel_left,List.getElem?_append_left (by rw[fltK_len (Nat.le_refl _)];exact hrk)]
  exact fltK_get (by omega) hn ls.length (by omega) (Nat.le_refl _)
 have hcode:codeM (srtL ls 16) ((srtL ls n).length+rank ls s (n+1))=codeM (ls++[m]) s:=by
  unfold codeM
  rw[hL,List.getElem?_append_left (by omega),hg]
  simp only
  rw[if_pos (by omega),if_pos (by omega),Int.toNat_natCast,rank_srt (by omega) (by omega),base_srt (by omega),base_app hle,rank_app (by omega)]
 refine⟨_,?_,gD_get hS⟩
 unfold eBits
 rw[Int.toNat_natCast,←hcode,hn,Int.toNat_natCast]
 exact symJ_has (srt_ok h) hL (by omega) rest
def cntsL(ls:List Int):List Int:=(List.range 16).map fun n=>(rank ls ls.length (n+1):Int)
def dataM(ls:List Int):List Int:=cntsL ls++srtS ls 16
theorem cntsL_len(ls:List Int):(cntsL ls).length=16:=by simp[cntsL]
theorem lens_data{ls:List Int}(k:Int)(rest:List Int): ∀K,K≤16→lensN (k::(cntsL ls++rest)) K=srtL ls K
 |0,_=>rfl
 |K+1,h=>by
  rw[lensN_succ,srtL_succ,lens_data k rest K (by omega)]
  congr 2
  rw[List.getD_cons_succ,gD_left _ _ _ _ (by rw[cntsL_len];omega)]
  have:(cntsL ls).getD K 0=(rank ls ls.length (K+1):Int):=by
   unfold cntsL
   rw[List.getD_eq_getElem?_getD,List.getElem?_map,List.getElem?_range (by omega)];rfl
  rw[this,Int.toNat_natCast]
theorem codesD_data{ls:List Int}{m:Int}(h:CodeOk ls m){k:Int}(hk:0≤k)(hk1:k%16≤3)(hk2:k/16≤1)(C:List (Option (List Int×List Int))):codesD (k::dataM ls) C=some (C.set (k%16+4*(k/16)).toNat (some (srtL ls 16,srtS ls 16))):=by
 have hlm:lensM (k::dataM ls)=srtL ls 16:=lens_data k (srtS ls 16) 16 (Nat.le_refl _)
 have hl:(k::dataM ls).length=17+(srtL ls 16).length:=by
  unfold dataM;rw[List.length_cons,List.length_append,cntsL_len,srt_len];omega
 have hl2:(srtL ls 16).length≤256:=by rw[srtL_len,←h.len];exact lsum_le 16 _ (Nat.le_refl _)
 rw[codesD,if_neg (by simp)]
 have hc:17≤(k::dataM ls).length∧(k::dataM ls).getD 0 0%16≤3∧(k::dataM ls).getD 0 0/16≤1∧(lensM (k::dataM ls)).length≤256∧17+(lensM (k::dataM ls)).length≤(k::dataM ls).length∧OkC (lensM (k::dataM ls)):=by
  rw[hlm,hl]
  exact⟨by omega,hk1,hk2,hl2,by omega,srt_ok h⟩
 rw[dif_pos hc,hlm]
 have hd:(k::dataM ls).drop (17+(srtL ls 16).length)=[]:=List.drop_eq_nil_of_le (by omega)
 have ht:((k::dataM ls).drop 17).take (srtL ls 16).length=srtS ls 16:=by
  unfold dataM
  rw[show(17:Nat)=16+1 from rfl,List.drop_succ_cons,List.drop_append,List.drop_eq_nil_of_le (by rw[cntsL_len];omega),cntsL_len,Nat.sub_self,List.nil_append,List.drop_zero,←srt_len,List.take_length]
 rw[hd,ht,codesD,if_pos rfl]
 rfl
end Go.Proofs
namespace Go.Proofs
open Go.Sh
theorem wrap_id{n:Int}(h0: -9223372036854775808≤n)(h1:n≤9223372036854775807):IntKind.wrap .i64 n=n:=by simp[IntKind.wrap,IntKind.bits,IntKind.signed];omega
structure It where
 c:Int
 v:Value
 t:Nat
def It.cells(x:It):Array Value:=#[.int .i64 x.c,x.v]
def Lex(x y:It):Prop:=x.c<y.c∨(x.c=y.c∧x.t<y.t)
theorem Lex.trans{x y z:It}(h:Lex x y)(h':Lex y z):Lex x z:=by unfold Lex at*;omega
theorem Lex.le{x y:It}(h:Lex x y):x.c≤y.c:=by unfold Lex at*;omega
def Srt(a b:Nat)(f:Nat→It):Prop:= ∀p q,a≤p→p<q→q<b→Lex (f p) (f q)
def Tags(a b:Nat)(f:Nat→It):Prop:= ∀p q,a≤p→p<q→q<b→(f p).t<(f q).t
def Bnd(n:Nat)(f:Nat→It):Prop:= ∀i,i<n→0≤(f i).c∧(f i).c≤1152921504606846976
structure PermOn(a b:Nat)(f f':Nat→It):Prop where
 ex: ∃π:Nat→Nat,(∀i,a≤i→i<b→a≤π i∧π i<b)∧(∀i j,a≤i→i<b→a≤j→j<b→π i=π j→i=j)∧(∀i,a≤i→i<b→f' i=f (π i))
 out: ∀i,¬(a≤i∧i<b)→f' i=f i
theorem PermOn.refl(a b:Nat)(f:Nat→It):PermOn a b f f:=⟨⟨id,fun _ h h'=>⟨h,h'⟩,fun _ _ _ _ _ _ h=>h,fun _ _ _=>rfl⟩,fun _ _=>rfl⟩
theorem PermOn.trans{a b:Nat}{f g h:Nat→It}(h1:PermOn a b f g)(h2:PermOn a b g h):PermOn a b f h:=by
 obtain⟨p,p1,p2,p3⟩:=h1.ex
 obtain⟨q,q1,q2,q3⟩:=h2.ex
 refine⟨⟨fun i=>p (q i),fun i hi hj=>p1 _ (q1 i hi hj).1 (q1 i hi hj).2,fun i j a1 a2 a3 a4 he=>?_,fun i hi hj=>?_⟩,fun i hi=>?_⟩
 ·exact q2 i j a1 a2 a3 a4 (p2 _ _ (q1 i a1 a2).1 (q1 i a1 a2).2 (q1 j a3 a4).1 (q1 j a3 a4).2 he)
 ·rw[q3 i hi hj,p3 _ (q1 i hi hj).1 (q1 i hi hj).2]
 ·rw[h2.out i hi,h1.out i hi]
theorem PermOn.widen{a b a' b':Nat}{f g:Nat→It}(h:PermOn a b f g)(ha:a'≤a)(hb:b≤b'):PermOn a' b' f g:=by
 obtain⟨p,p1,p2,p3⟩:=h.ex
 have inn: ∀i,(¬(a≤i∧i<b))→True:=fun _ _=>trivial
 refine⟨⟨fun i=>if a≤i∧i<b then p i else i,fun i hi hj=>?_,fun i j a1 a2 a3 a4 he=>?_,fun i hi hj=>?_⟩,fun i hi=>h.out i (by omega)⟩
 ·show a'≤(if _ then _ else _)∧(if _ then _ else _)<b'
  split
  ·rename_i hh;have:=p1 i hh.1 hh.2;omega
  ·exact⟨hi,hj⟩
 ·simp only at he
  split at he
  ·rename_i h1
   split at he
   ·rename_i h2;exact p2 i j h1.1 h1.2 h2.1 h2.2 he
   ·rename_i h2;have:=p1 i h1.1 h1.2;omega
  ·rename_i h1
   split at he
   ·rename_i h2;have:=p1 j h2.1 h2.2;omega
   ·exact he
 ·show g i=f (if _ then _ else _)
  split
  ·rename_i hh;exact p3 i hh.1 hh.2
  ·rename_i hh;exact h.out i hh
theorem PermOn.all{a b:Nat}{f g:Nat→It}(h:PermOn a b f g){P:It→Prop}(hf: ∀i,a≤i→i<b→P (f i)): ∀i,a≤i→i<b→P (g i):=fun i hi hj=>by
 obtain⟨p,p1,_,p3⟩:=h.ex
 rw[p3 i hi hj]
 exact hf _ (p1 i hi hj).1 (p1 i hi hj).2
theorem PermOn.bnd{a b n:Nat}{f g:Nat→It}(h:PermOn a b f g)(hb:b≤n)(hf:Bnd n f):Bnd n g:=fun i hi=>by
 by_cases hh:a≤i∧i<b
 ·exact h.all (P:=fun x=>0≤x.c∧x.c≤1152921504606846976) (fun j _ hj=>hf j (by omega)) i hh.1 hh.2
 ·rw[h.out i hh];exact hf i hi
def upd(f:Nat→It)(i:Nat)(x:It):Nat→It:=fun j=>if j=i then x else f j
def swp(f:Nat→It)(p q:Nat):Nat→It:=fun j=>if j=p then f q else if j=q then f p else f j
theorem swp_perm{a b p q:Nat}(f:Nat→It)(hp:a≤p∧p<b)(hq:a≤q∧q<b):PermOn a b f (swp f p q):=by
 refine⟨⟨fun j=>if j=p then q else if j=q then p else j,fun i hi hj=>?_,fun i j _ _ _ _ he=>?_,fun i hi hj=>?_⟩,fun i hi=>?_⟩
 ·simp only;split<;>(try split)<;>omega
 ·simp only at he;repeat' split at he
  all_goals omega
 ·show(if i=p then f q else if i=q then f p else f i)=f (if i=p then q else if i=q then p else i)
  by_cases h1:i=p
  ·rw[if_pos h1,if_pos h1]
  ·by_cases h2:i=q
   ·rw[if_neg h1,if_neg h1,if_pos h2,if_pos h2]
   ·rw[if_neg h1,if_neg h1,if_neg h2,if_neg h2]
 ·unfold swp;rw[if_neg (by omega),if_neg (by omega)]
def DS(H:Heap)(blk n:Nat)(f:Nat→It):Prop:=
 ∃cs,H[blk]?=some (.cells cs 158)∧2*n≤cs.size∧ ∀i,i<n→cs[2*i]?=some (.int .i64 (f i).c)∧cs[2*i+1]?=some (f i).v∧(f i).v.oneCell'=true
def But(blk:Nat)(H H':Heap):Prop:= ∀(b:Nat) (o:Obj),H[b]?=some o→b≠blk→H'[b]?=some o
theorem But.refl(blk:Nat)(H:Heap):But blk H H:=fun _ _ h _=>h
theorem But.trans{blk:Nat}{A B C:Heap}(h:But blk A B)(h':But blk B C):But blk A C:=fun b o hb hn=>h' b o (h b o hb hn) hn
theorem But.ext{blk:Nat}{A B:Heap}(h:Ext A B):But blk A B:=fun b o hb _=>h b o hb
theorem DS.ext{H H':Heap}{blk n:Nat}{f:Nat→It}(h:DS H blk n f)(he:Ext H H'):DS H' blk n f:=by
 obtain⟨cs,h1,h2⟩:=h
 exact⟨cs,he _ _ h1,h2⟩
theorem DS.congr{H:Heap}{blk n:Nat}{f g:Nat→It}(h:DS H blk n f)(he: ∀i,i<n→g i=f i):DS H blk n g:=by
 obtain⟨cs,h1,h2,h3⟩:=h
 exact⟨cs,h1,h2,fun i hi=>by rw[he i hi];exact h3 i hi⟩
theorem DS.row{H:Heap}{blk n:Nat}{f:Nat→It}(h:DS H blk n f){i:Nat}(hi:i<n):rowIn H ⟨blk,i*2,none⟩ (f i).cells:=by
 obtain⟨cs,h1,h2,h3⟩:=h
 obtain⟨a,b,_⟩:=h3 i hi
 refine rowIn_block h1 fun j v hv=>?_
 match j,hv with
 |0,hv=>simp[It.cells] at hv;subst hv;rw[Nat.mul_comm] at a;exact a
 |1,hv=>simp[It.cells] at hv;subst hv;rw[Nat.mul_comm] at b;exact b
 |j+2,hv=>simp[It.cells] at hv
theorem DS.one{H:Heap}{blk n:Nat}{f:Nat→It}(h:DS H blk n f){i:Nat}(hi:i<n):(f i).v.oneCell'=true:=by
 obtain⟨cs,h1,h2,h3⟩:=h
 exact(h3 i hi).2.2
theorem setL_get{c vs:List Value}{i:Nat}(h:i+vs.length≤c.length)(j:Nat):(setL c i vs)[j]?=if i≤j∧j<i+vs.length then vs[j-i]? else c[j]?:=by
 unfold setL
 by_cases h1:j<i
 ·rw[if_neg (by omega),List.append_assoc,List.getElem?_append_left (by simp;omega),List.getElem?_take_of_lt h1]
 ·by_cases h2:j<i+vs.length
  ·rw[if_pos ⟨by omega,h2⟩,List.append_assoc,List.getElem?_append_right (by simp;omega),List.getElem?_append_left (by simp;omega)]
   congr 1
   simp;omega
  ·rw[if_neg (by omega),List.getElem?_append_right (by simp;omega),List.getElem?_drop]
   congr 1
   simp;omega
theorem setL_len{c vs:List Value}{i:Nat}(h:i+vs.length≤c.length):(setL c i vs).length=c.length:=by unfold setL;simp;omega
theorem stAt_some{H:Heap}{b i:Nat}{c:Array Value}{t:TypeId}{vs:List Value}{f:Heap→Prop}(h:H[b]?=some (.cells c t (0,0)))(hl:i+vs.length≤c.size)(ho: ∀v∈vs,v.oneCell'=true)
 (hf: ∀c':Array Value,c'.size=c.size→(∀j:Nat,c'[j]?=if i≤j∧j<i+vs.length then vs[j-i]? else c[j]?)→f (H.setIfInBounds b (.cells c' t (0,0)))):stAt H ⟨b,i,none⟩ vs f:=by
 have hl':i+vs.length≤c.toList.length:=by simpa using hl
 refine⟨c,t,h,rfl,hl,ho,?_⟩
 refine hf (setL c.toList i vs).toArray (by simp[setL_len hl']) fun j=>?_
 rw[List.getElem?_toArray,setL_get hl' j,Array.getElem?_toList (xs:=c)]
theorem DS.put{H:Heap}{blk n:Nat}{f:Nat→It}(h:DS H blk n f){i:Nat}(hi:i<n){x:It}(hx:x.v.oneCell'=true){K:Heap→Prop}(hK: ∀H',DS H' blk n (upd f i x)→But blk H H'→K H'):stAt H ⟨blk,i*2,none⟩ (Array.toList x.cells) K:=by
 obtain⟨cs,h1,h2,h3⟩:=h
 refine stAt_some h1 (by simp[It.cells];omega) (by intro v hv;simp[It.cells] at hv;rcases hv with rfl|rfl<;>first|rfl|exact hx) fun c' hc' hg=>hK _ ⟨c',get_set_self h1,by omega,fun j hj=>?_⟩ fun b o hb hn=>get_set_ne (Ne.symm hn) hb
 have hl:(Array.toList x.cells).length=2:=rfl
 rw[hl] at hg
 obtain⟨a,b,c⟩:=h3 j hj
 unfold upd
 by_cases hji:j=i
 ·rw[if_pos hji,hg,hg,if_pos (by omega),if_pos (by omega)]
  have e1:2*j-i*2=0:=by omega
  have e2:2*j+1-i*2=1:=by omega
  rw[e1,e2]
  exact⟨rfl,rfl,hx⟩
 ·rw[if_neg hji,hg,hg,if_neg (by omega),if_neg (by omega)]
  exact⟨a,b,c⟩
def Cmp(g:Nat):Prop:= ∀(x y:It) (H:Heap) (R:Value→Heap→Prop),(0≤x.c∧x.c≤1152921504606846976)→(0≤y.c∧y.c≤1152921504606846976)→(∀H',Ext H H'→R (.int .i64 (x.c-y.c)) H')→
 CallsH Tryz.prog g #[.agg x.cells,.agg y.cells] H R
theorem cmp23:Cmp 86:=fun x y H R hx hy h=>by
 refine Tryz.s86 ?_
 unfold Tryz.S86 alc
 have e1:Ext H (H.push (.cells x.cells 158)):=Ext.push _ _
 have h1:=get_push_self H (.cells x.cells 158)
 generalize H.push (.cells x.cells 158)=H1 at e1 h1
 have e2:Ext H1 (H1.push (.cells y.cells 158)):=Ext.push _ _
 have h2:=get_push_self H1 (.cells y.cells 158)
 refine⟨x.c,by rw[add_none];exact cell_get (e2 _ _ h1) rfl,y.c,by rw[add_none];exact cell_get h2 rfl,?_⟩
 rw[wrap_id (by omega) (by omega)]
 exact h _ (e1.trans e2)
theorem cmp29:Cmp 109:=fun x y H R hx hy h=>by
 refine Tryz.s109 ?_
 unfold Tryz.S109 alc
 have e1:Ext H (H.push (.cells x.cells 158)):=Ext.push _ _
 have h1:=get_push_self H (.cells x.cells 158)
 generalize H.push (.cells x.cells 158)=H1 at e1 h1
 have e2:Ext H1 (H1.push (.cells y.cells 158)):=Ext.push _ _
 have h2:=get_push_self H1 (.cells y.cells 158)
 refine⟨x.c,by rw[add_none];exact cell_get (e2 _ _ h1) rfl,y.c,by rw[add_none];exact cell_get h2 rfl,?_⟩
 rw[wrap_id (by omega) (by omega)]
 exact h _ (e1.trans e2)
theorem upd_swp(f:Nat→It){p q:Nat}(hpq:p≠q):upd (upd f q (f p)) p (f q)=swp f p q:=by
 funext j
 unfold upd swp
 by_cases h1:j=p
 ·rw[if_pos h1]
 ·rw[if_neg h1]
set_option maxHeartbeats 1000000 in
theorem c115{g:Nat}(hc:Cmp g){H:Heap}{blk n a b c:Nat}{f:Nat→It}(h:DS H blk n f)(hb:Bnd n f)(hab:a≤b)(hbn:b≤n)(hn:n≤1000000)(ht:Tags a b f){R:Value→Heap→Prop}
 (hR: ∀H' f',DS H' blk n f'→But blk H H'→PermOn a b f f'→Srt a b f'→R (.tuple #[]) H'):
 CallsH Tryz.prog 115 #[.slice (some ⟨blk,0,none⟩) n c,.int .i64 a,.int .i64 b,.func (.func g) #[] #[]] H R:=by
 refine Tryz.s115 ?_
 unfold Tryz.S115
 intro X hX
 have outer: ∀(m i:Nat) (H1:Heap) (f1:Nat→It),b-i=m→a+1≤i→(i≤b∨i=a+1)→DS H1 blk n f1→But blk H H1→PermOn a b f f1→Srt a i f1→(∀j,i≤j→f1 j=f j)→(∀p q,a≤p→p<i→i≤q→q<b→(f1 p).t<(f1 q).t)→X [.int .i64 i] H1:=by
  intro m
  induction m with
  |zero=>
   intro i H1 f1 hm hi hib d1 b1 p1 s1 _ _
   refine hX _ H1 (br_n (by omega) (hR H1 f1 d1 b1 p1 fun p q h1 h2 h3=>s1 p q h1 h2 (by omega)))
  |succ m ih=>
   intro i H1 f1 hm hi hib d1 b1 p1 s1 old cross
   have ewi:IntKind.wrap .i64 ((i:Int)+1)=((i+1:Nat):Int):=by rw[wrap_id (by omega) (by omega)];omega
   refine hX _ H1 (br_y (by omega) ?_)
   rw[ewi]
   intro Y hY
   have inner: ∀(j:Nat) (H2:Heap) (f2:Nat→It),a≤j→j≤i→DS H2 blk n f2→But blk H H2→PermOn a (i+1) f1 f2→f2 j=f1 i→
    (∀p q,a≤p→p<q→q≤i→p≠j→q≠j→Lex (f2 p) (f2 q))→(∀q,j<q→q≤i→(f2 j).c<(f2 q).c)→(∀p,a≤p→p≤i→p≠j→(f2 p).t<(f2 j).t)→Y [.int .i64 j] H2:=by
    intro j
    induction j with
    |zero=>
     intro H2 f2 haj hji d2 b2 p2 hx srt big tg
     refine hY _ H2 ?_
     intro J hJ
     refine br_n (by omega) ?_
     refine ih (i+1) H2 f2 (by omega) (by omega) (by omega) d2 b2 (p1.trans (p2.widen (Nat.le_refl _) (by omega))) (fun p q h1 h2 h3=>?_) (fun k hk=>by rw[p2.out k (by omega),old k (by omega)]) (fun p q h1 h2 h3 h4=>?_)
     ·by_cases hp:p=0
      ·subst hp;left;exact big q h2 (by omega)
      ·exact srt p q h1 h2 (by omega) hp (by omega)
     ·rw[p2.out q (by omega)]
      have:=p2.all (P:=fun x=>x.t<(f1 q).t) (fun k hk1 hk2=>?_) p h1 (by omega)
      ·exact this
      ·by_cases hki:k<i
       ·exact cross k q hk1 hki (by omega) h4
       ·have:k=i:=by omega
        subst this
        rw[old k (Nat.le_refl _),old q (by omega)]
        exact ht k q hk1 (by omega) h4
    |succ j ihj=>
     intro H2 f2 haj hji d2 b2 p2 hx srt big tg
     refine hY _ H2 ?_
     have ew:IntKind.wrap .i64 (((j+1:Nat):Int)-1)=(j:Int):=by rw[wrap_id (by omega) (by omega)];omega
     have done:Y [.int .i64 ((j+1:Nat):Int)] H2→True:=fun _=>trivial
     have bnd2:Bnd n f2:=p2.bnd (by omega) (p1.bnd hbn hb)
     have stop: ∀H3,Ext H2 H3→(a=j+1∨(a≤j∧(f2 j).c≤(f2 (j+1)).c))→X [.int .i64 ((i+1:Nat):Int)] H3:=fun H3 e3 hs=>by
      refine ih (i+1) H3 f2 (by omega) (by omega) (by omega) (d2.ext e3) (b2.trans (But.ext e3)) (p1.trans (p2.widen (Nat.le_refl _) (by omega))) (fun p q h1 h2 h3=>?_) (fun k hk=>by rw[p2.out k (by omega),old k (by omega)]) (fun p q h1 h2 h3 h4=>?_)
      ·by_cases hp:p=j+1
       ·subst hp;left;exact big q h2 (by omega)
       ·by_cases hq:q=j+1
        ·subst hq
         rcases hs with hs|⟨hs,hs'⟩
         ·omega
         ·have h5:Lex (f2 j) (f2 (j+1)):=by
           have:=tg j hs (by omega) (by omega)
           unfold Lex;omega
          by_cases hpj:p=j
          ·subst hpj;exact h5
          ·exact(srt p j h1 (by omega) (by omega) hp (by omega)).trans h5
        ·exact srt p q h1 h2 (by omega) hp hq
      ·rw[p2.out q (by omega)]
       refine p2.all (P:=fun x=>x.t<(f1 q).t) (fun k hk1 hk2=>?_) p h1 (by omega)
       by_cases hki:k<i
       ·exact cross k q hk1 hki (by omega) h4
       ·have:k=i:=by omega
        subst this
        rw[old k (Nat.le_refl _),old q (by omega)]
        exact ht k q hk1 (by omega) h4
     intro J hJ
     refine br_dec (fun hgt=>?_) (fun hle=>stop H2 (Ext.refl _) (.inl (by omega)))
     have haj':a≤j:=by omega
     refine⟨_,rfl,by omega,by omega,(f2 (j+1)).cells,rfl,by simpa using d2.row (i:=j+1) (by omega),_,rfl,by rw[ew];omega,by rw[ew];omega,(f2 j).cells,rfl,by rw[ew];simpa using d2.row (i:=j) (by omega),?_⟩
     refine hc (f2 (j+1)) (f2 j) H2 _ (bnd2 _ (by omega)) (bnd2 _ (by omega)) fun H3 e3=>⟨_,rfl,br_dec (fun hlt=>?_) (fun hge=>stop H3 e3 (.inr ⟨haj',by omega⟩))⟩
     refine hJ H3 ?_
     have d3:=d2.ext e3
     refine⟨_,rfl,by rw[ew];omega,by rw[ew];omega,(f2 j).cells,rfl,by rw[ew];simpa using d3.row (i:=j) (by omega),_,rfl,by omega,by omega,(f2 (j+1)).cells,rfl,by simpa using d3.row (i:=j+1) (by omega),_,rfl,by omega,by omega,rfl,?_⟩
     simp only[add_none,Nat.zero_add,Int.toNat_natCast]
     refine d3.put (i:=j+1) (by omega) (x:=f2 j) (d3.one (by omega)) fun H4 d4 b4=>⟨_,rfl,by rw[ew];omega,by rw[ew];omega,rfl,?_⟩
     rw[ew]
     simp only[add_none,Nat.zero_add,Int.toNat_natCast]
     refine d4.put (i:=j) (by omega) (x:=f2 (j+1)) (d3.one (by omega)) fun H5 d5 b5=>?_
     rw[upd_swp f2 (p:=j) (q:=j+1) (by omega)] at d5
     have sj:swp f2 j (j+1) j=f2 (j+1):=by simp[swp]
     have sj1:swp f2 j (j+1) (j+1)=f2 j:=by simp[swp]
     have so: ∀k,k≠j→k≠j+1→swp f2 j (j+1) k=f2 k:=fun k h1 h2=>by simp[swp,h1,h2]
     refine ihj H5 _ haj' (by omega) d5 (b2.trans ((But.ext e3).trans (b4.trans b5))) (p2.trans (swp_perm f2 ⟨haj',by omega⟩ ⟨by omega,by omega⟩)) (by rw[sj,hx]) (fun p q h1 h2 h3 h4 h5=>?_) (fun q h1 h2=>?_) (fun p h1 h2 h3=>?_)
     ·by_cases hq1:q=j+1
      ·subst hq1
       rw[sj1,so p h4 (by omega)]
       exact srt p j h1 (by omega) (by omega) (by omega) (by omega)
      ·by_cases hp1:p=j+1
       ·subst hp1
        rw[sj1,so q (by omega) (by omega)]
        exact srt j q haj' (by omega) h3 (by omega) (by omega)
       ·rw[so p h4 hp1,so q h5 hq1]
        exact srt p q h1 h2 h3 hp1 hq1
     ·rw[sj]
      by_cases hq1:q=j+1
      ·subst hq1;rw[sj1];omega
      ·rw[so q (by omega) hq1];exact big q (by omega) h2
     ·rw[sj]
      by_cases hp1:p=j+1
      ·subst hp1;rw[sj1];exact tg j haj' (by omega) (by omega)
      ·rw[so p h3 hp1];exact tg p h1 h2 hp1
   refine inner i H1 f1 (by omega) (Nat.le_refl _) d1 b1 (PermOn.refl _ _ _) rfl (fun p q h1 h2 h3 h4 h5=>s1 p q h1 h2 (by omega)) (fun q h1 h2=>by omega) (fun p h1 h2 h3=>?_)
   exact cross p i h1 (by omega) (Nat.le_refl _) (by omega)
 have ew:IntKind.wrap .i64 ((a:Int)+1)=((a+1:Nat):Int):=by rw[wrap_id (by omega) (by omega)];omega
 rw[ew]
 refine outer _ (a+1) H f rfl (Nat.le_refl _) (.inr rfl) h (But.refl _ _) (PermOn.refl _ _ _) (fun p q h1 h2 h3=>by omega) (fun _ _=>rfl) (fun p q h1 h2 h3 h4=>ht p q h1 (by omega) h4)
end Go.Proofs
namespace Go.Proofs
open Go.Sh
theorem mid_eq{x y:Nat}(h:x+y≤4000000):IntKind.wrap .i64 (shrI .u64 (IntKind.wrap .u64 (IntKind.wrap .i64 ((x:Int)+y))) (1:Int))=(((x+y)/2:Nat):Int):=by
 have h1:IntKind.wrap .i64 ((x:Int)+y)=(x:Int)+y:=wrap_id (by omega) (by omega)
 have h2:IntKind.wrap .u64 ((x:Int)+y)=(x:Int)+y:=by simp[IntKind.wrap,IntKind.bits,IntKind.signed];omega
 have h3:shrI .u64 ((x:Int)+y) (1:Int)=(((x+y)/2:Nat):Int):=by
  have:shrI .u64 ((x:Int)+y) (1:Int)=((x:Int)+y).fdiv 2:=by simp[shrI,IntKind.bits]
  rw[this,Int.fdiv_eq_ediv_of_nonneg _ (by omega)]
  omega
 rw[h1,h2,h3]
 exact wrap_id (by omega) (by omega)
def swr(f:Nat→It)(a b n:Nat):Nat→It:=fun i=>if a≤i∧i<a+n then f (b+(i-a)) else if b≤i∧i<b+n then f (a+(i-b)) else f i
theorem c120{H:Heap}{blk n c a b k:Nat}{cm:Value}{f:Nat→It}(h:DS H blk n f)(hab:a+k≤b)(hbn:b+k≤n)(hn:n≤1000000){gg:Nat}{R:Value→Heap→Prop}
 (hR: ∀H',DS H' blk n (swr f a b k)→But blk H H'→R (.tuple #[]) H'):
 CallsH Tryz.prog 120 #[.slice (some ⟨blk,0,none⟩) n c,.int .i64 a,.int .i64 b,.int .i64 k,.func (.func gg) #[] #[]] H R:=by
 refine Tryz.s120 ?_
 unfold Tryz.S120
 intro X hX
 have loop: ∀(m i:Nat) (H1:Heap),k-i=m→i≤k→DS H1 blk n (swr f a b i)→But blk H H1→X [.int .i64 i] H1:=by
  intro m
  induction m with
  |zero=>
   intro i H1 hm hi d1 b1
   have:i=k:=by omega
   subst this
   exact hX _ H1 (br_n (by omega) (hR H1 d1 b1))
  |succ m ih=>
   intro i H1 hm hi d1 b1
   have e1:IntKind.wrap .i64 ((b:Int)+i)=((b+i:Nat):Int):=by rw[wrap_id (by omega) (by omega)];omega
   have e2:IntKind.wrap .i64 ((a:Int)+i)=((a+i:Nat):Int):=by rw[wrap_id (by omega) (by omega)];omega
   have e3:IntKind.wrap .i64 ((i:Int)+1)=((i+1:Nat):Int):=by rw[wrap_id (by omega) (by omega)];omega
   refine hX _ H1 (br_y (by omega) ?_)
   rw[e1,e2,e3]
   have vb:swr f a b i (b+i)=f (b+i):=by unfold swr;rw[if_neg (by omega),if_neg (by omega)]
   have va:swr f a b i (a+i)=f (a+i):=by unfold swr;rw[if_neg (by omega),if_neg (by omega)]
   have rb:=d1.row (i:=b+i) (by omega)
   have ra:=d1.row (i:=a+i) (by omega)
   have ob:=d1.one (i:=b+i) (by omega)
   have oa:=d1.one (i:=a+i) (by omega)
   rw[vb] at rb ob
   rw[va] at ra oa
   refine⟨_,rfl,by omega,by omega,(f (b+i)).cells,rfl,by rw[Int.toNat_natCast];simpa using rb,_,rfl,by omega,by omega,(f (a+i)).cells,rfl,by rw[Int.toNat_natCast];simpa using ra,_,rfl,by omega,by omega,rfl,?_⟩
   simp only[add_none,Nat.zero_add,Int.toNat_natCast]
   refine d1.put (i:=a+i) (by omega) ob fun H2 d2 b2=>⟨_,rfl,by omega,by omega,rfl,?_⟩
   simp only[add_none,Nat.zero_add,Int.toNat_natCast]
   refine d2.put (i:=b+i) (by omega) oa fun H3 d3 b3=>?_
   refine ih (i+1) H3 (by omega) (by omega) (d3.congr fun j hj=>?_) (b1.trans (b2.trans b3))
   unfold upd swr
   by_cases h1:j=b+i
   ·rw[if_pos h1,if_neg (by omega),if_pos (by omega)];congr 1;omega
   ·rw[if_neg h1]
    by_cases h2:j=a+i
    ·rw[if_pos h2,if_pos (by omega)];congr 1;omega
    ·rw[if_neg h2]
     by_cases h3:a≤j∧j<a+i
     ·rw[if_pos h3,if_pos (by omega)]
     ·rw[if_neg h3,if_neg (by omega)]
      by_cases h4:b≤j∧j<b+i
      ·rw[if_pos h4,if_pos (by omega)]
      ·rw[if_neg h4,if_neg (by omega)]
 refine loop k 0 H (by omega) (by omega) (h.congr fun j hj=>?_) (But.refl _ _)
 unfold swr;rw[if_neg (by omega),if_neg (by omega)]
def rot(f:Nat→It)(a m b:Nat):Nat→It:=fun i=>if a≤i∧i<a+(b-m) then f (i+(m-a)) else if a+(b-m)≤i∧i<b then f (i-(b-m)) else f i
theorem rot_perm{f:Nat→It}{a m b:Nat}(h1:a≤m)(h2:m≤b):PermOn a b f (rot f a m b):=by
 refine⟨⟨fun i=>if i<a+(b-m) then i+(m-a) else i-(b-m),fun i hi hj=>?_,fun i j _ _ _ _ he=>?_,fun i hi hj=>?_⟩,fun i hi=>?_⟩
 ·simp only;split<;>omega
 ·simp only at he;split at he<;>split at he<;>omega
 ·show rot f a m b i=f (if _ then _ else _)
  unfold rot
  by_cases h:i<a+(b-m)
  ·rw[if_pos ⟨hi,h⟩,if_pos h]
  ·rw[if_neg (by omega),if_pos (by omega),if_neg h]
 ·unfold rot;rw[if_neg (by omega),if_neg (by omega)]
set_option maxHeartbeats 1000000 in
theorem c119{H:Heap}{blk n c a m b:Nat}{f:Nat→It}(h:DS H blk n f)(ham:a<m)(hmb:m<b)(hbn:b≤n)(hn:n≤1000000){gg:Nat}{R:Value→Heap→Prop}
 (hR: ∀H',DS H' blk n (rot f a m b)→But blk H H'→R (.tuple #[]) H'):
 CallsH Tryz.prog 119 #[.slice (some ⟨blk,0,none⟩) n c,.int .i64 a,.int .i64 m,.int .i64 b,.func (.func gg) #[] #[]] H R:=by
 refine Tryz.s119 ?_
 unfold Tryz.S119
 intro X hX
 have e1:IntKind.wrap .i64 ((m:Int)-a)=((m-a:Nat):Int):=by rw[wrap_id (by omega) (by omega)];omega
 have e2:IntKind.wrap .i64 ((b:Int)-m)=((b-m:Nat):Int):=by rw[wrap_id (by omega) (by omega)];omega
 rw[e1,e2]
 have loop: ∀(s i j:Nat) (H1:Heap) (g:Nat→It),i+j≤s→0<i→0<j→i≤m→a≤m-i→m+j≤b→DS H1 blk n g→But blk H H1→(∀k,rot g (m-i) m (m+j) k=rot f a m b k)→X [.int .i64 i,.int .i64 j] H1:=by
  intro s
  induction s with
  |zero=>intro i j H1 g hs hi hj;omega
  |succ s ih=>
   intro i j H1 g hs hi hj him hai hjb d1 b1 hg
   have w1:IntKind.wrap .i64 ((m:Int)-i)=((m-i:Nat):Int):=by rw[wrap_id (by omega) (by omega)];omega
   have w2:IntKind.wrap .i64 ((m:Int)+j)=((m+j:Nat):Int):=by rw[wrap_id (by omega) (by omega)];omega
   refine hX _ _ H1 (br_ne (fun hne=>br_dec (fun hgt=>?_) (fun hle=>?_)) (fun heq=>?_))
   ·have w3:IntKind.wrap .i64 ((i:Int)-j)=((i-j:Nat):Int):=by rw[wrap_id (by omega) (by omega)];omega
    rw[w1,w3]
    refine c120 (cm:= .nilFunc) d1 (a:=m-i) (b:=m) (k:=j) (by omega) (by omega) hn fun H2 d2 b2=>⟨rfl,?_⟩
    refine ih (i-j) j H2 _ (by omega) (by omega) hj (by omega) (by omega) hjb d2 (b1.trans b2) fun k=>?_
    rw[←hg k]
    unfold rot swr
    repeat' split
    all_goals first|omega|(congr 1;omega)|rfl
   ·have w3:IntKind.wrap .i64 ((j:Int)-i)=((j-i:Nat):Int):=by rw[wrap_id (by omega) (by omega)];omega
    have w4:IntKind.wrap .i64 (((m+j:Nat):Int)-i)=((m+j-i:Nat):Int):=by rw[wrap_id (by omega) (by omega)];omega
    rw[w1,w2,w3,w4]
    refine c120 (cm:= .nilFunc) d1 (a:=m-i) (b:=m+j-i) (k:=i) (by omega) (by omega) hn fun H2 d2 b2=>⟨rfl,?_⟩
    refine ih i (j-i) H2 _ (by omega) hi (by omega) him hai (by omega) d2 (b1.trans b2) fun k=>?_
    rw[←hg k]
    unfold rot swr
    repeat' split
    all_goals first|omega|(congr 1;omega)|rfl
   ·rw[w1]
    refine c120 (cm:= .nilFunc) d1 (a:=m-i) (b:=m) (k:=i) (by omega) (by omega) hn fun H2 d2 b2=>⟨rfl,hR H2 (d2.congr fun k hk=>?_) (b1.trans b2)⟩
    rw[←hg k]
    have:i=j:=by omega
    subst this
    unfold rot swr
    repeat' split
    all_goals first|omega|(congr 1;omega)|rfl
 refine loop (m-a+(b-m)) (m-a) (b-m) H f (Nat.le_refl _) (by omega) (by omega) (by omega) (by omega) (by omega) h (But.refl _ _) fun k=>?_
 have x1:m-(m-a)=a:=by omega
 have x2:m+(b-m)=b:=by omega
 rw[x1,x2]
end Go.Proofs
namespace Go.Proofs
open Go.Sh
set_option maxHeartbeats 4000000 in
theorem c116{g:Nat}(hc:Cmp g): ∀(s:Nat) {H:Heap} {blk n c a m b:Nat} {f:Nat→It},b-a≤s→DS H blk n f→Bnd n f→a<m→m<b→b≤n→n≤1000000→Srt a m f→Srt m b f→
 (∀p q,a≤p→p<m→m≤q→q<b→(f p).t<(f q).t)→ ∀{R:Value→Heap→Prop},(∀H' f',DS H' blk n f'→But blk H H'→PermOn a b f f'→Srt a b f'→R (.tuple #[]) H')→
 CallsH Tryz.prog 116 #[.slice (some ⟨blk,0,none⟩) n c,.int .i64 a,.int .i64 m,.int .i64 b,.func (.func g) #[] #[]] H R:=by
 intro s
 induction s with
 |zero=>intro H blk n c a m b f hs _ _ ham hmb;omega
 |succ s ihs=>
 intro H blk n c a m b f hs d bd ham hmb hbn hn sa sb tg R hR
 refine Tryz.s116 ?_
 unfold Tryz.S116
 have w1:IntKind.wrap .i64 ((m:Int)-a)=((m-a:Nat):Int):=by rw[wrap_id (by omega) (by omega)];omega
 have w2:IntKind.wrap .i64 ((b:Int)-m)=((b-m:Nat):Int):=by rw[wrap_id (by omega) (by omega)];omega
 rw[w1,w2]
 have inc: ∀{x:Nat},x≤4000000→IntKind.wrap .i64 ((x:Int)+1)=((x+1:Nat):Int):=fun{x} h=>by rw[wrap_id (by omega) (by omega)];omega
 refine br_eq (fun h1=>?_) (fun h1=>br_eq (fun h2=>?_) (fun h2=>?_))
 ·-- one item ahead
  have hm:m=a+1:=by omega
  intro X hX
  have search: ∀(k i j:Nat) (H1:Heap),j-i≤k→m≤i→i≤j→j≤b→Ext H H1→(∀q,m≤q→q<i→(f q).c<(f a).c)→(∀q,j≤q→q<b→(f a).c≤(f q).c)→X [.int .i64 i,.int .i64 j] H1:=by
   intro k
   induction k with
   |zero=>
    intro i j H1 hk hi hij hjb e1 lo hi2
    have:i=j:=by omega
    subst this
    have w3:IntKind.wrap .i64 ((i:Int)-1)=((i-1:Nat):Int):=by rw[wrap_id (by omega) (by omega)];omega
    refine hX _ _ H1 (br_n (by omega) ?_)
    rw[w3]
    intro Y hY
    have shift: ∀(r k:Nat) (H2:Heap),i-1-k=r→a≤k→k≤i-1→DS H2 blk n (rot f a (a+1) (k+1))→But blk H H2→Y [.int .i64 k] H2:=by
     intro r
     induction r with
     |zero=>
      intro k H2 hr hak hki d2 b2
      have hk1:k+1=i:=by omega
      rw[hk1] at d2
      refine hY _ H2 (br_n (by omega) (hR H2 _ d2 b2 ((rot_perm (by omega) (by omega)).widen (Nat.le_refl _) (by omega)) fun p q p1 p2 p3=>?_))
      unfold rot
      by_cases hp:p<i-1
      ·rw[if_pos (by omega)]
       by_cases hq:q<i-1
       ·rw[if_pos (by omega)];exact sb _ _ (by omega) (by omega) (by omega)
       ·rw[if_neg (by omega)]
        by_cases hq2:q<i
        ·rw[if_pos (by omega)]
         have:q-(i-(a+1))=a:=by omega
         rw[this];left;exact lo _ (by omega) (by omega)
        ·rw[if_neg (by omega)];exact sb _ _ (by omega) (by omega) (by omega)
      ·rw[if_neg (by omega)]
       by_cases hp2:p<i
       ·rw[if_pos (by omega),if_neg (by omega),if_neg (by omega)]
        have:p-(i-(a+1))=a:=by omega
        rw[this]
        have:=hi2 q (by omega) p3
        have:=tg a q (Nat.le_refl _) ham (by omega) p3
        unfold Lex;omega
       ·rw[if_neg (by omega),if_neg (by omega),if_neg (by omega)];exact sb _ _ (by omega) p2 p3
     |succ r ihr=>
      intro k H2 hr hak hki d2 b2
      have e1:=inc (x:=k) (by omega)
      refine hY _ H2 (br_y (by omega) ?_)
      rw[e1]
      have v1:rot f a (a+1) (k+1) (k+1)=f (k+1):=by unfold rot;rw[if_neg (by omega),if_neg (by omega)]
      have v0:rot f a (a+1) (k+1) k=f a:=by unfold rot;rw[if_neg (by omega),if_pos (by omega)];congr 1;omega
      have r1:=d2.row (i:=k+1) (by omega)
      have r0:=d2.row (i:=k) (by omega)
      have o1:=d2.one (i:=k+1) (by omega)
      have o0:=d2.one (i:=k) (by omega)
      rw[v1] at r1 o1
      rw[v0] at r0 o0
      refine⟨_,rfl,by omega,by omega,(f (k+1)).cells,rfl,by rw[Int.toNat_natCast];simpa using r1,_,rfl,by omega,by omega,(f a).cells,rfl,by rw[Int.toNat_natCast];simpa using r0,_,rfl,by omega,by omega,rfl,?_⟩
      simp only[add_none,Nat.zero_add,Int.toNat_natCast]
      refine d2.put (i:=k) (by omega) o1 fun H3 d3 b3=>⟨_,rfl,by omega,by omega,rfl,?_⟩
      simp only[add_none,Nat.zero_add,Int.toNat_natCast]
      refine d3.put (i:=k+1) (by omega) o0 fun H4 d4 b4=>?_
      refine ihr (k+1) H4 (by omega) (by omega) (by omega) (d4.congr fun j hj=>?_) (b2.trans (b3.trans b4))
      unfold upd rot
      by_cases h1:j=k+1
      ·rw[if_pos h1,if_neg (by omega),if_pos (by omega)];congr 1;omega
      ·rw[if_neg h1]
       by_cases h2:j=k
       ·rw[if_pos h2,if_pos (by omega)];congr 1;omega
       ·rw[if_neg h2]
        by_cases h3:a≤j∧j<k
        ·rw[if_pos (by omega),if_pos (by omega)]
        ·rw[if_neg (by omega),if_neg (by omega),if_neg (by omega),if_neg (by omega)]
    refine shift _ a H1 rfl (Nat.le_refl _) (by omega) ((d.ext e1).congr fun j hj=>?_) (But.ext e1)
    unfold rot
    by_cases h1:j=a
    ·rw[if_neg (by omega),if_pos (by omega)];congr 1;omega
    ·rw[if_neg (by omega),if_neg (by omega)]
   |succ k ihk=>
    intro i j H1 hk hi hij hjb e1 lo hi2
    by_cases hlt:i<j
    ·have hmid:=mid_eq (x:=i) (y:=j) (by omega)
     refine hX _ _ H1 (br_y (by omega) ?_)
     rw[hmid]
     have d1:=d.ext e1
     generalize hq:(i+j)/2=h
     have g1:i≤h:=by omega
     have g2:h<j:=by omega
     refine⟨by omega,_,rfl,by omega,by omega,(f h).cells,rfl,by rw[Int.toNat_natCast];simpa using d1.row (i:=h) (by omega),_,rfl,by omega,by omega,(f a).cells,rfl,by rw[Int.toNat_natCast];simpa using d1.row (i:=a) (by omega),?_⟩
     refine hc (f h) (f a) H1 _ (bd _ (by omega)) (bd _ (by omega)) fun H2 e2=>⟨_,rfl,br_dec (fun hl=>?_) (fun hl=>?_)⟩
     ·rw[inc (by omega)]
      refine ihk (h+1) j H2 (by omega) (by omega) (by omega) hjb (e1.trans e2) (fun q q1 q2=>?_) hi2
      by_cases hqh:q=h
      ·subst hqh;omega
      ·have:=(sb q h q1 (by omega) (by omega)).le;omega
     ·refine ihk i h H2 (by omega) hi (by omega) (by omega) (e1.trans e2) lo (fun q q1 q2=>?_)
      by_cases hqh:q=h
      ·subst hqh;omega
      ·have:=(sb h q (by omega) (by omega) q2).le;omega
    ·exact ihk i j H1 (by omega) hi hij hjb e1 lo hi2
  exact search _ m b H (Nat.le_refl _) (Nat.le_refl _) (by omega) (Nat.le_refl _) (Ext.refl _) (fun q q1 q2=>by omega) (fun q q1 q2=>by omega)
 ·-- one item behind
  have hb:b=m+1:=by omega
  intro X hX
  have search: ∀(k i j:Nat) (H1:Heap),j-i≤k→a≤i→i≤j→j≤m→Ext H H1→(∀q,a≤q→q<i→(f q).c≤(f m).c)→(∀q,j≤q→q<m→(f m).c<(f q).c)→X [.int .i64 i,.int .i64 j] H1:=by
   intro k
   induction k with
   |zero=>
    intro i j H1 hk hi hij hjb e1 lo hi2
    have:i=j:=by omega
    subst this
    refine hX _ _ H1 (br_n (by omega) ?_)
    intro Y hY
    have shift: ∀(r k:Nat) (H2:Heap),k-i=r→i≤k→k≤m→DS H2 blk n (rot f k m (m+1))→But blk H H2→Y [.int .i64 k] H2:=by
     intro r
     induction r with
     |zero=>
      intro k H2 hr hak hki d2 b2
      have hk1:k=i:=by omega
      subst hk1
      refine hY _ H2 (br_n (by omega) (hR H2 _ d2 b2 ((rot_perm (by omega) (by omega)).widen (by omega) (by omega)) fun p q p1 p2 p3=>?_))
      unfold rot
      by_cases hp:p<k
      ·rw[if_neg (by omega),if_neg (by omega)]
       by_cases hq:q<k
       ·rw[if_neg (by omega),if_neg (by omega)];exact sa _ _ (by omega) (by omega) (by omega)
       ·by_cases hq2:q=k
        ·rw[if_pos (by omega)]
         have:q+(m-k)=m:=by omega
         rw[this]
         have:=lo p p1 hp
         have:=tg p m p1 (by omega) (Nat.le_refl _) hmb
         unfold Lex;omega
        ·rw[if_neg (by omega),if_pos (by omega)];exact sa _ _ (by omega) (by omega) (by omega)
      ·by_cases hp2:p=k
       ·rw[if_pos (by omega),if_neg (by omega),if_pos (by omega)]
        have:p+(m-k)=m:=by omega
        rw[this]
        left;exact hi2 _ (by omega) (by omega)
       ·rw[if_neg (by omega),if_pos (by omega),if_neg (by omega),if_pos (by omega)];exact sa _ _ (by omega) (by omega) (by omega)
     |succ r ihr=>
      intro k H2 hr hak hki d2 b2
      have e1:IntKind.wrap .i64 ((k:Int)-1)=((k-1:Nat):Int):=by rw[wrap_id (by omega) (by omega)];omega
      refine hY _ H2 (br_y (by omega) ?_)
      rw[e1]
      have v1:rot f k m (m+1) (k-1)=f (k-1):=by unfold rot;rw[if_neg (by omega),if_neg (by omega)]
      have v0:rot f k m (m+1) k=f m:=by unfold rot;rw[if_pos (by omega)];congr 1;omega
      have r1:=d2.row (i:=k-1) (by omega)
      have r0:=d2.row (i:=k) (by omega)
      have o1:=d2.one (i:=k-1) (by omega)
      have o0:=d2.one (i:=k) (by omega)
      rw[v1] at r1 o1
      rw[v0] at r0 o0
      refine⟨_,rfl,by omega,by omega,(f (k-1)).cells,rfl,by rw[Int.toNat_natCast];simpa using r1,_,rfl,by omega,by omega,(f m).cells,rfl,by rw[Int.toNat_natCast];simpa using r0,_,rfl,by omega,by omega,rfl,?_⟩
      simp only[add_none,Nat.zero_add,Int.toNat_natCast]
      refine d2.put (i:=k) (by omega) o1 fun H3 d3 b3=>⟨_,rfl,by omega,by omega,rfl,?_⟩
      simp only[add_none,Nat.zero_add,Int.toNat_natCast]
      refine d3.put (i:=k-1) (by omega) o0 fun H4 d4 b4=>?_
      refine ihr (k-1) H4 (by omega) (by omega) (by omega) (d4.congr fun j hj=>?_) (b2.trans (b3.trans b4))
      unfold upd rot
      by_cases h1:j=k-1
      ·rw[if_pos h1,if_pos (by omega)];congr 1;omega
      ·rw[if_neg h1]
       by_cases h2:j=k
       ·rw[if_pos h2,if_neg (by omega),if_pos (by omega)];congr 1;omega
       ·rw[if_neg h2]
        by_cases h3:k+1≤j∧j<m+1
        ·rw[if_neg (by omega),if_pos (by omega),if_neg (by omega),if_pos (by omega)]
        ·rw[if_neg (by omega),if_neg (by omega),if_neg (by omega),if_neg (by omega)]
    refine shift _ m H1 rfl (by omega) (Nat.le_refl _) ((d.ext e1).congr fun j hj=>?_) (But.ext e1)
    unfold rot
    by_cases h1:j=m
    ·rw[if_pos (by omega)];congr 1;omega
    ·rw[if_neg (by omega),if_neg (by omega)]
   |succ k ihk=>
    intro i j H1 hk hi hij hjb e1 lo hi2
    by_cases hlt:i<j
    ·have hmid:=mid_eq (x:=i) (y:=j) (by omega)
     refine hX _ _ H1 (br_y (by omega) ?_)
     rw[hmid]
     have d1:=d.ext e1
     generalize hq:(i+j)/2=h
     have g1:i≤h:=by omega
     have g2:h<j:=by omega
     refine⟨by omega,_,rfl,by omega,by omega,(f m).cells,rfl,by rw[Int.toNat_natCast];simpa using d1.row (i:=m) (by omega),_,rfl,by omega,by omega,(f h).cells,rfl,by rw[Int.toNat_natCast];simpa using d1.row (i:=h) (by omega),?_⟩
     refine hc (f m) (f h) H1 _ (bd _ (by omega)) (bd _ (by omega)) fun H2 e2=>⟨_,rfl,br_not (fun hl=>?_) (fun hl=>?_)⟩
     ·have hl:=of_decide_eq_false hl
      rw[inc (by omega)]
      refine ihk (h+1) j H2 (by omega) (by omega) (by omega) hjb (e1.trans e2) (fun q q1 q2=>?_) hi2
      by_cases hqh:q=h
      ·subst hqh;omega
      ·have:=(sa q h q1 (by omega) (by omega)).le;omega
     ·have hl:=of_decide_eq_true hl
      refine ihk i h H2 (by omega) hi (by omega) (by omega) (e1.trans e2) lo (fun q q1 q2=>?_)
      by_cases hqh:q=h
      ·subst hqh;omega
      ·have:=(sa h q (by omega) (by omega) q2).le;omega
    ·exact ihk i j H1 (by omega) hi hij hjb e1 lo hi2
  exact search _ a m H (Nat.le_refl _) (Nat.le_refl _) (by omega) (Nat.le_refl _) (Ext.refl _) (fun q q1 q2=>by omega) (fun q q1 q2=>by omega)
 ·-- the general way
  have hmid:=mid_eq (x:=a) (y:=b) (by omega)
  rw[hmid]
  generalize hmd:(a+b)/2=mid
  have w3:IntKind.wrap .i64 ((mid:Int)+m)=((mid+m:Nat):Int):=by rw[wrap_id (by omega) (by omega)];omega
  have w4:IntKind.wrap .i64 (((mid+m:Nat):Int)-1)=((mid+m-1:Nat):Int):=by rw[wrap_id (by omega) (by omega)];omega
  rw[w3,w4]
  refine⟨by omega,?_⟩
  intro J hJ
  have go: ∀lo hi:Nat,a≤lo→lo≤hi→hi≤m→hi≤mid→(∀c,lo≤c→c<hi→m+c+1≤mid+m∧mid+m<b+c+1)→(lo=a∨mid+m=lo+b)→(hi=m∨hi=mid)→mid+m≤lo+b→J [.int .i64 lo,.int .i64 hi] H:=by
   intro lo hi F1 F1' F1'' F5 F2 F3 F4 F6
   refine hJ _ _ H ?_
   intro X hX
   have search: ∀(k i j:Nat) (H1:Heap),j-i≤k→lo≤i→i≤j→j≤hi→Ext H H1→(∀q,lo≤q→q<i→(f q).c≤(f (mid+m-1-q)).c)→(∀q,j≤q→q<hi→(f (mid+m-1-q)).c<(f q).c)→X [.int .i64 i,.int .i64 j] H1:=by
    intro k
    induction k with
    |zero=>
     intro st j H1 hk hlo hij hjb e1 pl ph
     have:st=j:=by omega
     subst this
     have w5:IntKind.wrap .i64 (((mid+m:Nat):Int)-st)=((mid+m-st:Nat):Int):=by rw[wrap_id (by omega) (by omega)];omega
     refine hX _ _ H1 (br_n (by omega) ?_)
     rw[w5]
     generalize hE:mid+m-st=E
     have E1:m≤E:=by omega
     have E2:E≤b:=by omega
     have E3:st≤m:=by omega
     have d1:=d.ext e1
     -- what stands there when the middle has been turned
     have cross: ∀p q,a≤p→p<mid→mid≤q→q<b→Lex (rot f st m E p) (rot f st m E q):=by
      intro p q p1 p2 q1 q2
      unfold rot
      by_cases hp:p<st
      ·rw[if_neg (by omega),if_neg (by omega),if_neg (by omega)]
       by_cases hq:q<E
       ·rw[if_pos (by omega)];exact sa _ _ p1 (by omega) (by omega)
       ·rw[if_neg (by omega)]
        have hsl:lo<st:=by rcases F3 with h|h<;>omega
        have z1:=pl (st-1) (by omega) (by omega)
        have z2:mid+m-1-(st-1)=E:=by omega
        rw[z2] at z1
        have z3:(f p).c≤(f (st-1)).c:=by
         by_cases h:p=st-1
         ·rw[h];exact Int.le_refl _
         ·exact(sa p (st-1) p1 (by omega) (by omega)).le
        have z4:(f E).c≤(f q).c:=by
         by_cases h:E=q
         ·rw[h];exact Int.le_refl _
         ·exact(sb E q E1 (by omega) q2).le
        have z5:=tg p q p1 (by omega) (by omega) q2
        unfold Lex;omega
      ·rw[if_pos (by omega),if_neg (by omega)]
       by_cases hq:q<E
       ·rw[if_pos (by omega)]
        have hsh:st<hi:=by rcases F4 with h|h<;>omega
        have z1:=ph st (Nat.le_refl _) hsh
        have z2:mid+m-1-st=E-1:=by omega
        rw[z2] at z1
        left
        have z3:(f (p+(m-st))).c≤(f (E-1)).c:=by
         by_cases h:p+(m-st)=E-1
         ·rw[h];exact Int.le_refl _
         ·exact(sb _ _ (by omega) (by omega) (by omega)).le
        have z4:(f st).c≤(f (q-(E-m))).c:=by
         by_cases h:st=q-(E-m)
         ·rw[←h];exact Int.le_refl _
         ·exact(sa _ _ (by omega) (by omega) (by omega)).le
        omega
       ·rw[if_neg (by omega)];exact sb _ _ (by omega) (by omega) q2
     have sl:Srt a st (rot f st m E):=fun p q p1 p2 p3=>by unfold rot;rw[if_neg (by omega),if_neg (by omega),if_neg (by omega),if_neg (by omega)];exact sa p q p1 p2 (by omega)
     have sm:Srt st mid (rot f st m E):=fun p q p1 p2 p3=>by unfold rot;rw[if_pos (by omega),if_pos (by omega)];exact sb _ _ (by omega) (by omega) (by omega)
     have sm2:Srt mid E (rot f st m E):=fun p q p1 p2 p3=>by unfold rot;rw[if_neg (by omega),if_pos (by omega),if_neg (by omega),if_pos (by omega)];exact sa _ _ (by omega) (by omega) (by omega)
     have sr:Srt E b (rot f st m E):=fun p q p1 p2 p3=>by unfold rot;rw[if_neg (by omega),if_neg (by omega),if_neg (by omega),if_neg (by omega)];exact sb _ _ (by omega) p2 p3
     have tl: ∀p q,a≤p→p<st→st≤q→q<mid→(rot f st m E p).t<(rot f st m E q).t:=fun p q p1 p2 q1 q2=>by
      unfold rot;rw[if_neg (by omega),if_neg (by omega),if_pos (by omega)];exact tg _ _ p1 (by omega) (by omega) (by omega)
     have tr: ∀p q,mid≤p→p<E→E≤q→q<b→(rot f st m E p).t<(rot f st m E q).t:=fun p q p1 p2 q1 q2=>by
      unfold rot;rw[if_neg (by omega),if_pos (by omega),if_neg (by omega),if_neg (by omega)];exact tg _ _ (by omega) (by omega) (by omega) q2
     have pr:PermOn a b f (rot f st m E):=(rot_perm E3 E1).widen (by omega) E2
     have bg:=pr.bnd hbn bd
     intro J1 hJ1
     have after: ∀H2,DS H2 blk n (rot f st m E)→But blk H H2→J1 [] H2:=by
      intro H2 d2 b2
      generalize rot f st m E=g at d2 cross sl sm sm2 sr tl tr pr bg
      refine hJ1 H2 ?_
      intro J2 hJ2
      have right: ∀(H3:Heap) (g2:Nat→It),DS H3 blk n g2→But blk H H3→PermOn a mid g g2→Srt a mid g2→J2 [] H3:=by
       intro H3 g2 d3 b3 p3 s3
       refine hJ2 H3 ?_
       have gr: ∀i,mid≤i→g2 i=g i:=fun i hi=>p3.out i (by omega)
       have fin: ∀(H4:Heap) (g3:Nat→It),DS H4 blk n g3→But blk H H4→PermOn mid b g2 g3→Srt mid b g3→R (.tuple #[]) H4:=by
        intro H4 g3 d4 b4 p4 s4
        refine hR H4 g3 d4 b4 (pr.trans ((p3.widen (Nat.le_refl _) (by omega)).trans (p4.widen (by omega) (Nat.le_refl _)))) fun p q p1 p2 q2=>?_
        by_cases hp:p<mid
        ·rw[p4.out p (by omega)]
         by_cases hq:q<mid
         ·rw[p4.out q (by omega)];exact s3 p q p1 p2 hq
         ·refine p4.all (P:=fun y=>Lex (g2 p) y) (fun i i1 i2=>?_) q (by omega) q2
          rw[gr i i1]
          exact p3.all (P:=fun x=>Lex x (g i)) (fun k k1 k2=>cross k i k1 k2 i1 i2) p p1 hp
        ·exact s4 p q (by omega) p2 q2
       refine br_dec (fun hme=>br_dec (fun heb=>?_) (fun heb=>?_)) (fun hme=>?_)
       ·refine ihs (by omega) d3 (p3.bnd (by omega) bg) (by omega) (by omega) hbn hn (fun p q p1 p2 q2=>?_) (fun p q p1 p2 q2=>?_) (fun p q p1 p2 q1 q2=>?_) (fun H4 g3 d4 b4 p4 s4=>⟨rfl,fin H4 g3 d4 (b3.trans b4) p4 s4⟩)
        ·rw[gr p p1,gr q (by omega)];exact sm2 p q p1 p2 q2
        ·rw[gr p (by omega),gr q (by omega)];exact sr p q p1 p2 q2
        ·rw[gr p p1,gr q (by omega)];exact tr p q p1 p2 q1 q2
       ·refine fin H3 g2 d3 b3 (PermOn.refl _ _ _) fun p q p1 p2 q2=>?_
        rw[gr p p1,gr q (by omega)];exact sm2 p q p1 p2 (by omega)
       ·refine fin H3 g2 d3 b3 (PermOn.refl _ _ _) fun p q p1 p2 q2=>?_
        rw[gr p p1,gr q (by omega)];exact sr p q (by omega) p2 q2
      refine br_dec (fun has=>br_dec (fun hsm=>?_) (fun hsm=>?_)) (fun has=>?_)
      ·refine ihs (by omega) d2 bg (by omega) (by omega) (by omega) hn sl sm tl (fun H3 g2 d3 b3 p3 s3=>⟨rfl,right H3 g2 d3 (b2.trans b3) p3 s3⟩)
      ·exact right H2 g d2 b2 (PermOn.refl _ _ _) fun p q p1 p2 q2=>sl p q p1 p2 (by omega)
      ·exact right H2 g d2 b2 (PermOn.refl _ _ _) fun p q p1 p2 q2=>sm p q (by omega) p2 q2
     have idn: ¬(st<m∧m<E)→ ∀i,i<n→rot f st m E i=f i:=fun hn i hi=>by
      unfold rot
      by_cases h1:st≤i∧i<st+(E-m)
      ·rw[if_pos h1];congr 1;omega
      ·rw[if_neg h1]
       by_cases h2:st+(E-m)≤i∧i<E
       ·rw[if_pos h2];congr 1;omega
       ·rw[if_neg h2]
     refine br_dec (fun hsm=>br_dec (fun hmE=>?_) (fun hmE=>?_)) (fun hsm=>?_)
     ·refine c119 d1 (by omega) (by omega) (by omega) hn fun H2 d2 b2=>⟨rfl,after H2 d2 ((But.ext e1).trans b2)⟩
     ·exact after H1 (d1.congr (idn (by omega))) (But.ext e1)
     ·exact after H1 (d1.congr (idn (by omega))) (But.ext e1)
    |succ k ihk=>
     intro i j H1 hk hi' hij hjb e1 pl ph
     by_cases hlt:i<j
     ·have hmid:=mid_eq (x:=i) (y:=j) (by omega)
      refine hX _ _ H1 (br_y (by omega) ?_)
      rw[hmid]
      have d1:=d.ext e1
      generalize hq:(i+j)/2=h
      have g1:i≤h:=by omega
      have g2:h<j:=by omega
      have f2:=F2 h (by omega) (by omega)
      have w6:IntKind.wrap .i64 (((mid+m-1:Nat):Int)-(h:Nat))=((mid+m-1-h:Nat):Int):=by rw[wrap_id (by omega) (by omega)];omega
      rw[w6]
      refine⟨by omega,_,rfl,by omega,by omega,(f (mid+m-1-h)).cells,rfl,by rw[Int.toNat_natCast];simpa using d1.row (i:=mid+m-1-h) (by omega),_,rfl,by omega,by omega,(f h).cells,rfl,by rw[Int.toNat_natCast];simpa using d1.row (i:=h) (by omega),?_⟩
      refine hc (f (mid+m-1-h)) (f h) H1 _ (bd _ (by omega)) (bd _ (by omega)) fun H2 e2=>⟨_,rfl,br_not (fun hl=>?_) (fun hl=>?_)⟩
      ·have hl:=of_decide_eq_false hl
       rw[inc (by omega)]
       refine ihk (h+1) j H2 (by omega) (by omega) (by omega) hjb (e1.trans e2) (fun q q1 q2=>?_) ph
       by_cases hqh:q=h
       ·subst hqh;omega
       ·have z1:=(sa q h (by omega) (by omega) (by omega)).le
        have z2:=(sb (mid+m-1-h) (mid+m-1-q) (by omega) (by omega) (by have:=F2 q (by omega) (by omega);omega)).le
        omega
      ·have hl:=of_decide_eq_true hl
       refine ihk i h H2 (by omega) hi' (by omega) (by omega) (e1.trans e2) pl (fun q q1 q2=>?_)
       by_cases hqh:q=h
       ·subst hqh;omega
       ·have z1:=(sa h q (by omega) (by omega) (by omega)).le
        have z2:=(sb (mid+m-1-q) (mid+m-1-h) (by have:=F2 q (by omega) (by omega);omega) (by have:=F2 q (by omega) (by omega);omega) (by omega)).le
        omega
     ·exact ihk i j H1 (by omega) hi' hij hjb e1 pl ph
   exact search _ lo hi H (Nat.le_refl _) (Nat.le_refl _) F1' (Nat.le_refl _) (Ext.refl _) (fun q q1 q2=>by omega) (fun q q1 q2=>by omega)
  refine br_dec (fun hgt=>?_) (fun hle=>?_)
  ·have w5:IntKind.wrap .i64 (((mid+m:Nat):Int)-b)=((mid+m-b:Nat):Int):=by rw[wrap_id (by omega) (by omega)];omega
   rw[w5]
   exact go _ _ (by omega) (by omega) (by omega) (by omega) (fun c c1 c2=>by omega) (.inr (by omega)) (.inr rfl) (by omega)
  ·exact go _ _ (by omega) (by omega) (by omega) (by omega) (fun c c1 c2=>by omega) (.inl rfl) (.inl rfl) (by omega)
end Go.Proofs
namespace Go.Proofs
open Go.Sh
structure Cut(n:Nat)(f:Nat→It)(bd:Nat→Prop)(f1:Nat→It):Prop where
 perm:PermOn 0 n f f1
 lex: ∀p q,p<q→q<n→(∀r,p<r→r≤q→ ¬bd r)→Lex (f1 p) (f1 q)
 tag: ∀p q r,p<r→r≤q→q<n→bd r→(f1 p).t<(f1 q).t
theorem Cut.congr{n:Nat}{f f1:Nat→It}{bd bd':Nat→Prop}(h:Cut n f bd f1)(hb: ∀r,0<r→r<n→(bd r↔bd' r)):Cut n f bd' f1:=
 ⟨h.perm,fun p q hpq hq hn=>h.lex p q hpq hq fun r r1 r2 hr=>hn r r1 r2 ((hb r (by omega) (by omega)).1 hr),fun p q r r1 r2 hq hr=>h.tag p q r r1 r2 hq ((hb r (by omega) (by omega)).2 hr)⟩
theorem Cut.step{n:Nat}{f f1 f2:Nat→It}{bd:Nat→Prop}(h:Cut n f bd f1){a b:Nat}(ha:a=0∨bd a)(hb:b=n∨bd b)(hbn:b≤n)(hp:PermOn a b f1 f2)(hs:Srt a b f2):Cut n f (fun r=>bd r∧ ¬(a<r∧r<b)) f2:=by
 refine⟨h.perm.trans (hp.widen (by omega) hbn),fun p q hpq hq hn=>?_,fun p q r r1 r2 hq hr=>?_⟩
 ·by_cases h1:a≤p
  ·by_cases h2:q<b
   ·exact hs p q h1 hpq h2
   ·by_cases h3:b≤p
    ·rw[hp.out p (by omega),hp.out q (by omega)]
     exact h.lex p q hpq hq fun r r1 r2 hr=>hn r r1 r2 ⟨hr,by omega⟩
    ·rcases hb with hb|hb
     ·omega
     ·exact absurd ⟨hb,by omega⟩ (hn b (by omega) (by omega))
  ·by_cases h2:a≤q
   ·rcases ha with ha|ha
    ·omega
    ·exact absurd ⟨ha,by omega⟩ (hn a (by omega) h2)
   ·rw[hp.out p (by omega),hp.out q (by omega)]
    exact h.lex p q hpq hq fun r r1 r2 hr=>hn r r1 r2 ⟨hr,by omega⟩
 ·obtain⟨hr,hrn⟩:=hr
  by_cases h1:r≤a
  ·rw[hp.out p (by omega)]
   by_cases h2:a≤q∧q<b
   ·exact hp.all (P:=fun y=>(f1 p).t<y.t) (fun i i1 i2=>h.tag p i r r1 (by omega) (by omega) hr) q h2.1 h2.2
   ·rw[hp.out q h2];exact h.tag p q r r1 r2 hq hr
  ·rw[hp.out q (by omega)]
   by_cases h2:a≤p∧p<b
   ·exact hp.all (P:=fun y=>y.t<(f1 q).t) (fun i i1 i2=>h.tag i q r (by omega) r2 hq hr) p h2.1 h2.2
   ·rw[hp.out p h2];exact h.tag p q r r1 r2 hq hr
theorem dvd_gap{d a r:Nat}(h1:d∣a)(h2:d∣r)(h:a<r):a+d≤r:=by
 have:=Nat.le_of_dvd (by omega) (Nat.dvd_sub h2 h1)
 omega
set_option maxHeartbeats 2000000 in
theorem c107{g:Nat}(hc:Cmp g){H:Heap}{blk n c:Nat}{f:Nat→It}(h:DS H blk n f)(hb:Bnd n f)(hn:n≤1000000)(ht:Tags 0 n f){R:Value→Heap→Prop}
 (hR: ∀H' f',DS H' blk n f'→But blk H H'→PermOn 0 n f f'→Srt 0 n f'→R (.tuple #[]) H'):
 CallsH Tryz.prog 107 #[.slice (some ⟨blk,0,none⟩) n c,.int .i64 n,.func (.func g) #[] #[]] H R:=by
 refine Tryz.s107 ?_
 unfold Tryz.S107
 intro X hX
 -- the merges
 have merges: ∀(H1:Heap) (f1:Nat→It),DS H1 blk n f1→But blk H H1→Cut n f (fun r=>20∣r) f1→ ∀Y:List Value→Heap→Prop,(∀blockSize13:Int,∀H_14:Heap,(br (decide ((blockSize13:Int)<(n:Int))) (∀X_15:List Value→Heap→Prop,(∀a16:Int,∀b17:Int,∀H_18:Heap,(br (decide ((b17:Int)≤(n:Int))) (CallsH Tryz.prog 116 #[Value.slice (some ⟨blk,0,none⟩) n c,Value.int .i64 a16,Value.int .i64 (IntKind.wrap .i64 (a16+blockSize13)),Value.int .i64 b17,Value.func (.func g) #[] #[]] H_18 fun r19 H_20=>r19=Value.tuple #[]∧X_15 [Value.int .i64 b17,Value.int .i64 (IntKind.wrap .i64 (b17+(IntKind.wrap .i64 ((2:Int)*blockSize13))))] H_20) (br (decide (((IntKind.wrap .i64 (a16+blockSize13)):Int)<(n:Int))) (CallsH Tryz.prog 116 #[Value.slice (some ⟨blk,0,none⟩) n c,Value.int .i64 a16,Value.int .i64 (IntKind.wrap .i64 (a16+blockSize13)),Value.int .i64 (n:Int),Value.func (.func g) #[] #[]] H_18 fun r21 H_22=>r21=Value.tuple #[]∧Y [Value.int .i64 (IntKind.wrap .i64 (blockSize13*(2:Int)))] H_22) (Y [Value.int .i64 (IntKind.wrap .i64 (blockSize13*(2:Int)))] H_18)))→X_15 [Value.int .i64 a16,Value.int .i64 b17] H_18)→X_15 [Value.int .i64 (0:Int),Value.int .i64 (IntKind.wrap .i64 ((2:Int)*blockSize13))] H_14) (R (Value.tuple #[]) H_14))→Y [Value.int .i64 blockSize13] H_14)→Y [Value.int .i64 (20:Int)] H1:=by
  intro H1 f1 d1 b1 k1 Y hY
  have rounds: ∀(m bs:Nat) (H2:Heap) (f2:Nat→It),n-bs≤m→0<bs→DS H2 blk n f2→But blk H H2→Cut n f (fun r=>bs∣r) f2→Y [.int .i64 bs] H2:=by
   intro m
   induction m with
   |zero=>
    intro bs H2 f2 hm hbs d2 b2 k2
    refine hY _ H2 (br_n (by omega) (hR H2 f2 d2 b2 k2.perm fun p q p1 p2 p3=>k2.lex p q p2 p3 fun r r1 r2 hr=>?_))
    have:=Nat.le_of_dvd (by omega) hr
    omega
   |succ m ih=>
    intro bs H2 f2 hm hbs d2 b2 k2
    by_cases hlt:bs<n
    ·have w1:IntKind.wrap .i64 ((2:Int)*bs)=((2*bs:Nat):Int):=by rw[wrap_id (by omega) (by omega)];omega
     have w2:IntKind.wrap .i64 ((bs:Int)*2)=((2*bs:Nat):Int):=by rw[wrap_id (by omega) (by omega)];omega
     refine hY _ H2 (br_y (by omega) ?_)
     rw[w1,w2]
     intro Z hZ
     have h2bs: ∀r,2*bs∣r→bs∣r:=fun r hr=>Nat.dvd_trans (Nat.dvd_mul_left _ _) hr
     have inner: ∀(m2 a:Nat) (H3:Heap) (f3:Nat→It),n-a≤m2→2*bs∣a→a≤n→DS H3 blk n f3→But blk H H3→Cut n f (fun r=>bs∣r∧(r≤a→2*bs∣r)) f3→Z [.int .i64 a,.int .i64 ((a+2*bs:Nat):Int)] H3:=by
      intro m2
      induction m2 with
      |zero=>
       intro a H3 f3 hm2 hda han d3 b3 k3
       have w3:IntKind.wrap .i64 ((a:Int)+bs)=((a+bs:Nat):Int):=by rw[wrap_id (by omega) (by omega)];omega
       refine hZ _ _ H3 (br_n (by omega) ?_)
       rw[w3]
       refine br_n (by omega) (ih (2*bs) H3 f3 (by omega) (by omega) d3 b3 (k3.congr fun r r0 rn=>⟨fun hh=>hh.2 (by omega),fun hh=>⟨h2bs r hh,fun _=>hh⟩⟩))
      |succ m2 ih2=>
       intro a H3 f3 hm2 hda han d3 b3 k3
       have w3:IntKind.wrap .i64 ((a:Int)+bs)=((a+bs:Nat):Int):=by rw[wrap_id (by omega) (by omega)];omega
       have bnd3:Bnd n f3:=k3.perm.bnd (Nat.le_refl _) hb
       have hab:bs∣a:=h2bs a hda
       have hs1: ∀e,e≤a+bs→e≤n→Srt a e f3:=fun e he hen p q p1 p2 p3=>k3.lex p q p2 (by omega) fun r r1 r2 hr=>by
        have:=dvd_gap hab hr.1 (by omega);omega
       have hs2: ∀e,e≤a+2*bs→e≤n→Srt (a+bs) e f3:=fun e he hen p q p1 p2 p3=>k3.lex p q p2 (by omega) fun r r1 r2 hr=>by
        have:=dvd_gap (Nat.dvd_add hab (Nat.dvd_refl bs)) hr.1 (by omega);omega
       have htg: ∀e,e≤n→ ∀p q,a≤p→p<a+bs→a+bs≤q→q<e→(f3 p).t<(f3 q).t:=fun e hen p q p1 p2 q1 q2=>k3.tag p q (a+bs) p2 q1 (by omega) ⟨Nat.dvd_add hab (Nat.dvd_refl bs),fun hh=>by omega⟩
       refine hZ _ _ H3 (br_dec (fun hle=>?_) (fun hgt=>?_))
       ·rw[w3]
        have w4:IntKind.wrap .i64 (((a+2*bs:Nat):Int)+((2*bs:Nat):Int))=((a+2*bs+2*bs:Nat):Int):=by rw[wrap_id (by omega) (by omega)];omega
        rw[w4]
        refine c116 hc _ (Nat.le_refl _) d3 bnd3 (by omega) (by omega) (by omega) hn (hs1 _ (Nat.le_refl _) (by omega)) (hs2 _ (Nat.le_refl _) (by omega)) (htg _ (by omega)) (fun H4 f4 d4 b4 p4 s4=>⟨rfl,?_⟩)
        have hd2:2*bs∣a+2*bs:=Nat.dvd_add hda (Nat.dvd_refl _)
        refine ih2 (a+2*bs) H4 f4 (by omega) hd2 (by omega) d4 (b3.trans b4) ((k3.step (.inr ⟨hab,fun _=>hda⟩) (.inr ⟨h2bs _ hd2,fun _=>hd2⟩) (by omega) p4 s4).congr fun r r0 rn=>⟨fun hh=>⟨hh.1.1,fun hle2=>?_⟩,fun hh=>⟨⟨hh.1,fun hra=>hh.2 (by omega)⟩,fun hc=>?_⟩⟩)
        ·by_cases hra:r≤a
         ·exact hh.1.2 hra
         ·have:r=a+2*bs:=by
           have:=hh.2;omega
          rw[this];exact hd2
        ·have:=dvd_gap hda (hh.2 (by omega)) hc.1;omega
       ·rw[w3]
        refine br_dec (fun hlt2=>?_) (fun hge=>?_)
        ·refine c116 hc _ (Nat.le_refl _) d3 bnd3 (by omega) (by omega) (Nat.le_refl _) hn (hs1 _ (Nat.le_refl _) (by omega)) (hs2 _ (by omega) (Nat.le_refl _)) (htg _ (Nat.le_refl _)) (fun H4 f4 d4 b4 p4 s4=>⟨rfl,?_⟩)
         refine ih (2*bs) H4 f4 (by omega) (by omega) d4 (b3.trans b4) ((k3.step (.inr ⟨hab,fun _=>hda⟩) (.inl rfl) (Nat.le_refl _) p4 s4).congr fun r r0 rn=>⟨fun hh=>hh.1.2 (by have:=hh.2;omega),fun hh=>⟨⟨h2bs r hh,fun _=>hh⟩,fun hc=>?_⟩⟩)
         have:=dvd_gap hda hh hc.1;omega
        ·refine ih (2*bs) H3 f3 (by omega) (by omega) d3 b3 (k3.congr fun r r0 rn=>⟨fun hh=>?_,fun hh=>⟨h2bs r hh,fun _=>hh⟩⟩)
         by_cases hra:r≤a
         ·exact hh.2 hra
         ·have:=dvd_gap hab hh.1 (by omega);omega
     have:=inner n 0 H2 f2 (by omega) ⟨0,rfl⟩ (by omega) d2 b2 (k2.congr fun r r0 rn=>⟨fun hh=>⟨hh,fun h0=>by omega⟩,fun hh=>hh.1⟩)
     simpa using this
    ·exact ih bs H2 f2 (by omega) hbs d2 b2 k2
  exact rounds n 20 H1 f1 (by omega) (by omega) d1 b1 k1
 have blocks: ∀(m a:Nat) (H1:Heap) (f1:Nat→It),n-a≤m→20∣a→a≤n→DS H1 blk n f1→But blk H H1→(∀i,a≤i→f1 i=f i)→Cut n f (fun r=>0<r∧(r≤a→20∣r)) f1→X [.int .i64 a,.int .i64 ((a+20:Nat):Int)] H1:=by
  have last: ∀(a:Nat) (H1:Heap) (f1:Nat→It),n<a+20→20∣a→a≤n→DS H1 blk n f1→But blk H H1→(∀i,a≤i→f1 i=f i)→Cut n f (fun r=>0<r∧(r≤a→20∣r)) f1→X [.int .i64 a,.int .i64 ((a+20:Nat):Int)] H1:=by
   intro a H1 f1 hlt hda han d1 b1 old k1
   refine hX _ _ H1 (br_n (by omega) ?_)
   refine c115 hc d1 (k1.perm.bnd (Nat.le_refl _) hb) han (Nat.le_refl _) hn (fun p q p1 p2 p3=>by rw[old p p1,old q (by omega)];exact ht p q (by omega) p2 p3) fun H2 f2 d2 b2 p2 s2=>⟨rfl,?_⟩
   intro Y hY
   refine merges H2 f2 d2 (b1.trans b2) ((k1.step (a:=a) (b:=n) ?_ (.inl rfl) (Nat.le_refl _) p2 s2).congr fun r r0 rn=>⟨fun hh=>hh.1.2 (by have:=hh.2;omega),fun hh=>⟨⟨r0,fun _=>hh⟩,fun hc=>?_⟩⟩) Y hY
   ·by_cases h0:a=0
    ·exact .inl h0
    ·exact .inr ⟨by omega,fun _=>hda⟩
   ·have:=dvd_gap hda hh hc.1;omega
  intro m
  induction m with
  |zero=>
   intro a H1 f1 hm hda han
   exact last a H1 f1 (by omega) hda han
  |succ m ih=>
   intro a H1 f1 hm hda han d1 b1 old k1
   by_cases hle:a+20≤n
   ·have w:IntKind.wrap .i64 (((a+20:Nat):Int)+(20:Int))=((a+20+20:Nat):Int):=by rw[wrap_id (by omega) (by omega)];omega
    refine hX _ _ H1 (br_y (by omega) ?_)
    rw[w]
    refine c115 hc d1 (k1.perm.bnd (Nat.le_refl _) hb) (by omega) hle hn (fun p q p1 p2 p3=>by rw[old p p1,old q (by omega)];exact ht p q (by omega) p2 (by omega)) fun H2 f2 d2 b2 p2 s2=>⟨rfl,?_⟩
    refine ih (a+20) H2 f2 (by omega) (by omega) hle d2 (b1.trans b2) (fun i hi=>by rw[p2.out i (by omega),old i (by omega)]) ((k1.step (a:=a) (b:=a+20) ?_ (.inr ⟨by omega,fun h=>by omega⟩) hle p2 s2).congr fun r r0 rn=>⟨fun hh=>⟨r0,fun h20=>?_⟩,fun hh=>⟨⟨r0,fun h=>hh.2 (by omega)⟩,fun hc=>?_⟩⟩)
    ·by_cases h0:a=0
     ·exact .inl h0
     ·exact .inr ⟨by omega,fun _=>hda⟩
    ·have:=hh.2
     have:=hh.1.2
     omega
    ·have:=hh.2 (by omega)
     omega
   ·exact last a H1 f1 (by omega) hda han d1 b1 old k1
 have:=blocks n 0 H f (by omega) ⟨0,rfl⟩ (by omega) h (But.refl _ _) (fun _ _=>rfl) ⟨PermOn.refl _ _ _,fun p q p1 p2 hn=>absurd ⟨by omega,fun h=>by omega⟩ (hn q p1 (Nat.le_refl _)),fun p q r r1 r2 hq hr=>ht p q (by omega) (by omega) hq⟩
 simpa using this
theorem c85{g:Nat}(hc:Cmp g){H:Heap}{blk n c:Nat}{f:Nat→It}(h:DS H blk n f)(hb:Bnd n f)(hn:n≤1000000)(ht:Tags 0 n f){R:Value→Heap→Prop}
 (hR: ∀H' f',DS H' blk n f'→But blk H H'→PermOn 0 n f f'→Srt 0 n f'→R (.tuple #[]) H'):
 CallsH Tryz.prog 85 #[.slice (some ⟨blk,0,none⟩) n c,.func (.func g) #[] #[]] H R:=by
 refine Tryz.s85 ?_
 unfold Tryz.S85
 exact c107 hc h hb hn ht fun H' f' d b p s=>⟨rfl,hR H' f' d b p s⟩
end Go.Proofs
namespace Go.Proofs
open Go.Sh
theorem c117{H:Heap}{n:Nat}(hn:n≤1000000){R:Value→Heap→Prop}(hR: ∀H' p' c',FS H.size H' p' 0 c' 158 2 []→Ext H H'→R (.slice p' 0 c') H'):
 CallsH Tryz.prog 117 #[.slice none 0 0,.int .i64 n] H R:=by
 refine Tryz.s117 ?_
 unfold Tryz.S117
 intro J hJ
 refine br_n (by omega) (hJ H ?_)
 have w1:IntKind.wrap .i64 (((0:Nat):Int)-((0:Nat):Int))=0:=by decide
 have w2:IntKind.wrap .i64 ((n:Int)-0)=(n:Int):=by rw[wrap_id (by omega) (by omega)];omega
 rw[w1,w2]
 refine br_dec (fun hp=>⟨by omega,by omega,by omega,by omega,?_,by omega,fun h0=>by omega,fun _=>⟨#[],rfl,fun c' hc'=>⟨by omega,by omega,?_⟩⟩⟩) (fun h0=>hR H none 0 (FS.nil _ _ _ _) (Ext.refl _))
 ·simp;omega
 ·have hc0:c'≠0:=by simp at hc';omega
  simp only[hc0,if_false,Option.map_some,Nat.sub_zero,Int.toNat_natCast,Nat.zero_mul,add_none,Nat.zero_add]
  refine hR _ _ c' ⟨rfl,Nat.zero_le _,by simp,.inr ⟨H.size,_,rfl,Nat.le_refl _,get_push_self _ _,?_,fun i v hv=>by simp at hv⟩⟩ (Ext.push _ _)
  rw[zeroCells_eq _ _ (by simp)]
  simp[reps_length] at hc' ⊢
  omega
theorem c108{H:Heap}{b:Nat}{p1 p2:Option Addr}{l1 c1 l2 c2:Nat}{tt:TypeId}{A B:List Value}(hb:H[b]?=some (.cells #[.slice p1 l1 c1,.slice p2 l2 c2] tt))(hA:RS H p1 l1 158 2 A)(hB:RS H p2 l2 158 2 B)(hl:l1+l2≤1000000){R:Value→Heap→Prop}
 (hR: ∀H' p' c',FS H.size H' p' (l1+l2) c' 158 2 (A++B)→Ext H H'→R (.slice p' (l1+l2) c') H'):CallsH Tryz.prog 108 #[.slice (some ⟨b,0,none⟩) 2 2] H R:=by
 refine Tryz.s108 ?_
 unfold Tryz.S108
 intro X hX
 have g0: ∀{H':Heap},Ext H H'→cell H' ⟨b,0,none⟩=some (.slice p1 l1 c1):=fun e=>cell_get (e _ _ hb) rfl
 have g1: ∀{H':Heap},Ext H H'→cell H' ⟨b,1,none⟩=some (.slice p2 l2 c2):=fun e=>cell_get (e _ _ hb) rfl
 have w0:IntKind.wrap .i64 ((0:Int)+((l1:Nat):Int))=(l1:Int):=by rw[wrap_id (by omega) (by omega)];omega
 have w1:IntKind.wrap .i64 ((l1:Int)+((l2:Nat):Int))=((l1+l2:Nat):Int):=by rw[wrap_id (by omega) (by omega)];omega
 have i1:IntKind.wrap .i64 ((0:Int)+1)=1:=by decide
 have i2:IntKind.wrap .i64 ((1:Int)+1)=2:=by decide
 refine hX _ _ H (br_y (by omega) ⟨_,rfl,by omega,by omega,p1,l1,c1,by simpa using g0 (Ext.refl _),?_⟩)
 rw[w0,i1]
 refine br_n (by omega) (hX _ _ H (br_y (by omega) ⟨_,rfl,by omega,by omega,p2,l2,c2,by simpa using g1 (Ext.refl _),?_⟩))
 rw[w1,i2]
 refine br_n (by omega) (hX _ _ H (br_n (by omega) ?_))
 refine c117 hl fun H1 q0 k0 f0 e1=>⟨q0,0,k0,rfl,?_⟩
 intro Y hY
 have sz1:=e1.size
 refine hY _ _ _ _ H1 (br_y (by omega) ⟨_,rfl,by omega,by omega,p1,l1,c1,by simpa using g0 e1,?_⟩)
 rw[i1]
 have stay: ∀{Hx Hy:Heap} {q:Option Addr} {l c:Nat} {fs:List Value},Ext H Hx→FS H.size Hx q l c 158 2 fs→(∀(b:Nat) (o:Obj),Hx[b]?=some o→q≠some ⟨b,0,none⟩→Hy[b]?=some o)→Ext H Hy:=fun{Hx Hy q l c fs} ex hf hk b o hb=>by
  refine hk b o (ex b o hb) fun hq=>?_
  have hlt:=lt_of_get hb
  rcases hf.at_ with ⟨h1,_⟩|⟨blk,cs,h1,h2,_⟩
  ·rw[h1] at hq;cases hq
  ·rw[h1] at hq;cases hq;omega
 refine f0.app (hA.ext e1) (by decide) sz1 rfl (by omega) (by omega) fun q1 k1 H2 f1 hk1 hs1=>?_
 have e2:=stay e1 f0 hk1
 refine hY _ _ _ _ H2 (br_y (by omega) ⟨_,rfl,by omega,by omega,p2,l2,c2,by simpa using g1 e2,?_⟩)
 rw[i2]
 refine f1.app (hB.ext e2) (by decide) e2.size rfl (by omega) (by omega) fun q2 k2 H3 f2 hk2 hs2=>?_
 have e3:=stay e2 f1 hk2
 refine hY _ _ _ _ H3 (br_n (by omega) ?_)
 have e0:0+l1+l2=l1+l2:=by omega
 rw[e0] at f2 ⊢
 exact hR H3 q2 k2 (by simpa using f2) e3
theorem c118{H:Heap}{n:Nat}(hn:n≤1000000){R:Value→Heap→Prop}(hR: ∀H' p' c',FS H.size H' p' 0 c' 3 1 []→Ext H H'→R (.slice p' 0 c') H'):
 CallsH Tryz.prog 118 #[.slice none 0 0,.int .i64 n] H R:=by
 refine Tryz.s118 ?_
 unfold Tryz.S118
 intro J hJ
 refine br_n (by omega) (hJ H ?_)
 have w1:IntKind.wrap .i64 (((0:Nat):Int)-((0:Nat):Int))=0:=by decide
 have w2:IntKind.wrap .i64 ((n:Int)-0)=(n:Int):=by rw[wrap_id (by omega) (by omega)];omega
 rw[w1,w2]
 refine br_dec (fun hp=>⟨by omega,by omega,by omega,by omega,?_,by omega,fun h0=>by omega,fun _=>⟨#[],rfl,fun c' hc'=>⟨by omega,by omega,?_⟩⟩⟩) (fun h0=>hR H none 0 (FS.nil _ _ _ _) (Ext.refl _))
 ·simp;omega
 ·have hc0:c'≠0:=by simp at hc';omega
  simp only[hc0,if_false,Option.map_some,Nat.sub_zero,Int.toNat_natCast,Nat.zero_mul,add_none,Nat.zero_add]
  refine hR _ _ c' ⟨rfl,Nat.zero_le _,by simp,.inr ⟨H.size,_,rfl,Nat.le_refl _,get_push_self _ _,?_,fun i v hv=>by simp at hv⟩⟩ (Ext.push _ _)
  rw[zeroCells_eq _ _ (by simp)]
  simp[reps_length] at hc' ⊢
  omega
theorem c110{H:Heap}{b:Nat}{p1 p2:Option Addr}{l1 c1 l2 c2:Nat}{tt:TypeId}{A B:List Value}(hb:H[b]?=some (.cells #[.slice p1 l1 c1,.slice p2 l2 c2] tt))(hA:RS H p1 l1 3 1 A)(hB:RS H p2 l2 3 1 B)(hl:l1+l2≤1000000){R:Value→Heap→Prop}
 (hR: ∀H' p' c',FS H.size H' p' (l1+l2) c' 3 1 (A++B)→Ext H H'→R (.slice p' (l1+l2) c') H'):CallsH Tryz.prog 110 #[.slice (some ⟨b,0,none⟩) 2 2] H R:=by
 refine Tryz.s110 ?_
 unfold Tryz.S110
 intro X hX
 have g0: ∀{H':Heap},Ext H H'→cell H' ⟨b,0,none⟩=some (.slice p1 l1 c1):=fun e=>cell_get (e _ _ hb) rfl
 have g1: ∀{H':Heap},Ext H H'→cell H' ⟨b,1,none⟩=some (.slice p2 l2 c2):=fun e=>cell_get (e _ _ hb) rfl
 have w0:IntKind.wrap .i64 ((0:Int)+((l1:Nat):Int))=(l1:Int):=by rw[wrap_id (by omega) (by omega)];omega
 have w1:IntKind.wrap .i64 ((l1:Int)+((l2:Nat):Int))=((l1+l2:Nat):Int):=by rw[wrap_id (by omega) (by omega)];omega
 have i1:IntKind.wrap .i64 ((0:Int)+1)=1:=by decide
 have i2:IntKind.wrap .i64 ((1:Int)+1)=2:=by decide
 refine hX _ _ H (br_y (by omega) ⟨_,rfl,by omega,by omega,p1,l1,c1,by simpa using g0 (Ext.refl _),?_⟩)
 rw[w0,i1]
 refine br_n (by omega) (hX _ _ H (br_y (by omega) ⟨_,rfl,by omega,by omega,p2,l2,c2,by simpa using g1 (Ext.refl _),?_⟩))
 rw[w1,i2]
 refine br_n (by omega) (hX _ _ H (br_n (by omega) ?_))
 refine c118 hl fun H1 q0 k0 f0 e1=>⟨q0,0,k0,rfl,?_⟩
 intro Y hY
 have sz1:=e1.size
 refine hY _ _ _ _ H1 (br_y (by omega) ⟨_,rfl,by omega,by omega,p1,l1,c1,by simpa using g0 e1,?_⟩)
 rw[i1]
 have stay: ∀{Hx Hy:Heap} {q:Option Addr} {l c:Nat} {fs:List Value},Ext H Hx→FS H.size Hx q l c 3 1 fs→(∀(b:Nat) (o:Obj),Hx[b]?=some o→q≠some ⟨b,0,none⟩→Hy[b]?=some o)→Ext H Hy:=fun{Hx Hy q l c fs} ex hf hk b o hb=>by
  refine hk b o (ex b o hb) fun hq=>?_
  have hlt:=lt_of_get hb
  rcases hf.at_ with ⟨h1,_⟩|⟨blk,cs,h1,h2,_⟩
  ·rw[h1] at hq;cases hq
  ·rw[h1] at hq;cases hq;omega
 refine f0.app (hA.ext e1) (by decide) sz1 rfl (by omega) (by omega) fun q1 k1 H2 f1 hk1 hs1=>?_
 have e2:=stay e1 f0 hk1
 refine hY _ _ _ _ H2 (br_y (by omega) ⟨_,rfl,by omega,by omega,p2,l2,c2,by simpa using g1 e2,?_⟩)
 rw[i2]
 refine f1.app (hB.ext e2) (by decide) e2.size rfl (by omega) (by omega) fun q2 k2 H3 f2 hk2 hs2=>?_
 have e3:=stay e2 f1 hk2
 refine hY _ _ _ _ H3 (br_n (by omega) ?_)
 have e0:0+l1+l2=l1+l2:=by omega
 rw[e0] at f2 ⊢
 exact hR H3 q2 k2 (by simpa using f2) e3
end Go.Proofs
namespace Go.Proofs
open Go.Sh
structure Pk where
 c:Int
 s:List Int
 deriving DecidableEq,Inhabited
def insT(x:Pk×Nat):List (Pk×Nat)→List (Pk×Nat)
 |[]=>[x]
 |y::r=>if x.1.c≤y.1.c then x::y::r else y::insT x r
def sortT(l:List (Pk×Nat)):List (Pk×Nat):=l.foldr insT []
def ssort(l:List Pk):List Pk:=(sortT l.zipIdx).map (·.1)
def LexT(x y:Pk×Nat):Prop:=x.1.c<y.1.c∨(x.1.c=y.1.c∧x.2<y.2)
theorem insT_perm(x:Pk×Nat): ∀l,(insT x l).Perm (x::l)
 |[]=>List.Perm.refl _
 |y::r=>by
  unfold insT
  split
  ·exact List.Perm.refl _
  ·exact((insT_perm x r).cons y).trans (List.Perm.swap x y r)
theorem sortT_perm: ∀l,(sortT l).Perm l
 |[]=>List.Perm.refl _
 |x::r=>(insT_perm x (sortT r)).trans ((sortT_perm r).cons x)
theorem insT_sorted{x:Pk×Nat}: ∀{l:List (Pk×Nat)},(∀y∈l,x.2<y.2)→l.Pairwise LexT→(insT x l).Pairwise LexT
 |[],_,_=>by simp[insT]
 |y::r,hx,hs=>by
  unfold insT
  have hs':=List.pairwise_cons.1 hs
  split
  ·rename_i hle
   refine List.pairwise_cons.2 ⟨fun z hz=>?_,hs⟩
   have h1:=hx y List.mem_cons_self
   have hz':LexT x y:=by unfold LexT;omega
   rcases List.mem_cons.1 hz with rfl|hz
   ·exact hz'
   ·have:=hs'.1 z hz
    unfold LexT at*;omega
  ·rename_i hle
   refine List.pairwise_cons.2 ⟨fun z hz=>?_,insT_sorted (fun z hz=>hx z (List.mem_cons_of_mem _ hz)) hs'.2⟩
   rcases List.mem_cons.1 ((insT_perm x r).mem_iff.1 hz) with rfl|hz
   ·left;omega
   ·exact hs'.1 z hz
theorem sortT_sorted: ∀{l:List (Pk×Nat)},l.Pairwise (fun x y=>x.2<y.2)→(sortT l).Pairwise LexT
 |[],_=>List.Pairwise.nil
 |x::r,h=>by
  have h':=List.pairwise_cons.1 h
  exact insT_sorted (fun y hy=>h'.1 y ((sortT_perm r).mem_iff.1 hy)) (sortT_sorted h'.2)
theorem perm_unique{α:Type}{r:α→α→Prop}(asym: ∀a b,r a b→ ¬r b a): ∀{l m:List α},l.Perm m→l.Pairwise r→m.Pairwise r→l=m
 |[],m,hp,_,_=>(List.nil_perm.1 hp).symm
 |a::l,[],hp,_,_=>absurd hp.symm (by simp)
 |a::l,b::m,hp,hl,hm=>by
  have hl':=List.pairwise_cons.1 hl
  have hm':=List.pairwise_cons.1 hm
  have hab:a=b:=by
   rcases List.mem_cons.1 (hp.mem_iff.1 List.mem_cons_self) with h|h
   ·exact h
   ·rcases List.mem_cons.1 (hp.mem_iff.2 (List.mem_cons_self (a:=b))) with h'|h'
    ·exact h'.symm
    ·exact absurd (hl'.1 b h') (asym _ _ (hm'.1 a h))
  subst hab
  rw[perm_unique asym (List.Perm.cons_inv hp) hl'.2 hm'.2]
theorem LexT.asymm(a b:Pk×Nat)(h:LexT a b): ¬LexT b a:=by unfold LexT at*;omega
theorem zipIdx_tags(l:List Pk):l.zipIdx.Pairwise (fun x y=>x.2<y.2):=by
 have:(l.zipIdx.map (·.2)).Pairwise (· < ·):=by
  rw[List.zipIdx_map_snd]
  exact List.pairwise_lt_range'
 exact List.pairwise_map.1 this
theorem ssort_perm(l:List Pk):(ssort l).Perm l:=by
 unfold ssort
 have:=(sortT_perm l.zipIdx).map (·.1)
 rwa [List.zipIdx_map_fst] at this
theorem ssort_len(l:List Pk):(ssort l).length=l.length:=(ssort_perm l).length_eq
theorem nodup_le{α:Type}[DecidableEq α]: ∀{l m:List α},l.Nodup→(∀a∈l,a∈m)→l.length≤m.length
 |[],m,_,_=>Nat.zero_le _
 |a::l,m,hn,h=>by
  rw[List.nodup_cons] at hn
  have hm:=h a List.mem_cons_self
  have:=nodup_le (m:=m.erase a) hn.2 fun b hb=>(List.mem_erase_of_ne (fun hh=>hn.1 (by rw[←hh];exact hb))).2 (h b (List.mem_cons_of_mem _ hb))
  have hl:=List.length_erase_of_mem hm
  have hp:0<m.length:=List.length_pos_of_mem hm
  rw[List.length_cons]
  omega
theorem ssort_of{L:List Pk}{n:Nat}(hn:L.length=n){π:Nat→Nat}(h1: ∀i,i<n→π i<n)(h2: ∀i j,i<n→j<n→π i=π j→i=j)
 (h3: ∀i j,i<j→j<n→(L.getD (π i) default).c<(L.getD (π j) default).c∨((L.getD (π i) default).c=(L.getD (π j) default).c∧π i<π j)):(List.range n).map (fun i=>L.getD (π i) default)=ssort L:=by
 have hnd:((List.range n).map π).Nodup:=by
  rw[List.nodup_iff_pairwise_ne,List.pairwise_map]
  exact List.Pairwise.imp_of_mem (fun ha hb hab he=>hab (h2 _ _ (List.mem_range.1 ha) (List.mem_range.1 hb) he)) List.nodup_range
 have hperm:((List.range n).map π).Perm (List.range n):=by
  have hsub: ∀x∈(List.range n).map π,x∈List.range n:=fun x hx=>by
   obtain⟨i,hi,rfl⟩:=List.mem_map.1 hx
   exact List.mem_range.2 (h1 i (List.mem_range.1 hi))
  refine(List.perm_ext_iff_of_nodup hnd List.nodup_range).2 fun x=>⟨hsub x,fun hx=>Classical.byContradiction fun hn=>?_⟩
  have:=nodup_le (l:=x::(List.range n).map π) (m:=List.range n) (List.nodup_cons.2 ⟨hn,hnd⟩) (fun a ha=>by
   rcases List.mem_cons.1 ha with rfl|ha
   ·exact hx
   ·exact hsub a ha)
  simp at this
  omega
 have hmap:(List.range n).map (fun i=>L.getD (π i) default)=(((List.range n).map π).map fun t=>(L.getD t default,t)).map (·.1):=by
  simp[List.map_map,Function.comp_def]
 have hz:L.zipIdx=(List.range n).map fun t=>(L.getD t default,t):=by
  apply List.ext_getElem?
  intro i
  rw[List.getElem?_zipIdx,List.getElem?_map]
  by_cases hi:i<n
  ·have hl:i<L.length:=by omega
   rw[List.getElem?_range hi]
   simp[hl]
  ·have hl: ¬i<L.length:=by omega
   rw[List.getElem?_eq_none_iff.2 (by omega),List.getElem?_eq_none_iff.2 (by simp;omega)]
   rfl
 rw[hmap]
 unfold ssort
 congr 1
 refine perm_unique LexT.asymm ?_ ?_ (sortT_sorted (zipIdx_tags L))
 ·refine List.Perm.trans (hperm.map _) ?_
  rw[←hz]
  exact(sortT_perm _).symm
 ·rw[List.pairwise_map,List.pairwise_map]
  exact List.Pairwise.imp_of_mem (fun ha hb hab=>h3 _ _ hab (List.mem_range.1 hb)) List.pairwise_lt_range
def pairsM:List Pk→List Pk
 |x::y::r=>⟨x.c+y.c,x.s++y.s⟩::pairsM r
 |_=>[]
theorem pairsM_two{L:List Pk}{j:Nat}{x y:Pk}(hx:L[2*j]?=some x)(hy:L[2*j+1]?=some y):pairsM (L.take (2*(j+1)))=pairsM (L.take (2*j))++[⟨x.c+y.c,x.s++y.s⟩]:=by
 induction j generalizing L with
 |zero=>
  match L,hx,hy with
  |a::b::r,hx,hy=>simp at hx hy;subst hx hy;simp[pairsM]
  |[a],hx,hy=>simp at hy
 |succ j ih=>
  match L,hx,hy with
  |a::b::r,hx,hy=>
   have e1:2*(j+1)=2*j+1+1:=by omega
   have e2:2*(j+1+1)=2*(j+1)+1+1:=by omega
   rw[e1] at hx hy
   simp only[List.getElem?_cons_succ] at hx
   have hy':r[2*j+1]?=some y:=by simpa[Nat.add_assoc] using hy
   rw[e2,List.take_succ_cons,List.take_succ_cons,e1,List.take_succ_cons,List.take_succ_cons]
   simp only[pairsM]
   rw[←e1,ih hx hy']
   rfl
  |[a],hx,hy=>simp at hy
  |[],hx,hy=>simp at hy
theorem pairsM_all{L:List Pk}{j:Nat}(h:L.length≤2*j+1):pairsM (L.take (2*j))=pairsM L:=by
 induction j generalizing L with
 |zero=>
  match L,h with
  |[],_=>rfl
  |[a],_=>rfl
  |a::b::r,h=>simp at h
 |succ j ih=>
  match L,h with
  |[],_=>simp
  |[a],_=>
   have e1:2*(j+1)=2*j+1+1:=by omega
   rw[e1,List.take_succ_cons];simp
  |a::b::r,h=>
   have e1:2*(j+1)=2*j+1+1:=by omega
   rw[e1,List.take_succ_cons,List.take_succ_cons]
   simp only[pairsM]
   rw[ih (by simp at h;omega)]
def flat(xs:List It):List Value:=xs.flatMap fun x=>[.int .i64 x.c,x.v]
theorem flat_len(xs:List It):(flat xs).length=xs.length*2:=by
 induction xs with
 |nil=>rfl
 |cons x r ih=>unfold flat at*;simp[List.flatMap_cons,ih];omega
theorem flat_append(a b:List It):flat (a++b)=flat a++flat b:=by simp[flat]
theorem flat_get{xs:List It}{i:Nat}{x:It}(h:xs[i]?=some x):(flat xs)[i*2]?=some (.int .i64 x.c)∧(flat xs)[i*2+1]?=some x.v:=by
 induction xs generalizing i with
 |nil=>simp at h
 |cons y r ih=>
  cases i with
  |zero=>simp at h;subst h;simp[flat]
  |succ i=>
   simp only[List.getElem?_cons_succ] at h
   obtain⟨h1,h2⟩:=ih h
   have e1:(i+1)*2=i*2+1+1:=by omega
   have e2:(i+1)*2+1=i*2+1+1+1:=by omega
   rw[e1]
   unfold flat at*
   simp only[List.flatMap_cons,List.cons_append,List.nil_append,List.getElem?_cons_succ]
   exact⟨h1,h2⟩
def SYM(av:Nat→Prop)(H:Heap)(v:Value)(s:List Int):Prop:= ∃q l c,v= .slice q l c∧RS H q l 3 1 (ints s)∧ ∀b,q=some ⟨b,0,none⟩→ ¬av b
def All(av:Nat→Prop)(H:Heap)(xs:List It)(L:List Pk):Prop:=xs.length=L.length∧ ∀(i:Nat) x y,xs[i]?=some x→L[i]?=some y→x.c=y.c∧SYM av H x.v y.s
variable {av:Nat→Prop}
theorem SYM.keep{H H':Heap}{v:Value}{s:List Int}(h:SYM av H v s)(hk: ∀(b:Nat) cs,¬av b→H[b]?=some (.cells cs 3)→H'[b]?=some (.cells cs 3)):SYM av H' v s:=by
 obtain⟨q,l,c,h1,h2,h3⟩:=h
 exact⟨q,l,c,h1,h2.keep fun b cs hq hb=>hk b cs (h3 b hq) hb,h3⟩
theorem All.keep{H H':Heap}{xs:List It}{L:List Pk}(h:All av H xs L)(hk: ∀(b:Nat) cs,¬av b→H[b]?=some (.cells cs 3)→H'[b]?=some (.cells cs 3)):All av H' xs L:=
 ⟨h.1,fun i x y hx hy=>let ⟨a,b⟩:=h.2 i x y hx hy;⟨a,b.keep hk⟩⟩
theorem All.ext{H H':Heap}{xs:List It}{L:List Pk}(h:All av H xs L)(he:Ext H H'):All av H' xs L:=h.keep fun b cs _ hb=>he _ _ hb
theorem All.append{H:Heap}{xs ys:List It}{L M:List Pk}(h:All av H xs L)(h':All av H ys M):All av H (xs++ys) (L++M):=by
 refine⟨by simp[h.1,h'.1],fun i x y hx hy=>?_⟩
 have hl:=h.1
 by_cases hi:i<xs.length
 ·rw[List.getElem?_append_left hi] at hx
  rw[List.getElem?_append_left (by omega)] at hy
  exact h.2 i x y hx hy
 ·rw[List.getElem?_append_right (by omega)] at hx
  rw[List.getElem?_append_right (by omega),←hl] at hy
  exact h'.2 _ x y hx hy
structure Row(av:Nat→Prop)(H:Heap)(p:Option Addr)(l:Nat)(L:List Pk):Prop where
 ex: ∃xs,RS H p l 158 2 (flat xs)∧All av H xs L
theorem Row.ext{H H':Heap}{p:Option Addr}{l:Nat}{L:List Pk}(h:Row av H p l L)(he:Ext H H'):Row av H' p l L:=by
 obtain⟨xs,h1,h2⟩:=h.ex
 exact⟨xs,h1.ext he,h2.ext he⟩
theorem Row.len{H:Heap}{p:Option Addr}{l:Nat}{L:List Pk}(h:Row av H p l L):L.length=l:=by
 obtain⟨xs,h1,h2⟩:=h.ex
 have:=h1.len
 rw[flat_len] at this
 have:=h2.1
 omega
def PkB(L:List Pk)(B:Int)(S:Nat):Prop:= ∀x∈L,0≤x.c∧x.c≤B∧x.s.length≤S
set_option maxHeartbeats 1000000 in
theorem c88{H:Heap}{p:Option Addr}{l c:Nat}{L:List Pk}(h:Row av H p l L)(hav: ∀b,av b→b<H.size)(hl:l≤10000)(hB:PkB L 576460752303423488 400000){R:Value→Heap→Prop}
 (hR: ∀H' q k c',Row av H' q k (pairsM L)→Ext H H'→R (.slice q k c') H'):CallsH Tryz.prog 88 #[.slice p l c] H R:=by
 have hlen:=h.len
 obtain⟨xs,hx,hall⟩:=h.ex
 have hxl:=hall.1
 refine Tryz.s88 ?_
 unfold Tryz.S88 alc
 intro X hX
 have loop: ∀(m j:Nat) (H1:Heap) (q:Option Addr) (k c':Nat) (ys:List It),l-2*j≤m→2*j≤l+1→Ext H H1→FS H.size H1 q k c' 158 2 (flat ys)→All av H1 ys (pairsM (L.take (2*j)))→k≤j→X [.slice q k c',.int .i64 ((2*j:Nat):Int)] H1:=by
  intro m
  induction m with
  |zero=>
   intro j H1 q k c' ys hm hj e1 f1 a1 hk
   have w1:IntKind.wrap .i64 (((2*j:Nat):Int)+1)=((2*j+1:Nat):Int):=by rw[wrap_id (by omega) (by omega)];omega
   rw[pairsM_all (by omega)] at a1
   refine hX q k c' _ H1 ?_
   rw[w1]
   exact br_n (by omega) (hR H1 q k c' ⟨ys,f1.rs,a1⟩ e1)
  |succ m ih=>
   intro j H1 q k c' ys hm hj e1 f1 a1 hk
   have w1:IntKind.wrap .i64 (((2*j:Nat):Int)+1)=((2*j+1:Nat):Int):=by rw[wrap_id (by omega) (by omega)];omega
   have w2:IntKind.wrap .i64 (((2*j:Nat):Int)+2)=((2*(j+1):Nat):Int):=by rw[wrap_id (by omega) (by omega)];omega
   refine hX q k c' _ H1 ?_
   rw[w1,w2]
   refine br_dec (fun hlt=>?_) (fun hge=>?_)
   ·have r1:=hx.ext e1
    have al1:=hall.ext e1
    obtain⟨x,hxx⟩: ∃x,xs[2*j]?=some x:=⟨_,List.getElem?_eq_getElem (by omega)⟩
    obtain⟨y,hyy⟩: ∃y,xs[2*j+1]?=some y:=⟨_,List.getElem?_eq_getElem (by omega)⟩
    obtain⟨u,hu⟩: ∃u,L[2*j]?=some u:=⟨_,List.getElem?_eq_getElem (by omega)⟩
    obtain⟨v,hv⟩: ∃v,L[2*j+1]?=some v:=⟨_,List.getElem?_eq_getElem (by omega)⟩
    obtain⟨xc,q1,l1,c1,xv,s1,_⟩:=al1.2 _ _ _ hxx hu
    obtain⟨yc,q2,l2,c2,yv,s2,_⟩:=al1.2 _ _ _ hyy hv
    obtain⟨gx,gxv⟩:=flat_get hxx
    obtain⟨gy,gyv⟩:=flat_get hyy
    obtain⟨blk,hp,cx⟩:=r1.cell gx
    obtain⟨blk2,hp2,cy⟩:=r1.cell gy
    obtain⟨blk3,hp3,cxv⟩:=r1.cell gxv
    obtain⟨blk4,hp4,cyv⟩:=r1.cell gyv
    rw[hp] at hp2 hp3 hp4
    cases hp2;cases hp3;cases hp4
    have bu:=hB u (List.mem_of_getElem? hu)
    have bv:=hB v (List.mem_of_getElem? hv)
    have l1e:l1=u.s.length:=by have:=s1.len;rw[ints_len] at this;omega
    have l2e:l2=v.s.length:=by have:=s2.len;rw[ints_len] at this;omega
    rw[xv] at cxv
    rw[yv] at cyv
    refine⟨_,hp,by omega,by omega,x.c,by rw[Int.toNat_natCast];simpa using cx,_,hp,by omega,by omega,y.c,by rw[Int.toNat_natCast];simpa using cy,_,hp,by omega,by omega,q1,l1,c1,by rw[Int.toNat_natCast];simpa using cxv,_,hp,by omega,by omega,q2,l2,c2,by rw[Int.toNat_natCast];simpa using cyv,.inl (Ext.push _ _),?_⟩
    have hb2:=get_push_self H1 (.cells #[Value.slice q1 l1 c1,Value.slice q2 l2 c2] 55)
    have e2:Ext H1 (H1.push (.cells #[Value.slice q1 l1 c1,Value.slice q2 l2 c2] 55)):=Ext.push _ _
    generalize H1.push (.cells #[Value.slice q1 l1 c1,Value.slice q2 l2 c2] 55)=H2 at hb2 e2
    refine c110 hb2 (s1.ext e2) (s2.ext e2) (by omega) fun H3 q3 c3 f3 e3=>⟨q3,l1+l2,c3,rfl,.inl e3,rfl,by omega,?_⟩
    have wc:IntKind.wrap .i64 (x.c+y.c)=u.c+v.c:=by rw[xc,yc];exact wrap_id (by omega) (by omega)
    rw[wc]
    have ha:(List.toArray (setL [Value.int .i64 0,Value.slice none 0 0] 0 (Array.toList #[Value.int .i64 (u.c+v.c),Value.slice q3 (l1+l2) c3])))=#[Value.int .i64 (u.c+v.c),Value.slice q3 (l1+l2) c3]:=rfl
    rw[ha]
    have e4:Ext H3 (H3.push (.cells #[Value.int .i64 (u.c+v.c),Value.slice q3 (l1+l2) c3] 158)):=Ext.push _ _
    have hb4:=get_push_self H3 (.cells #[Value.int .i64 (u.c+v.c),Value.slice q3 (l1+l2) c3] 158)
    generalize H3.push (.cells #[Value.int .i64 (u.c+v.c),Value.slice q3 (l1+l2) c3] 158)=H4 at e4 hb4
    have e14:=e2.trans (e3.trans e4)
    have fs4:=f1.ext e14
    have src:RS H4 (some ⟨H3.size,0,none⟩) 1 158 2 (flat [⟨u.c+v.c,.slice q3 (l1+l2) c3,0⟩]):=
     ⟨rfl,by intro z hz;simp[flat] at hz;rcases hz with rfl|rfl<;>rfl,.inr ⟨H3.size,_,rfl,hb4,fun i z hz=>by simpa[flat] using hz⟩⟩
    have sz:=(e1.trans e14).size
    refine fs4.app src (by decide) sz rfl (by omega) (by omega) fun q5 c5 H5 f5 hk5 hs5=>?_
    rw[←flat_append] at f5
    have k3: ∀(b:Nat) cs,¬av b→H4[b]?=some (.cells cs 3)→H5[b]?=some (.cells cs 3):=fun b cs _ hb=>by
     refine hk5 b _ hb fun hq=>?_
     rcases fs4.at_ with ⟨h1,_⟩|⟨blk,cs',h1,_,h3,_⟩
     ·rw[h1] at hq;cases hq
     ·rw[h1] at hq;cases hq;rw[hb] at h3;cases h3
    have e5:Ext H H5:=fun b o hb=>by
     refine hk5 b o ((e1.trans e14) b o hb) fun hq=>?_
     have hlt:=lt_of_get hb
     rcases fs4.at_ with ⟨h1,_⟩|⟨blk,cs',h1,h2,_⟩
     ·rw[h1] at hq;cases hq
     ·rw[h1] at hq;cases hq;omega
    refine ih (j+1) H5 q5 (k+1) c5 _ (by omega) (by omega) e5 f5 ?_ (by omega)
    rw[pairsM_two hu hv]
    refine((a1.ext e14).append ⟨rfl,fun i a b ha hb=>?_⟩).keep k3
    match i,ha,hb with
    |0,ha,hb=>
     simp at ha hb;subst ha hb
     refine⟨rfl,q3,l1+l2,c3,rfl,by rw[ints_append];exact f3.rs.ext e4,fun b hb hab=>?_⟩
     have hlt:=hav b hab
     have hsz2:=(e1.trans e2).size
     rcases f3.at_ with ⟨h1,_⟩|⟨blk,cs',h1,h2,_⟩
     ·rw[h1] at hb;cases hb
     ·rw[h1] at hb;cases hb;omega
    |i+1,ha,hb=>simp at ha
   ·rw[pairsM_all (by omega)] at a1
    exact hR H1 q k c' ⟨ys,f1.rs,a1⟩ e1
 exact loop l 0 H none 0 0 [] (by omega) (by omega) (Ext.refl _) (FS.nil _ _ _ _) (by simp[pairsM,All]) (Nat.le_refl _)
theorem c31_zero{g:Nat}{H:Heap}{p:Option Addr}{c:Nat}{R:Value→Heap→Prop}(hR:R (.tuple #[]) H):CallsH Tryz.prog 115 #[.slice p 0 c,.int .i64 (0:Int),.int .i64 (0:Int),.func (.func g) #[] #[]] H R:=by
 refine Tryz.s115 ?_
 unfold Tryz.S115
 intro X hX
 have w:IntKind.wrap .i64 ((0:Int)+1)=1:=by decide
 rw[w]
 exact hX _ H (br_n (by omega) hR)
theorem c22_zero{g:Nat}{H:Heap}{p:Option Addr}{c:Nat}{R:Value→Heap→Prop}(hR:R (.tuple #[]) H):CallsH Tryz.prog 85 #[.slice p 0 c,.func (.func g) #[] #[]] H R:=by
 refine Tryz.s85 ?_
 unfold Tryz.S85
 refine Tryz.s107 ?_
 unfold Tryz.S107
 intro X hX
 refine hX _ _ H (br_n (by omega) ?_)
 refine c31_zero ⟨rfl,?_⟩
 intro Y hY
 exact hY _ H (br_n (by omega) ⟨rfl,hR⟩)
theorem sort_row{g:Nat}(hc:Cmp g){n0:Nat}{H:Heap}{p:Option Addr}{l c:Nat}{xs:List It}{L:List Pk}(hf:FS n0 H p l c 158 2 (flat xs))(ha:All av H xs L)(hl:l≤100000)(hB:PkB L 1152921504606846976 400000){R:Value→Heap→Prop}
 (hR: ∀H',Row av H' p l (ssort L)→(∀(b:Nat) (o:Obj),H[b]?=some o→p≠some ⟨b,0,none⟩→H'[b]?=some o)→R (.tuple #[]) H'):CallsH Tryz.prog 85 #[.slice p l c,.func (.func g) #[] #[]] H R:=by
 have hlen:xs.length=l:=by have:=hf.len;rw[flat_len] at this;omega
 have hLl:L.length=l:=by rw[←ha.1,hlen]
 by_cases h0:l=0
 ·subst h0
  have:L=[]:=List.length_eq_zero_iff.1 hLl
  subst this
  exact c22_zero (hR H ⟨[],RS.nil _ _ _ _,⟨rfl,fun i x y hx=>by simp at hx⟩⟩ fun b o hb _=>hb)
 ·rcases hf.at_ with ⟨_,hc0⟩|⟨blk,cs,rfl,h2,h3,h4,h5⟩
  ·have:=hf.le;omega
  ·let f:Nat→It:=fun i=>{(xs.getD i ⟨0,.bool false,0⟩) with t:=i}
   have fget: ∀i,i<l→ ∃x,xs[i]?=some x∧(f i).c=x.c∧(f i).v=x.v∧(f i).t=i:=fun i hi=>by
    refine⟨xs[i],List.getElem?_eq_getElem (by omega),?_,?_,rfl⟩<;>simp[f,List.getD_eq_getElem?_getD,List.getElem?_eq_getElem (show i<xs.length by omega)]
   have hd:DS H blk l f:=⟨cs,h3,by have:=hf.le;omega,fun i hi=>by
    obtain⟨x,hx,e1,e2,_⟩:=fget i hi
    obtain⟨g1,g2⟩:=flat_get hx
    rw[e1,e2]
    refine⟨?_,?_,hf.one _ (List.mem_of_getElem? g2)⟩
    ·rw[Nat.mul_comm];exact h5 _ _ g1
    ·rw[Nat.mul_comm];exact h5 _ _ g2⟩
   have lget: ∀i,i<l→ ∃y,L[i]?=some y∧(f i).c=y.c∧SYM av H (f i).v y.s:=fun i hi=>by
    obtain⟨x,hx,e1,e2,_⟩:=fget i hi
    have hy:L[i]?=some L[i]:=List.getElem?_eq_getElem (by omega)
    obtain⟨a,b⟩:=ha.2 i x _ hx hy
    exact⟨_,hy,by rw[e1,a],by rw[e2];exact b⟩
   have hbnd:Bnd l f:=fun i hi=>by
    obtain⟨y,hy,e,_⟩:=lget i hi
    have:=hB y (List.mem_of_getElem? hy)
    rw[e];omega
   refine c85 hc hd hbnd (by omega) (fun p q _ hpq _=>hpq) fun H' f' d' b' p' s'=>?_
   obtain⟨π,π1,π2,π3⟩:=p'.ex
   have hss:(List.range l).map (fun i=>L.getD (π i) default)=ssort L:=by
    refine ssort_of hLl (fun i hi=>(π1 i (by omega) hi).2) (fun i j hi hj he=>π2 i j (by omega) hi (by omega) hj he) fun i j hij hj=>?_
    have hs:=s' i j (by omega) hij hj
    have hi':=(π1 i (by omega) (by omega)).2
    have hj':=(π1 j (by omega) hj).2
    obtain⟨y1,hy1,e1,_⟩:=lget _ hi'
    obtain⟨y2,hy2,e2,_⟩:=lget _ hj'
    rw[π3 i (by omega) (by omega),π3 j (by omega) hj] at hs
    have t1:(f (π i)).t=π i:=rfl
    have t2:(f (π j)).t=π j:=rfl
    unfold Lex at hs
    rw[e1,e2,t1,t2] at hs
    rw[List.getD_eq_getElem?_getD,List.getD_eq_getElem?_getD,hy1,hy2]
    exact hs
   refine hR H' ⟨(List.range l).map f',?_,?_⟩ fun b o hb hn=>b' b o hb fun hh=>hn (by rw[hh])
   ·obtain⟨cs',g1,g2,g3⟩:=d'
    have hget: ∀i x,((List.range l).map f')[i]?=some x→i<l∧x=f' i:=fun i x hx=>by
     rw[List.getElem?_map] at hx
     obtain⟨j,hj,rfl⟩:=Option.map_eq_some_iff.1 hx
     rw[List.getElem?_eq_some_iff] at hj
     obtain⟨hj1,hj2⟩:=hj
     simp at hj1 hj2
     subst hj2
     exact⟨hj1,rfl⟩
    have hfl: ∀(i:Nat) v,(flat ((List.range l).map f'))[i]?=some v→cs'[i]?=some v∧v.oneCell'=true:=fun i v hv=>by
     have hi:=(List.getElem?_eq_some_iff.1 hv).1
     rw[flat_len,List.length_map,List.length_range] at hi
     have hj:i/2<l:=by omega
     have hx:((List.range l).map f')[i/2]?=some (f' (i/2)):=by simp[hj]
     obtain⟨a1,a2⟩:=flat_get hx
     obtain⟨c1,c2,c3⟩:=g3 _ hj
     by_cases he:i%2=0
     ·have e1:i/2*2=i:=by omega
      rw[e1,hv] at a1
      cases a1
      have e2:2*(i/2)=i:=by omega
      rw[e2] at c1
      exact⟨c1,rfl⟩
     ·have e1:i/2*2+1=i:=by omega
      rw[e1,hv] at a2
      cases a2
      have e2:2*(i/2)+1=i:=by omega
      rw[e2] at c2
      exact⟨c2,c3⟩
    refine⟨by rw[flat_len];simp,fun v hv=>?_,.inr ⟨blk,cs',rfl,g1,fun i v hv=>(hfl i v hv).1⟩⟩
    obtain⟨i,hi⟩:=List.getElem?_of_mem hv
    exact(hfl i v hi).2
   ·rw[←hss]
    refine⟨by simp,fun i x y hx hy=>?_⟩
    rw[List.getElem?_map] at hx hy
    obtain⟨j,hj,rfl⟩:=Option.map_eq_some_iff.1 hx
    obtain⟨j',hj',rfl⟩:=Option.map_eq_some_iff.1 hy
    rw[hj] at hj';cases hj'
    have hjl:j<l:=List.mem_range.1 (List.mem_of_getElem? hj)
    obtain⟨y,hy,e1,e2⟩:=lget (π j) (π1 j (by omega) hjl).2
    rw[π3 j (by omega) hjl,List.getD_eq_getElem?_getD,hy]
    refine⟨e1,e2.keep fun b cs2 _ hb=>b' b _ hb fun hh=>?_⟩
    rw[hh,h3] at hb;cases hb
theorem c87{H:Heap}{p q:Option Addr}{l1 c1 l2 c2:Nat}{A B:List Pk}(hA:Row av H p l1 A)(hB:Row av H q l2 B)(hl:l1+l2≤100000)(hbd:PkB (A++B) 1152921504606846976 400000){R:Value→Heap→Prop}
 (hR: ∀H' p' c',Row av H' p' (l1+l2) (ssort (A++B))→l1+l2≤c'→Ext H H'→R (.slice p' (l1+l2) c') H'):CallsH Tryz.prog 87 #[.slice p l1 c1,.slice q l2 c2] H R:=by
 refine Tryz.s87 ?_
 unfold Tryz.S87 alc
 have hb:=get_push_self H (.cells #[Value.slice p l1 c1,Value.slice q l2 c2] 156)
 have e1:Ext H (H.push (.cells #[Value.slice p l1 c1,Value.slice q l2 c2] 156)):=Ext.push _ _
 generalize H.push (.cells #[Value.slice p l1 c1,Value.slice q l2 c2] 156)=H1 at hb e1
 obtain⟨xs,x1,x2⟩:=(hA.ext e1).ex
 obtain⟨ys,y1,y2⟩:=(hB.ext e1).ex
 refine c108 hb x1 y1 (by omega) fun H2 p' c' f2 e2=>⟨p',l1+l2,c',rfl,?_⟩
 rw[←flat_append] at f2
 refine sort_row cmp29 f2 ((x2.append y2).ext e2) hl hbd fun H3 r3 k3=>⟨rfl,hR H3 p' c' r3 f2.le fun b o hb=>?_⟩
 refine k3 b o (e2 b o (e1 b o hb)) fun hq=>?_
 have h1:=lt_of_get (e1 b o hb)
 rcases f2.at_ with ⟨h1,_⟩|⟨blk,cs,h1,h2,_⟩
 ·rw[h1] at hq;cases hq
 ·rw[h1] at hq;cases hq;omega
end Go.Proofs
