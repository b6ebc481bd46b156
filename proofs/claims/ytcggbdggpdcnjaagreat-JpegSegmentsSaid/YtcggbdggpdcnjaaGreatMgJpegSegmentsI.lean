/-
  OWN WORK. Several texts in one: JqI, JqJ, JqK, JpJ, JqL, FlI, FlJ, FlCoP, FlK, LzA, LzB, FlM, JrH, OpBytes.
-/
import Derived.Test.YtcggbdggpdcnjaaGreatMgJpegSegmentsH
import Derived.Test.YtcggbdggpdcnjaaGreatMgJpegSegmentsF
import Derived.Test.YtcggbdggpdcnjaaGreatMgJpegSegmentsE
import Derived.Test.YtcggbdggpdcnjaaGreatMgJpegSegmentsD
import Derived.Test.YtcggbdggpdcnjaaGreatMgJpegSegmentsC
import Derived.Test.YtcggbdggpdcnjaaGreatMgJpegSegmentsG
import Derived.Test.YtcggbdggpdcnjaaGreatRows
import Derived.Test.YtcggbdggpdcnjaaGreatMgJpegSegmentsB
import Derived.ChangeSlices

set_option linter.unusedVariables false
set_option linter.unusedSimpArgs false
namespace Go.Proofs
open Go.Sh
variable {H0 H:Heap} {σ:List Rs} {R:Value→Heap→Prop}
def four(q:Nat→Nat)(P:Nat→List Int):List Rs:=[.sl (some ⟨q 0,0,none⟩) 256 256 3 1 (ints (P 0)),.sl (some ⟨q 1,0,none⟩) 256 256 3 1 (ints (P 1)),.sl (some ⟨q 2,0,none⟩) 256 256 3 1 (ints (P 2)),.sl (some ⟨q 3,0,none⟩) 256 256 3 1 (ints (P 3))]
theorem four_get{q:Nat→Nat}{k:Nat}{P:Nat→List Int}{ρ:List Rs}(hk:k<4):(four q P++ρ)[k]?=some (.sl (some ⟨q k,0,none⟩) 256 256 3 1 (ints (P k))):=by
 obtain rfl|rfl|rfl|rfl:k=0∨k=1∨k=2∨k=3:=by omega
 all_goals rfl
theorem four_set{q:Nat→Nat}{k:Nat}{P:Nat→List Int}{ρ:List Rs}(hk:k<4)(L:List Int):(four q P++ρ).set k (.sl (some ⟨q k,0,none⟩) 256 256 3 1 (ints L))=four q (updP P k L)++ρ:=by
 obtain rfl|rfl|rfl|rfl:k=0∨k=1∨k=2∨k=3:=by omega
 all_goals rfl
theorem flat4_get: ∀{l:List Itm} {i:Nat} {x:Itm},l[i]?=some x→(flat4 l)[i*4]?=some (x.t:Int)∧(flat4 l)[i*4+1]?=some x.s∧(flat4 l)[i*4+2]?=some x.v∧(flat4 l)[i*4+3]?=some (x.n:Int)
 |y::l,0,x,h=>by
  simp at h;subst h
  exact⟨rfl,rfl,rfl,rfl⟩
 |y::l,i+1,x,h=>by
  have h:=flat4_get (l:=l) (i:=i) (by simpa using h)
  rw[show(i+1)*4=i*4+1+1+1+1 from by omega]
  exact h
theorem rowItems{p:Option Addr}{n:Nat}{el:TypeId}{A:List Itm}(h:RS H p n el 4 (ints (flat4 A))){t:Nat}{x:Itm}(hx:A[t]?=some x)(ht:t<n): ∃blk,p=some ⟨blk,0,none⟩∧rowIn H ⟨blk,t*4,none⟩ (itV x):=
 h.row ht (by decide) fun j v hv=>by
  obtain⟨h1,h2,h3,h4⟩:=flat4_get hx
  have hj:j<4:=(Array.getElem?_eq_some_iff.1 hv).1
  obtain rfl|rfl|rfl|rfl:j=0∨j=1∨j=2∨j=3:=by omega
  ·cases hv;exact ints_get h1
  ·cases hv;exact ints_get h2
  ·cases hv;exact ints_get h3
  ·cases hv;exact ints_get h4
theorem itsBits_snoc(E:Nat→Int→List Int)(l:List Itm)(x:Itm):itsBits E (l++[x])=itsBits E l++itBits E x:=by rw[itsBits_append];simp[itsBits]
theorem its_le{A:List Itm}(hA:A.length≤1000000000): ∀(l:List Itm),(∀x∈l,SymOk x)→(itsBits (eA A) l).length≤27*l.length
 |[],_=>by simp[itsBits]
 |x::l,h=>by
  rw[itsBits_cons,List.length_append,List.length_cons]
  have:=its_le hA l fun y hy=>h y (List.mem_cons_of_mem _ hy)
  obtain⟨h1,h2,h3,_,_,_,h7⟩:=h x (List.mem_cons_self ..)
  have hc:=cntS_ok hA x.t
  have hr:=(codeC_ok hc).rng _ (List.mem_of_getElem? (get_gD (lsC (cntS A x.t)) 0 (i:=x.s.toNat) (by rw[lsC_len hc];omega)))
  have:(itBits (eA A) x).length≤27:=by
   unfold itBits eA eBits
   rw[List.length_append,bitsOf_len,bitsOf_len];omega
  omega
theorem sym_code{A:List Itm}(hA:A.length≤1000000000){x:Itm}(hx:x∈A)(hs:SymOk x): ∃n:Nat,n≤16∧(lenC (cntS A x.t))[x.s.toNat]?=some (n:Int)∧ ∃c:Int,(codesM (lenC (cntS A x.t)))[x.s.toNat]?=some c∧0≤c∧c<2^n∧eA A x.t x.s=bitsOf true c n:=by
 obtain⟨h1,h2,h3,_,_,_,h7⟩:=hs
 have hc:=cntS_ok hA x.t
 have hp:=lsC_pos hA hx ⟨h2,h3⟩
 have hg:=get_gD (lenC (cntS A x.t)) 0 (i:=x.s.toNat) (by rw[lenC_len hc];omega)
 have hr:=(lenC_okC hc).w.rng _ (List.mem_of_getElem? hg)
 have e:=lsC_get (cs:=cntS A x.t) (i:=x.s.toNat) (by omega)
 rw[e] at hp
 obtain⟨n,hn⟩:=Int.eq_ofNat_of_zero_le hr.1
 rw[hn] at hg hr hp
 have hcr:=code_rng (lenC_okC hc) hg (by omega)
 refine⟨n,by omega,hg,codeM (lenC (cntS A x.t)) x.s.toNat,codesM_get (by rw[lenC_len hc];omega),hcr.1,hcr.2,?_⟩
 unfold eA eBits
 rw[←lenC_split hc,e,hn,Int.toNat_natCast]
end Go.Proofs
namespace Go.Proofs
open Go.Sh
variable {H0 H:Heap} {σ:List Rs} {R:Value→Heap→Prop}
theorem steps_ok{q:Int}(d:Bool):StOk (stepsM q d):=⟨stepsM_len q d,fun i hi=>by
 rw[show(stepsM q d).getD i 0=stepV q d i from tab_getD hi]
 unfold stepV;omega⟩
theorem appB{op q:Option Addr}{ol oc n:Nat}{out gs:List Int}(hs:St H0 H (.sl op ol oc 5 1 (kints .u8 out)::σ))(ho:out.length=ol)(hI:IS H q n (kints .u8 gs))(hl:ol+n≤1000000000){K:Option Addr→Nat→Nat→Heap→Prop}
 (hK: ∀p' c' H',St H0 H' (.sl p' (out++gs).length c' 5 1 (kints .u8 (out++gs))::σ)→K p' (out++gs).length c' H'):appQ 1 1 #[.int .u8 0] H op ol oc q n 5 K:=by
 have hgl:=hI.length
 refine hs.appI 0 rfl hI (kints_one _ _) rfl (by omega) (by omega) fun p' c' H' hs'=>?_
 have e:ol+n=(out++gs).length:=by rw[List.length_append];omega
 rw[←kints_append,e] at hs'
 rw[e]
 exact hK p' c' H' hs'
section
variable {op:Option Addr} {ol oc:Nat} {out:List Int}
theorem segOut(hs:St H0 H (.sl op ol oc 5 1 (kints .u8 out)::σ))(ho:out.length=ol){mark:Int}{p:Option Addr}{l c:Nat}{d:List Int}(hI:IS H p l (kints .u8 d))(hl:l≤60000)(hol:ol≤900000000){K:Option Addr→Nat→Nat→Heap→Prop}
 (hK: ∀p' c' H',St H0 H' (.sl p' (out++segB mark d).length c' 5 1 (kints .u8 (out++segB mark d))::σ)→K p' (out++segB mark d).length c' H'):
 CallsH Tryz.prog 17 #[.int .u8 mark,.slice p l c] H fun r H'=> ∃(sp:Option Addr) (sl sc:Nat),r= .slice sp sl sc∧appQ 1 1 #[.int .u8 0] H' op ol oc sp sl 5 K:=by
 have hdl:=hI.length
 refine c17 hI hl fun q m H1 hs1=>⟨_,_,_,rfl,?_⟩
 have hs2:=hs.call hs1
 have hs3:=hs2.swap
 exact appB hs3 ho (hs2.is 0 rfl) (by rw[segB_len];omega) fun p' c' H' hs'=>hK p' c' H' (hs'.del 1)
end
def outK(q:Int)(k:Nat):List Int:=[255,216]++(List.range k).flatMap fun(j:Nat)=>segB 219 ((j:Int)::zzB (stepsM q (decide (j=1))))
theorem outK_succ(q:Int)(k:Nat):outK q (k+1)=outK q k++segB 219 ((k:Int)::zzB (stepsM q (decide (k=1)))):=by
 unfold outK;rw[List.range_succ,List.flatMap_append,List.append_assoc];simp
theorem outK_len(q:Int): ∀k,(outK q k).length=2+69*k
 |0=>rfl
 |k+1=>by rw[outK_succ,List.length_append,outK_len q k,segB_len,List.length_cons,zzB_len];omega
def TQ(A:List Itm)(b1 b2:Nat→Nat)(k:Nat)(H:Heap):Prop:= ∀t,t<k→IS H (some ⟨b1 t,0,none⟩) 257 (ints (lenC (cntS A t)))∧IS H (some ⟨b2 t,0,none⟩) 257 (ints (codesM (lenC (cntS A t))))
def updN(f:Nat→Nat)(k v:Nat):Nat→Nat:=fun j=>if j=k then v else f j
set_option maxHeartbeats 4000000 in
theorem c7{w h q:Int}{l c:Nat}{p:Option Addr}{rgb:List Int}{half:Bool}(hi:IS H p l (kints .u8 rgb))(hr: ∀x∈rgb,0≤x∧x<256)(hl:l≤3000)
 (hwb: ∀W Ht:Nat,1≤W→1≤Ht→W*Ht≤1000→ ∀b∈blocksL W Ht rgb q half,WBlk b)
 (h31: ¬SizedM w h→ ∀H',Ext H H'→R (.tuple #[.slice none 0 0,.int .i64 31]) H')
 (h25:SizedM w h→(l:Int)≠3*w*h→ ∀H',Ext H H'→R (.tuple #[.slice none 0 0,.int .i64 25]) H')
 (h32:SizedM w h→(l:Int)=3*w*h→ ¬(1≤q∧q≤100)→ ∀H',Ext H H'→R (.tuple #[.slice none 0 0,.int .i64 32]) H')
 (hR: ∀(W Ht:Nat) (B:List Int),w=W→h=Ht→l=3*(W*Ht)→W*Ht≤1000→1≤q∧q≤100→EncOk W Ht half (blocksL W Ht rgb q half) (stepsM q false) (stepsM q true) B→
  ∀H' b m,St H H' [.sl b (encB W Ht half (stepsM q false) (stepsM q true) (itemsM (orderM W Ht half) (blocksL W Ht rgb q half) [0,0,0]) B).length m 5 1 (kints .u8 (encB W Ht half (stepsM q false) (stepsM q true) (itemsM (orderM W Ht half) (blocksL W Ht rgb q half) [0,0,0]) B))]→
  R (.tuple #[.slice b (encB W Ht half (stepsM q false) (stepsM q true) (itemsM (orderM W Ht half) (blocksL W Ht rgb q half) [0,0,0]) B).length m,.int .i64 0]) H'):
 CallsH Tryz.prog 7 #[.int .i64 w,.int .i64 h,.slice p l c,.int .i64 q,.bool half] H R:=by
 refine Tryz.s7 ?_
 unfold Tryz.S7
 refine c14 hi hr hl (fun hn H1 e1=>⟨_,_,_,_,rfl,br_t rfl (h31 hn H1 e1)⟩) (fun hs hn H1 e1=>⟨_,_,_,_,rfl,br_t rfl (h25 hs hn H1 e1)⟩) (fun hs hln hn H1 e1=>⟨_,_,_,_,rfl,br_t rfl (h32 hs hln hn H1 e1)⟩)
  (fun W Ht hW hHt W1 H1' hlN hn hq H1 bb bm hs1=>⟨_,_,_,_,rfl,br_f rfl ?_⟩)
 subst hW hHt
 obtain⟨bW,bH⟩:=le_of_area W1 H1' hn
 have hR:=fun B=>hR W Ht B rfl rfl hlN hn hq
 have hwb:=hwb W Ht W1 H1' hn
 clear h31 h25 h32
 have hbl:=blocksL_len W Ht rgb q half
 have hst: ∀d,stL q d=stepsM q d:=fun d=>by unfold stL;rw[if_pos hq]
 have hcnt:=order_cnt W Ht half bW bH
 generalize hBL:blocksL W Ht rgb q half=bl at*
 rw[←hbl] at hs1 ⊢
 refine c15 fun H2 e2=>⟨_,rfl,((hs1.step e2).alc fun b13 H3 hs3=>⟨by rw[intsA_size];rfl,hs3.putAllA 0 rfl (by simp[zigI_len]) fun H4 hs4=>hs4.alc fun b16 H5 hs5=>?_⟩)⟩
 have hs5:=hs5.toSl 0 (l:=2) (k:=1) rfl rfl rfl (by simp[Value.oneCell'])
 have hs5:St H H5 (.sl (some ⟨b16,0,none⟩) 2 2 5 1 (kints .u8 (outK q 0)):: .cell b13 (ints zigI).toArray 48:: .sl bb bl.length bm 48 64 (ints bl.flatten)::[]):=hs5
 clear hs1 hs3 hs4
 intro X hX
 have stp: ∀(k:Nat) (op:Option Addr) (oc:Nat) (H6:Heap),k<2→St H H6 (.sl op (outK q k).length oc 5 1 (kints .u8 (outK q k)):: .cell b13 (ints zigI).toArray 48:: .sl bb bl.length bm 48 64 (ints bl.flatten)::[])→
  (∀op' oc' H7,St H H7 (.sl op' (outK q (k+1)).length oc' 5 1 (kints .u8 (outK q (k+1))):: .cell b13 (ints zigI).toArray 48:: .sl bb bl.length bm 48 64 (ints bl.flatten)::[])→X [.slice op' (outK q (k+1)).length oc',.int .i64 ((k+1:Nat):Int)] H7)→X [.slice op (outK q k).length oc,.int .i64 (k:Nat)] H6:=fun k op oc H6 hk hs6 hK=>by
  refine hX _ _ _ _ H6 (br_y (by omega) ?_)
  have ek:((k:Int)==1)=decide (k=1):=by
   obtain rfl|rfl:k=0∨k=1:=by omega
   all_goals rfl
  rw[ek]
  refine stepsC fun H7 e7=>⟨_,_,rfl,?_⟩
  rw[hst]
  have hzl:=stepsM_len q (decide (k=1))
  have hzr:=steps_ok (q:=q) (decide (k=1))
  generalize hS:stepsM q (decide (k=1))=S at*
  refine(hs6.step e7).alc fun b26 H8 hs8=>⟨by rw[intsA_size];exact hzl,hs8.putAllA 0 rfl (by rw[hzl];simp) fun H9 hs9=>hs9.alc fun b29 H10 hs10=>⟨_,by rw[intsA_size];rfl,rowIn_whole (hs10.block 3 rfl),?_⟩⟩
  rw[wr8 (x:=(k:Int)) (by omega)] at hs10
  have hs10:=hs10.toSl 0 (l:=1) (k:=1) rfl rfl rfl (by simp[Value.oneCell'])
  have hs10:St H H10 (.sl (some ⟨b29,0,none⟩) 1 1 5 1 (kints .u8 ((k:Int)::(zzB S).take 0)):: .cell b26 (ints S).toArray 48:: .sl op (outK q k).length oc 5 1 (kints .u8 (outK q k)):: .cell b13 (ints zigI).toArray 48:: .sl bb bl.length bm 48 64 (ints bl.flatten)::[]):=hs10
  intro Y hY
  have go: ∀t,t≤64→ ∀dp dc H11,St H H11 (.sl dp (1+t) dc 5 1 (kints .u8 ((k:Int)::(zzB S).take t)):: .cell b26 (ints S).toArray 48:: .sl op (outK q k).length oc 5 1 (kints .u8 (outK q k)):: .cell b13 (ints zigI).toArray 48:: .sl bb bl.length bm 48 64 (ints bl.flatten)::[])→Y [.slice dp (1+t) dc,.int .i64 (t:Nat)] H11:=upto fun t ht ih dp dc H11 hs11=>by
   refine hY _ _ _ _ H11 (br_dec (fun hlt=>?_) (fun hge=>?_))
   ·have hlt:t<64:=by omega
    have hzt:=zig_lt hlt
    have hsr:=hzr.rng _ hzt
    refine⟨by omega,by omega,((zig t:Nat):Int),by rw[Int.toNat_natCast,Nat.mul_one,List.getElem?_toArray];exact ints_get (zigI_get hlt),by omega,by omega,S.getD (zig t) 0,?_,?_⟩
    ·rw[add_none,Nat.zero_add,Int.toNat_natCast,Nat.mul_one];exact hs11.rdA 1 rfl (get_gD S 0 (by omega))
    rw[wr8 (x:=S.getD (zig t) 0) (by omega),w1 (by omega)]
    refine hs11.alc fun b38 H12 hs12=>hs12.appC 1 0 rfl rfl rfl (fun v hv=>by rw[List.mem_singleton.1 hv];rfl) (by decide) rfl (by omega) (by omega) fun p' c' H13 hs13=>?_
    have hs13:=hs13.tail
    have e:kints .u8 ((k:Int)::(zzB S).take t)++[Value.int .u8 (S.getD (zig t) 0)]=kints .u8 ((k:Int)::(zzB S).take (t+1)):=by
     have hg:(zzB S)[t]?=some (S.getD (zig t) 0):=by rw[get_gD (zzB S) 0 (by rw[zzB_len];exact hlt),zzB_get hlt]
     rw[List.take_add_one,hg,←List.cons_append,kints_append];rfl
    simp only[List.set_cons_zero,List.set_cons_succ] at hs13
    have hs13:St H H13 (.sl p' (1+(t+1)) c' 5 1 (kints .u8 ((k:Int)::(zzB S).take (t+1))):: .cell b26 (ints S).toArray 48:: .sl op (outK q k).length oc 5 1 (kints .u8 (outK q k)):: .cell b13 (ints zigI).toArray 48:: .sl bb bl.length bm 48 64 (ints bl.flatten)::[]):=by
     rw[←e];exact hs13
    exact ih hlt p' c' H13 hs13
   ·have:t=64:=by omega
    subst this
    rw[List.take_of_length_le (by rw[zzB_len];exact Nat.le_refl _)] at hs11
    rw[w1 (by omega)]
    have hol:=outK_len q k
    refine(segOut (hs11.front 2 rfl) rfl (mark:=219) (hs11.is 0 rfl) (by omega) (by omega) (K:=fun a b c H'=>X [.slice a b c,.int .i64 ((k+1:Nat):Int)] H') fun p' c' H' hs'=>?_).mono fun r H' ⟨sp,sl,sc,hr,hap⟩=>⟨sp,sl,sc,hr,hap⟩
    have ho:=outK_succ q k
    rw[hS] at ho
    rw[←ho] at hs' ⊢
    exact hK p' c' H' ((hs'.del 1).del 1)
  exact go 0 (by omega) _ _ H10 hs10
 refine stp 0 _ _ H5 (by omega) hs5 fun op1 oc1 H6 hs6=>stp 1 _ _ H6 (by omega) hs6 fun op oc H7 hs7=>hX _ _ _ _ H7 (br_n (by decide) ?_)
 clear stp hs5 hs6 hX X
 have hA1:=its_cnt (orderM W Ht half) bl [0,0,0] hbl.symm
 have hA2:=itemsM_len (orderM W Ht half) bl [0,0,0]
 have hsym:=items_sym (orderM W Ht half) bl [0,0,0] hwb rfl la0 (fun u hu=>(order_in u hu).1)
 have hAl:(itemsM (orderM W Ht half) bl [0,0,0]).length≤128*95256:=by omega
 have hA:(itemsM (orderM W Ht half) bl [0,0,0]).length≤1000000000:=by omega
 have ho2:=outK_len q (1+1)
 intro J hJ
 have frame: ∀fi:Int,fi=(if half then 34 else 17)→J [.int .u8 fi] H7:=fun fi hfi=>by
  refine hJ _ H7 ⟨by decide,by decide,hs7.alc fun b50 H8 hs8=>?_⟩
  have hd:#[Value.int .u8 8,.int .u8 (IntKind.wrap .u8 (shrI .i64 (Ht:Int) 8)),.int .u8 (IntKind.wrap .u8 (Ht:Int)),.int .u8 (IntKind.wrap .u8 (shrI .i64 (W:Int) 8)),.int .u8 (IntKind.wrap .u8 (W:Int)),.int .u8 3,.int .u8 1,.int .u8 fi,.int .u8 0,.int .u8 2,.int .u8 17,.int .u8 1,.int .u8 3,.int .u8 17,.int .u8 1]=(kints .u8 (frameB W Ht half)).toArray:=by
   rw[show(8:Int)=((8:Nat):Int) from rfl,shr_of _ (by omega),shr_of _ (by omega),show(2:Int)^8=256 by decide,wr8m,wr8m,wr8m,wr8m,hfi]
   have e1:(Ht:Int)/256%256=((Ht/256:Nat):Int):=by omega
   have e2:(W:Int)/256%256=((W/256:Nat):Int):=by omega
   have e3:(Ht:Int)%256=((Ht%256:Nat):Int):=by omega
   have e4:(W:Int)%256=((W%256:Nat):Int):=by omega
   rw[e1,e2,e3,e4]
   cases half<;>rfl
  rw[hd] at hs8
  refine(segOut (hs8.front 1 rfl) rfl (mark:=192) (is_block (l:=15) (hs8.block 0 rfl) rfl) (by omega) (by omega) fun p' c' H' hs'=>?_).mono fun r H' ⟨sp,sl,sc,hr,hap⟩=>⟨sp,sl,sc,hr,hap⟩
  have hs9:=hs'.del 1
  clear hs8 hs'
  refine c18 bW bH (hs9.rs 2 rfl) rfl hbl hwb fun iq im H9 hs10=>⟨_,_,_,rfl,?_⟩
  have hs10:=hs9.call hs10
  have hs10:=(hs10.del 3).del 2
  generalize hAA:itemsM (orderM W Ht half) bl [0,0,0]=A at*
  have ho3:(outK q (1+1)++segB 192 (frameB W Ht half)).length=159:=by rw[List.length_append,ho2,segB_len];rfl
  have ho3':outK q (1+1)=[255,216]++(segB 219 (0::zzB (stepsM q false))++segB 219 (1::zzB (stepsM q true))):=by
   rw[outK_succ,outK_succ];rfl
  generalize hout:outK q (1+1)++segB 192 (frameB W Ht half)=out3 at*
  refine hs10.alc fun b60 H10 hs11=>?_
  have hs11:St H H10 (.cell b60 (tabV 4 fun _=> .slice none 0 0) 56:: .sl iq A.length im 58 4 (ints (flat4 A)):: .sl p' out3.length c' 5 1 (kints .u8 out3)::[]):=hs11
  clear hs9 hs10
  intro X hX
  have mk: ∀(k:Nat) (f:Nat→Value) (ρ:List Rs) (H':Heap),k<4→St H H' (.cell b60 (tabV 4 f) 56::ρ)→
   (∀b H2,St H H2 (.cell b60 (tabV 4 (updV f k (.slice (some ⟨b,0,none⟩) 256 256))) 56:: .sl (some ⟨b,0,none⟩) 256 256 3 1 (ints (List.replicate 256 0))::ρ)→X [.int .i64 ((k+1:Nat):Int)] H2)→X [.int .i64 (k:Nat)] H':=fun k f ρ H' hk hs' hK=>by
   refine hX _ H' (br_y (by omega) ⟨by decide,by decide,by decide,by decide,hs'.alc fun b65 H2 hs2=>⟨by omega,by omega,?_⟩⟩)
   rw[repsA] at hs2
   rw[add_none,Nat.zero_add,Int.toNat_natCast,Nat.mul_one,w1 (by omega)]
   have hs3:=hs2.toSl 0 (l:=256) (k:=1) rfl (by rw[intsA_size,List.length_replicate];rfl) rfl (fun v hv=>ints_one _ v hv)
   refine putV hs3 1 rfl (by omega) rfl fun H3 hs4=>hK b65 H3 hs4.swap
  refine mk 0 _ _ H10 (by omega) hs11 fun a0 H11 hs12=>mk 1 _ _ H11 (by omega) hs12 fun a1 H12 hs13=>mk 2 _ _ H12 (by omega) hs13 fun a2 H13 hs14=>mk 3 _ _ H13 (by omega) hs14 fun a3 H14 hs15=>hX _ H14 (br_n (by decide) ?_)
  clear mk hs11 hs12 hs13 hs14 hX X
  obtain⟨qa,hqa⟩: ∃f:Nat→Nat,f=fun k=>if k=0 then a0 else if k=1 then a1 else if k=2 then a2 else a3:=⟨_,rfl⟩
  obtain⟨fa,hfa⟩: ∃f:Nat→Value,f=updV (updV (updV (updV (fun _=> .slice none 0 0) 0 (.slice (some ⟨a0,0,none⟩) 256 256)) 1 (.slice (some ⟨a1,0,none⟩) 256 256)) 2 (.slice (some ⟨a2,0,none⟩) 256 256)) 3 (.slice (some ⟨a3,0,none⟩) 256 256):=⟨_,rfl⟩
  have hfq: ∀k,k<4→fa k= .slice (some ⟨qa k,0,none⟩) 256 256:=fun k hk=>by
   rw[hfa,hqa]
   obtain rfl|rfl|rfl|rfl:k=0∨k=1∨k=2∨k=3:=by omega
   all_goals rfl
  have hc0: ∀t,cntS (A.take 0) t=List.replicate 256 0:=fun t=>by
   refine list_ext_getD (n:=256) (cntS_len _ _) (by rw[List.length_replicate]) fun j hj=>?_
   rw[gD_get (cntS_get hj),List.getD_eq_getElem?_getD,List.getElem?_replicate,if_pos hj,List.take_zero];rfl
  have hs16:St H H14 (four qa (cntS (A.take 0))++(.cell b60 (tabV 4 fa) 56:: .sl iq A.length im 58 4 (ints (flat4 A)):: .sl p' out3.length c' 5 1 (kints .u8 out3)::[])):=by
   unfold four
   rw[hc0,hc0,hc0,hc0,hqa,hfa]
   refine hs15.perm ?_
   exact(List.reverse_perm [_,_,_,_,_]).append_right _
  clear hs15
  intro X hX
  have count: ∀i,i≤A.length→ ∀H15,St H H15 (four qa (cntS (A.take i))++(.cell b60 (tabV 4 fa) 56:: .sl iq A.length im 58 4 (ints (flat4 A)):: .sl p' out3.length c' 5 1 (kints .u8 out3)::[]))→X [.int .i64 (i:Nat)] H15:=upto fun i hi ih H15 hs17=>by
   refine hX _ H15 (br_dec (fun hlt=>?_) (fun hge=>?_))
   ·have hlt:i<A.length:=by omega
    have hx:=List.getElem?_eq_getElem hlt
    obtain⟨hx4,hx0,hx256,_⟩:=hsym _ (List.mem_of_getElem? hx)
    generalize A[i]=x at*
    obtain⟨blk,hiq,hrow⟩:=rowItems (hs17.rs 5 rfl) hx hlt
    refine⟨_,hiq,by omega,by omega,itV x,rfl,by rw[add_none,Nat.zero_add,Int.toNat_natCast];exact hrow,hs17.alc fun b73 H16 hs18=>⟨rfl,hs18.putAll 0 rfl rfl (by simp[itV,Value.oneCell']) fun H17 hs19=>?_⟩⟩
    have hs19:St H H17 (.cell b73 (itV x) 58::(four qa (cntS (A.take i))++(.cell b60 (tabV 4 fa) 56:: .sl iq A.length im 58 4 (ints (flat4 A)):: .sl p' out3.length c' 5 1 (kints .u8 out3)::[]))):=hs19
    have hg:=get_gD (cntS (A.take i) x.t) 0 (i:=x.s.toNat) (by rw[cntS_len];omega)
    have hgr:=(cntS_ok (l:=A.take i) (by rw[List.length_take];omega) x.t).rng _ (List.mem_of_getElem? hg)
    refine⟨_,hs19.get 0 (j:=0) rfl rfl,by omega,by omega,some ⟨qa x.t,0,none⟩,256,256,?_,_,hs19.get 0 (j:=1) rfl rfl,?_⟩
    ·rw[add_none,Nat.zero_add,Int.toNat_natCast,Nat.mul_one,getV hs19 5 rfl hx4,hfq _ hx4]
    have hsl:(.cell b73 (itV x) 58::(four qa (cntS (A.take i))++(.cell b60 (tabV 4 fa) 56:: .sl iq A.length im 58 4 (ints (flat4 A)):: .sl p' out3.length c' 5 1 (kints .u8 out3)::[])))[x.t+1]?=some (Rs.sl (some ⟨qa x.t,0,none⟩) 256 256 3 1 (ints (cntS (A.take i) x.t))):=four_get hx4
    refine(hs19.is (x.t+1) hsl).rd (ls:=cntS (A.take i) x.t) hx0 (by omega) hg ⟨_,rfl,hx0,by omega,?_⟩
    rw[add_none,Nat.zero_add,Nat.mul_one,wrap_id (n:=(cntS (A.take i) x.t).getD x.s.toNat 0+1) (by omega) (by omega),w1 (by omega)]
    refine hs19.slPut (x.t+1) hsl (by rw[ints_len,cntS_len];omega) rfl fun H18 hs20=>ih hlt H18 ?_
    simp only[List.set_cons_succ] at hs20
    rw[ints_set,four_set hx4] at hs20
    have e:updP (cntS (A.take i)) x.t ((cntS (A.take i) x.t).set x.s.toNat ((cntS (A.take i) x.t).getD x.s.toNat 0+1))=cntS (A.take (i+1)):=by
     funext t
     rw[List.take_add_one,hx]
     simp only[Option.toList_some]
     rw[cntS_snoc _ _ _ ⟨hx0,hx256⟩]
     unfold updP
     split
     ·rename_i h;subst h;rfl
     ·rfl
    rw[e] at hs20
    exact hs20.tail
   ·have:i=A.length:=by omega
    subst this
    rw[List.take_of_length_le (Nat.le_refl _)] at hs17
    refine hs17.alc fun b83 H16 hs18=>hs18.alc fun b85 H17 hs19=>?_
    have hs19:St H H17 (.cell b85 (tabV 4 fun _=> .slice none 0 0) 56:: .cell b83 (tabV 4 fun _=> .slice none 0 0) 56::(four qa (cntS A)++(.cell b60 (tabV 4 fa) 56:: .sl iq A.length im 58 4 (ints (flat4 A)):: .sl p' out3.length c' 5 1 (kints .u8 out3)::[]))):=hs19
    have hs20:=(St.persOf (τ:=[]) (Q:=TQ A (fun _=>0) (fun _=>0) 0) hs19 fun _ _ t ht=>by omega)
    clear hs16 hs17 hs18 hs19
    intro X hX
    have stp: ∀(k:Nat) (op:Option Addr) (oc:Nat) (out:List Int) (g1 g2:Nat→Value) (b1 b2:Nat→Nat) (rem:List Rs) (H18:Heap),k<4→out.length≤10000→(∀t,t<k→(∃c,g1 t= .slice (some ⟨b1 t,0,none⟩) 256 c)∧ ∃c,g2 t= .slice (some ⟨b2 t,0,none⟩) 256 c)→
     St H H18 (.sl (some ⟨qa k,0,none⟩) 256 256 3 1 (ints (cntS A k)):: .sl op out.length oc 5 1 (kints .u8 out):: .cell b83 (tabV 4 g1) 56:: .cell b85 (tabV 4 g2) 56:: .cell b60 (tabV 4 fa) 56:: .pers (TQ A b1 b2 k):: .sl iq A.length im 58 4 (ints (flat4 A))::rem)→
     (∀op' oc' g1' g2' b1' b2' H19,(∀t,t<k+1→(∃c,g1' t= .slice (some ⟨b1' t,0,none⟩) 256 c)∧ ∃c,g2' t= .slice (some ⟨b2' t,0,none⟩) 256 c)→
      St H H19 (.sl op' (out++segB 196 (tabB A k)).length oc' 5 1 (kints .u8 (out++segB 196 (tabB A k))):: .cell b83 (tabV 4 g1') 56:: .cell b85 (tabV 4 g2') 56:: .cell b60 (tabV 4 fa) 56:: .pers (TQ A b1' b2' (k+1)):: .sl iq A.length im 58 4 (ints (flat4 A))::rem)→X [.slice op' (out++segB 196 (tabB A k)).length oc',.int .i64 ((k+1:Nat):Int)] H19)→
     X [.slice op out.length oc,.int .i64 (k:Nat)] H18:=fun k op oc out g1 g2 b1 b2 rem H18 hk hol hg hs' hK=>by
     refine hX _ _ _ _ H18 (br_y (by omega) ⟨by omega,by omega,some ⟨qa k,0,none⟩,256,256,?_,?_⟩)
     ·rw[add_none,Nat.zero_add,Int.toNat_natCast,Nat.mul_one,getV hs' 4 rfl hk,hfq _ hk]
     refine c19 hs' (cntS_ok hA k) (fun n hn=>few_sym hA hsym k n hn) fun H19 dq dm n1 c1 n2 c2 hc1 hc2 hs21=>⟨_,_,_,_,_,_,_,_,_,rfl,by omega,by omega,?_⟩
     rw[add_none,Nat.zero_add,Int.toNat_natCast,Nat.mul_one]
     refine putV hs21 4 rfl (by omega) rfl fun H20 hs22=>⟨by omega,by omega,?_⟩
     rw[add_none,Nat.zero_add]
     refine putV hs22 5 rfl (by omega) rfl fun H21 hs23=>⟨by decide,by decide,hs23.alc fun b99 H22 hs24=>?_⟩
     have ek:IntKind.wrap .u8 (IntKind.wrap .i64 (Int.tmod (k:Int) 2+IntKind.wrap .i64 (IntKind.wrap .i64 (Int.tdiv (k:Int) 2)*16)))=((k%2+k/2*16:Nat):Int):=by
      obtain rfl|rfl|rfl|rfl:k=0∨k=1∨k=2∨k=3:=by omega
      all_goals decide
     rw[ek] at hs24
     have hs24:=hs24.toSl 0 (l:=1) (k:=1) rfl rfl rfl (by simp[Value.oneCell'])
     have hs24:St H H22 (.sl (some ⟨b99,0,none⟩) 1 1 5 1 (kints .u8 [((k%2+k/2*16:Nat):Int)]):: .sl dq (dataM (lsC (cntS A k))).length dm 5 1 (kints .u8 (dataM (lsC (cntS A k)))):: .sl (some ⟨n1,0,none⟩) 257 c1 3 1 (ints (lenC (cntS A k))):: .sl (some ⟨n2,0,none⟩) 257 c2 3 1 (ints (codesM (lenC (cntS A k)))):: .sl op out.length oc 5 1 (kints .u8 out):: .cell b83 (tabV 4 (updV g1 k (.slice (some ⟨n1,0,none⟩) 256 c1))) 56:: .cell b85 (tabV 4 (updV g2 k (.slice (some ⟨n2,0,none⟩) 256 c2))) 56:: .cell b60 (tabV 4 fa) 56:: .pers (TQ A b1 b2 k):: .sl iq A.length im 58 4 (ints (flat4 A))::rem):=hs24
     have htl:=tabB_len hA k
     have htd:[((k%2+k/2*16:Nat):Int)]++dataM (lsC (cntS A k))=tabB A k:=rfl
     refine appB hs24 rfl (hs24.is 1 rfl) (by rw[←htd,List.length_append] at htl;simp at htl ⊢;omega) fun p5 c5 H23 hs25=>?_
     rw[htd] at hs25 ⊢
     refine(segOut (hs25.front 4 rfl) rfl (mark:=196) (hs25.is 0 rfl) (by omega) (by omega) (K:=fun a b c H'=>X [.slice a b c,.int .i64 (IntKind.wrap .i64 ((k:Int)+1))] H') fun p6 c6 H24 hs26=>?_).mono fun r H' ⟨sp,sl,sc,hr,hap⟩=>⟨sp,sl,sc,hr,hap⟩
     rw[w1 (by omega)]
     have hs27:=(hs26.del 1).del 1
     have hs28:=(hs27.front 6 rfl).perm (List.Perm.cons _ ((List.Perm.swap _ _ _).trans (List.Perm.cons _ (List.Perm.swap _ _ _))))
     have hs29:=St.persOf (τ:=[.pers (TQ A b1 b2 k),.sl (some ⟨n1,0,none⟩) 257 c1 3 1 (ints (lenC (cntS A k))),.sl (some ⟨n2,0,none⟩) 257 c2 3 1 (ints (codesM (lenC (cntS A k))))]) (Q:=TQ A (updN b1 k n1) (updN b2 k n2) (k+1)) hs28 fun H' hs' t ht=>by
      unfold updN
      by_cases h:t=k
      ·subst h
       rw[if_pos rfl,if_pos rfl]
       exact⟨hs'.is 1 rfl,hs'.is 2 rfl⟩
      ·rw[if_neg h,if_neg h]
       exact hs'.persGet 0 rfl t (by omega)
     refine hK p6 c6 _ _ (updN b1 k n1) (updN b2 k n2) H24 (fun t ht=>?_) (hs29.perm (List.perm_middle (l₁:=[_,_,_,_])).symm)
     unfold updN
     by_cases h:t=k
     ·subst h
      rw[if_pos rfl,if_pos rfl,updV_at,updV_at]
      exact⟨⟨_,rfl⟩,_,rfl⟩
     ·rw[if_neg h,if_neg h,updV_ne h,updV_ne h]
      exact hg t (by omega)
    have hs21:=((((((hs20.front 8 rfl).front 1 rfl).front 8 rfl).front 3 rfl).front 4 rfl).front 9 rfl).front 6 rfl
    have tl:=fun t=>tabB_len hA t
    have sl: ∀(o:List Int) (t:Nat),(o++segB 196 (tabB A t)).length=o.length+(4+(tabB A t).length):=fun o t=>by rw[List.length_append,segB_len]
    refine stp 0 _ _ out3 _ _ _ _ _ H17 (by omega) (by omega) (fun t ht=>by omega) hs21 fun op0 oc0 g10 g20 b10 b20 H18 hg0 hs22=>?_
    have l0:=sl out3 0
    have t0:=tl 0
    refine stp 1 _ _ _ _ _ _ _ _ H18 (by omega) (by omega) hg0 (hs22.front 6 rfl) fun op1 oc1 g11 g21 b11 b21 H19 hg1 hs23=>?_
    have l1:=sl (out3++segB 196 (tabB A 0)) 1
    have t1:=tl 1
    refine stp 2 _ _ _ _ _ _ _ _ H19 (by omega) (by omega) hg1 (hs23.front 6 rfl) fun op2 oc2 g12 g22 b12 b22 H20 hg2 hs24=>?_
    have l2:=sl (out3++segB 196 (tabB A 0)++segB 196 (tabB A 1)) 2
    have t2:=tl 2
    refine stp 3 _ _ _ _ _ _ _ _ H20 (by omega) (by omega) hg2 (hs24.front 6 rfl) fun op3 oc3 g1 g2 b1 b2 H21 hg hs25=>?_
    have l3:=sl (out3++segB 196 (tabB A 0)++segB 196 (tabB A 1)++segB 196 (tabB A 2)) 3
    have t3:=tl 3
    clear stp hs20 hs21 hs22 hs23 hs24 hg0 hg1 hg2
    generalize hO7:out3++segB 196 (tabB A 0)++segB 196 (tabB A 1)++segB 196 (tabB A 2)++segB 196 (tabB A 3)=out7 at*
    refine hX _ _ _ _ H21 (br_n (by decide) (hs25.alc fun b108 H22 hs26=>?_))
    refine(segOut (hs26.front 1 rfl) rfl (mark:=218) (is_block (l:=10) (fs:=kints .u8 scanB) (hs26.block 0 rfl) rfl) (by omega) (by omega) fun p8 c8 H23 hs27=>?_).mono fun r H' ⟨sp,sl,sc,hr,hap⟩=>⟨sp,sl,sc,hr,hap⟩
    have hs27:=hs27.del 1
    have l8:(out7++segB 218 scanB).length=out7.length+14:=by rw[List.length_append,segB_len];rfl
    have hO8:out7++segB 218 scanB=[255,216]++headB W Ht half (stepsM q false) (stepsM q true) A:=by
     rw[←hO7,←hout,ho3']
     unfold headB
     simp only[List.append_assoc]
    rw[hO8] at hs27 l8
    generalize hO9:[255,216]++headB W Ht half (stepsM q false) (stepsM q true) A=out9 at*
    clear hs25 hs26 hX X
    rw[hO8]
    refine c20 hs27 fun wb H24 hs28=>⟨_,rfl,?_⟩
    intro X hX
    have hsymA: ∀i x,A[i]?=some x→SymOk x:=fun i x hx=>hsym x (List.mem_of_getElem? hx)
    have hitl: ∀i,(itsBits (eA A) (A.take i)).length≤27*A.length:=fun i=>by
     have h1:=its_le hA (A.take i) fun x hx=>hsym x (List.mem_of_mem_take hx)
     have h2:(A.take i).length≤A.length:=by rw[List.length_take];omega
     omega
    have write: ∀i,i≤A.length→ ∀H25,St H H25 (wrR wb true (itsBits (eA A) (A.take i)):: .sl p8 out9.length c8 5 1 (kints .u8 out9):: .cell b83 (tabV 4 g1) 56:: .cell b85 (tabV 4 g2) 56:: .cell b60 (tabV 4 fa) 56:: .pers (TQ A b1 b2 (3+1)):: .sl iq A.length im 58 4 (ints (flat4 A))::[])→X [.int .i64 (i:Nat)] H25:=upto fun i hi ih H25 hs29=>by
     refine hX _ H25 (br_dec (fun hlt=>?_) (fun hge=>?_))
     ·have hlt:i<A.length:=by omega
      have hx:=List.getElem?_eq_getElem hlt
      have hxs:=hsymA i _ hx
      have hxm:=List.mem_of_getElem? hx
      generalize A[i]=x at*
      obtain⟨hx4,hx0,hx256,_,hv0,hv1,hn11⟩:=hxs
      obtain⟨nl,hnl,hlen,cc,hcode,hc0,hc1,heA⟩:=sym_code hA hxm (hsymA i x hx)
      obtain⟨blk,hiq,hrow⟩:=rowItems (hs29.rs 6 rfl) hx hlt
      refine⟨_,hiq,by omega,by omega,itV x,rfl,by rw[add_none,Nat.zero_add,Int.toNat_natCast];exact hrow,hs29.alc fun b123 H26 hs30=>⟨rfl,hs30.putAll 0 rfl rfl (by simp[itV,Value.oneCell']) fun H27 hs31=>?_⟩⟩
      have hs31:St H H27 (.cell b123 (itV x) 58::wrR wb true (itsBits (eA A) (A.take i)):: .sl p8 out9.length c8 5 1 (kints .u8 out9):: .cell b83 (tabV 4 g1) 56:: .cell b85 (tabV 4 g2) 56:: .cell b60 (tabV 4 fa) 56:: .pers (TQ A b1 b2 (3+1)):: .sl iq A.length im 58 4 (ints (flat4 A))::[]):=hs31
      obtain⟨⟨k1,hk1⟩,k2,hk2⟩:=hg x.t hx4
      obtain⟨t1,t2⟩:=hs31.persGet 6 rfl x.t hx4
      obtain⟨aa,haa,hca⟩:=t1.cell (ints_get hlen)
      obtain⟨ab,hab,hcb⟩:=t2.cell (ints_get hcode)
      cases haa;cases hab
      refine⟨_,hs31.get 0 (j:=0) rfl rfl,by omega,by omega,some ⟨b2 x.t,0,none⟩,256,k2,?_,_,hs31.get 0 (j:=1) rfl rfl,_,rfl,hx0,by omega,cc,by rw[Nat.mul_one];exact hcb,_,hs31.get 0 (j:=0) rfl rfl,by omega,by omega,some ⟨b1 x.t,0,none⟩,256,k1,?_,_,hs31.get 0 (j:=1) rfl rfl,_,rfl,hx0,by omega,(nl:Int),by rw[Nat.mul_one];exact hca,?_⟩
      ·rw[add_none,Nat.zero_add,Int.toNat_natCast,Nat.mul_one,getV hs31 4 rfl hx4,hk2]
      ·rw[add_none,Nat.zero_add,Int.toNat_natCast,Nat.mul_one,getV hs31 3 rfl hx4,hk1]
      have hil:=hitl i
      refine c21 hs31 (i:=1) rfl (by rw[Int.toNat_natCast];omega) (fun hb=>absurd ⟨by omega,by omega,hc0,by rw[Int.toNat_natCast];exact hc1⟩ hb) (fun _ H28 hs32=>⟨_,rfl,_,hs32.get 0 (j:=2) rfl rfl,_,hs32.get 0 (j:=3) rfl rfl,?_⟩)
      rw[Int.toNat_natCast] at hs32
      refine c21 hs32 (i:=1) rfl (by rw[Int.toNat_natCast,List.length_append,bitsOf_len];omega) (fun hb=>absurd ⟨by omega,by omega,hv0,by rw[Int.toNat_natCast];exact hv1⟩ hb) (fun _ H29 hs33=>⟨_,rfl,?_⟩)
      rw[Int.toNat_natCast] at hs33
      rw[w1 (by omega)]
      refine ih hlt H29 ?_
      have e:itsBits (eA A) (A.take i)++bitsOf true cc nl++bitsOf true x.v x.n=itsBits (eA A) (A.take (i+1)):=by
       rw[List.take_add_one,hx]
       simp only[Option.toList_some]
       rw[itsBits_snoc,List.append_assoc]
       unfold itBits
       rw[heA]
      rw[←e]
      exact hs33.tail
     ·have:i=A.length:=by omega
      subst this
      have hil:=hitl A.length
      rw[List.take_of_length_le (Nat.le_refl _)] at hs29 hil
      refine c22 hs29 (i:=0) rfl (by omega) fun H26 hs30=>⟨rfl,?_⟩
      refine c23 hs30 (i:=0) rfl fun bq bl2 bm2 B H27 hok hBl hs31=>⟨_,_,_,rfl,?_⟩
      subst hBl
      have hBlen:=hok.len
      have hfl:(fillM (itsBits (eA A) A) 1).length≤27*A.length+8:=by unfold fillM;rw[List.length_append,List.length_replicate];omega
      have hs32:St H H27 (.sl p8 out9.length c8 5 1 (kints .u8 (out9++stuffB (B.take 0))):: .sl bq B.length bm2 5 1 (kints .u8 B)::[]):=by
       have h1:=(hs31.front 2 rfl).take 2
       rw[List.take_zero,show stuffB []=[] from rfl,List.append_nil]
       exact h1
      have hEnc:EncOk W Ht half bl (stepsM q false) (stepsM q true) B:=by
       refine⟨⟨by omega,by omega,by omega,by omega,by rw[←Int.natCast_mul];omega⟩,bW,bH,hbl,hwb,steps_ok _,steps_ok _,?_⟩
       rw[hAA];exact hok
      have hR:=hR B hEnc
      have hencB:encB W Ht half (stepsM q false) (stepsM q true) A B=out9++stuffB B++[255,217]:=by
       unfold encB
       rw[←hO9];simp only[List.append_assoc]
      rw[hencB] at hR
      clear hs28 hs29 hs30 hs31 ih hX X
      intro X hX
      have hsl: ∀i,(stuffB (B.take i)).length≤2*B.length:=fun i=>by
       have: ∀L:List Int,(stuffB L).length≤2*L.length:=fun L=>by
        induction L with
        |nil=>simp[stuffB]
        |cons a L ih=>
         unfold stuffB at*
         rw[List.flatMap_cons,List.length_append,List.length_cons]
         have h2:(if a=255 then[255,0] else[a]:List Int).length≤2:=by split<;>simp
         omega
       have h1:=this (B.take i)
       have h2:(B.take i).length≤B.length:=by rw[List.length_take];omega
       omega
      have stuff: ∀i,i≤B.length→ ∀op oc H28,St H H28 (.sl op (out9++stuffB (B.take i)).length oc 5 1 (kints .u8 (out9++stuffB (B.take i))):: .sl bq B.length bm2 5 1 (kints .u8 B)::[])→X [.slice op (out9++stuffB (B.take i)).length oc,.int .i64 (i:Nat)] H28:=upto fun i hi ih op oc H28 hs33=>by
       have hsli:=hsl i
       have hol:(out9++stuffB (B.take i)).length=out9.length+(stuffB (B.take i)).length:=List.length_append
       refine hX _ _ _ _ H28 (br_dec (fun hlt=>?_) (fun hge=>?_))
       ·have hlt:i<B.length:=by omega
        have hg:=get_gD B 0 hlt
        have hbr:=hok.rng _ (List.mem_of_getElem? hg)
        refine(hs33.is 1 rfl).rd (ls:=B) (by omega) (by omega) (by rw[Int.toNat_natCast];exact hg) ?_
        rw[w1 (by omega)]
        have ht:stuffB (B.take (i+1))=stuffB (B.take i)++(if B.getD i 0=255 then[255,0] else[B.getD i 0]):=by
         rw[List.take_add_one,hg]
         simp only[Option.toList_some]
         unfold stuffB
         rw[List.flatMap_append];simp
        refine hs33.alc fun b155 H29 hs34=>appB hs34.swap rfl (is_block (l:=1) (fs:=kints .u8 [B.getD i 0]) (hs34.block 0 rfl) rfl) (by omega) fun p' c' H30 hs35=>?_
        have hs35:=hs35.del 1
        have ih:=ih hlt
        rw[ht,←List.append_assoc] at ih
        refine br_eq (fun h255=>?_) (fun h255=>?_)
        ·rw[if_pos h255] at ih
         refine hs35.alc fun b159 H31 hs36=>appB hs36.swap rfl (is_block (l:=1) (fs:=kints .u8 [0]) (hs36.block 0 rfl) rfl) (by rw[List.length_append];show _+1+1≤_;omega) fun p2 c2 H32 hs37=>?_
         have hs37:=hs37.del 1
         have e:out9++stuffB (B.take i)++[B.getD i 0]++[0]=out9++stuffB (B.take i)++[255,0]:=by rw[h255];simp
         rw[e] at hs37 ⊢
         exact ih p2 c2 H32 hs37
        ·rw[if_neg h255] at ih
         exact ih p' c' H30 hs35
       ·have:i=B.length:=by omega
        subst this
        rw[List.take_of_length_le (Nat.le_refl _)] at hs33 hol hsli ⊢
        refine hs33.alc fun b163 H29 hs34=>appB hs34.swap rfl (is_block (l:=2) (fs:=kints .u8 [255,217]) (hs34.block 0 rfl) rfl) (by omega) fun p' c' H30 hs35=>?_
        exact hR H30 p' c' ((hs35.del 1).take 1)
      have:=stuff 0 (by omega) p8 c8 H27 (by rw[List.take_zero,show stuffB []=[] from rfl,List.append_nil] at hs32 ⊢;exact hs32)
      rw[List.take_zero,show stuffB []=[] from rfl,List.append_nil] at this
      exact this
    exact write 0 (by omega) H24 hs28
  exact count 0 (by omega) H14 hs16
 cases half with
 |true=>exact br_t rfl (frame _ rfl)
 |false=>exact br_f rfl (frame _ rfl)
end Go.Proofs
namespace Go.Proofs
open Go.Sh
def absC(u:Nat):Int:=sumN 8 fun x=>((cM u x).natAbs:Int)
def zC(u:Nat):Int:=sumN 8 fun x=>cM u x
theorem absC_le: ∀u:Fin 8,absC u.val≤23168:=by decide+kernel
theorem zC_eq: ∀u:Fin 8,zC u.val=if u.val=0 then 23168 else 0:=by decide+kernel
theorem sumN_abs{f:Nat→Int}{M:Int}(hM:0≤M)(c:Nat→Int): ∀n,(∀x,x<n→ -M≤f x∧f x≤M)→ -(M*sumN n fun x=>((c x).natAbs:Int))≤sumN n (fun x=>f x*c x)∧sumN n (fun x=>f x*c x)≤M*sumN n fun x=>((c x).natAbs:Int)
 |0,_=>by simp[sumN]
 |n+1,h=>by
  have ih:=sumN_abs hM c n fun x hx=>h x (by omega)
  have hx:=h n (by omega)
  have hb:=mul_bd hx (show-((c n).natAbs:Int)≤c n∧c n≤((c n).natAbs:Int) by omega)
  simp only[sumN,Int.mul_add]
  omega
theorem fwd_lin(s:List Int)(v u:Nat):sumN 8 (fun y=>(sumN 8 fun x=>(2*s.getD (y*8+x) 0+1)*cM u x)*cM v y)=2*fwdV s v u+zC u*zC v:=by
 have h1: ∀y,(sumN 8 fun x=>(2*s.getD (y*8+x) 0+1)*cM u x)=2*halfV s y u+zC u:=fun y=>by
  have: ∀n,(sumN n fun x=>(2*s.getD (y*8+x) 0+1)*cM u x)=2*sumN n (fun x=>s.getD (y*8+x) 0*cM u x)+sumN n fun x=>cM u x:=fun n=>by
   induction n with
   |zero=>simp[sumN]
   |succ n ih=>simp only[sumN];rw[ih,Int.add_mul,Int.mul_add,Int.mul_assoc,Int.one_mul];omega
  exact this 8
 have h2:sumN 8 (fun y=>(sumN 8 fun x=>(2*s.getD (y*8+x) 0+1)*cM u x)*cM v y)=sumN 8 fun y=>(2*halfV s y u+zC u)*cM v y:=sumN_congr fun y _=>by rw[h1]
 rw[h2]
 have h3: ∀n,sumN n (fun y=>(2*halfV s y u+zC u)*cM v y)=2*sumN n (fun y=>halfV s y u*cM v y)+zC u*sumN n (fun y=>cM v y):=fun n=>by
  induction n with
  |zero=>simp[sumN]
  |succ n ih=>simp only[sumN];rw[ih,Int.add_mul,Int.mul_add,Int.mul_add,Int.mul_assoc];omega
 exact h3 8
theorem fwd_bound{s:List Int}(hs: ∀i,-128≤s.getD i 0∧s.getD i 0≤127){v u:Nat}(hv:v<8)(hu:u<8): -136872837120≤2*fwdV s v u+zC u*zC v∧2*fwdV s v u+zC u*zC v≤136872837120:=by
 rw[←fwd_lin]
 have a1:=absC_le ⟨u,hu⟩
 have a2:=absC_le ⟨v,hv⟩
 simp only at a1 a2
 unfold absC at a1 a2
 have h1: ∀y,-5907840≤(sumN 8 fun x=>(2*s.getD (y*8+x) 0+1)*cM u x)∧(sumN 8 fun x=>(2*s.getD (y*8+x) 0+1)*cM u x)≤5907840:=fun y=>by
  have:=sumN_abs (f:=fun x=>2*s.getD (y*8+x) 0+1) (M:=255) (by decide) (cM u) 8 fun x _=>by have:=hs (y*8+x);omega
  omega
 have:=sumN_abs (f:=fun y=>sumN 8 fun x=>(2*s.getD (y*8+x) 0+1)*cM u x) (M:=5907840) (by decide) (cM v) 8 fun y _=>h1 y
 omega
theorem in_small{f t:Int}(ht:1≤t):(0≤f→0≤inStepsM f t∧inStepsM f t≤f)∧(f<0→f≤inStepsM f t∧inStepsM f t≤0):=by
 have key: ∀g:Int,0≤g→0≤(g+t/2)/t∧(g+t/2)/t≤g:=fun g hg=>by
  refine⟨Int.ediv_nonneg (by omega) (by omega),?_⟩
  have h1:(g+t/2)/t<g+1:=by
   rw[Int.ediv_lt_iff_lt_mul (by omega),Int.add_mul,Int.one_mul]
   have:g*1≤g*t:=Int.mul_le_mul_of_nonneg_left ht hg
   omega
  omega
 refine⟨fun h=>?_,fun h=>?_⟩
 ·unfold inStepsM;rw[if_neg (by omega)];exact key f h
 ·unfold inStepsM;rw[if_pos h];have:=key (-f) (by omega);omega
theorem smp_rng(W Ht:Nat)(rgb:List Int)(half:Bool)(u:Nat×Nat×Nat)(i:Nat): -128≤(smpL W Ht rgb half u).getD i 0∧(smpL W Ht rgb half u).getD i 0≤127:=by
 rcases Nat.lt_or_ge i 64 with h|h
 ·rw[show(smpL W Ht rgb half u).getD i 0=sampM W Ht rgb half u.1 (u.2.1+i%8) (u.2.2+i/8)-128 from tab_getD h]
  have:=sampM_rng W Ht rgb half u.1 (u.2.1+i%8) (u.2.2+i/8)
  omega
 ·rw[gD_none _ _ (by rw[smpL_len];exact h)];omega
theorem blocks_ok{W Ht:Nat}{rgb:List Int}{q:Int}{half:Bool}: ∀b∈blocksL W Ht rgb q half,WBlk b:=fun b hb=>by
 obtain⟨u,_,rfl⟩:=List.mem_map.1 hb
 have hget: ∀i,i<64→(blockV W Ht rgb q half u).getD i 0=inStepsM (nearM (fwdV (smpL W Ht rgb half u) (i/8) (i%8))) (stepV q (decide (0<u.1)) i):=fun i hi=>by
  rw[show(blockV W Ht rgb q half u).getD i 0=inStepsM ((fwdM (smpL W Ht rgb half u)).getD i 0) (stepV q (decide (0<u.1)) i) from tab_getD hi]
  congr 1
  exact tab_getD hi
 have hst: ∀i,1≤stepV q (decide (0<u.1)) i:=fun i=>by unfold stepV;omega
 refine⟨blockV_len _ _ _ _ _ _,fun k hk1 hk=>?_,?_⟩
 ·have hz:=zig_lt hk
  have hz0:zig k≠0:=fun h=>by
   have:=zag_zig hk
   rw[h] at this
   have z0:zag 0=0:=by decide
   omega
  rw[hget _ hz]
  have hb:=fwd_bound (smp_rng W Ht rgb half u) (v:=zig k/8) (u:=zig k%8) (by omega) (by omega)
  have z1:=zC_eq ⟨zig k%8,by omega⟩
  have z2:=zC_eq ⟨zig k/8,by omega⟩
  simp only at z1 z2
  have hzz:zC (zig k%8)*zC (zig k/8)=0:=by
   rw[z1,z2]
   by_cases h1:zig k%8=0
   ·rw[if_neg (show ¬zig k/8=0 by omega),Int.mul_zero]
   ·rw[if_neg h1,Int.zero_mul]
  rw[hzz] at hb
  generalize fwdV (smpL W Ht rgb half u) (zig k/8) (zig k%8)=F at*
  have hn: -1020≤nearM F∧nearM F≤1020:=by unfold nearM;omega
  obtain⟨i1,i2⟩:=in_small (f:=nearM F) (hst (zig k))
  rcases Int.lt_or_le (nearM F) 0 with h|h
  ·have:=i2 h;omega
  ·have:=i1 h;omega
 ·rw[hget 0 (by omega)]
  have hb:=fwd_bound (smp_rng W Ht rgb half u) (v:=0/8) (u:=0%8) (by omega) (by omega)
  have z1:=zC_eq ⟨0,by omega⟩
  simp only at z1
  rw[show(0:Nat)%8=0 from rfl,show(0:Nat)/8=0 from rfl] at hb ⊢
  rw[if_pos trivial] at z1
  rw[z1] at hb
  generalize fwdV (smpL W Ht rgb half u) 0 0=F at*
  have hn: -1024≤nearM F∧nearM F≤1016:=by unfold nearM;omega
  obtain⟨i1,i2⟩:=in_small (f:=nearM F) (hst 0)
  rcases Int.lt_or_le (nearM F) 0 with h|h
  ·have:=i2 h;omega
  ·have:=i1 h;omega
end Go.Proofs
namespace Go.Proofs
open Go.Sh
variable {H0 H:Heap} {σ:List Rs} {R:Value→Heap→Prop}
theorem c11{i j n1 n2 m1 m2:Nat}{p1 p2:Option Addr}{e1 e2:TypeId}{l1 l2:List (List Int)}(hs:St H0 H σ)(hi:σ[i]?=some (.sl p1 n1 m1 e1 64 (ints l1.flatten)))(hj:σ[j]?=some (.sl p2 n2 m2 e2 64 (ints l2.flatten)))
 (h1: ∀b∈l1,b.length=64)(hn1:l1.length=n1)(hn2:l2.length=n2)(hn:n1≤1000000)(he:l1=l2)(hR: ∀H',Ext H H'→R (.bool true) H'):
 CallsH Tryz.prog 11 #[.slice p1 n1 m1,.slice p2 n2 m2] H R:=by
 subst he
 subst hn1 hn2
 refine Tryz.s11 (br_ne (fun hne=>absurd rfl hne) (fun _=>?_))
 intro X hX
 have go: ∀t,t≤l1.length→ ∀H1,Ext H H1→X [.int .i64 (t:Nat)] H1:=upto fun t ht ih H1 e1=>by
  refine hX _ H1 (br_dec (fun hlt=>?_) (fun hge=>hR H1 e1))
  have hlt:t<l1.length:=by omega
  obtain⟨b,hb⟩: ∃b,l1[t]?=some b:=⟨_,List.getElem?_eq_getElem hlt⟩
  have hbl:=h1 b (List.mem_of_getElem? hb)
  obtain⟨k1,hp1,r1⟩:=St.row64 (hs.step e1) i hi h1 hb hlt
  refine⟨_,hp1,by omega,by omega,_,by rw[intsA_size];exact hbl,by rw[add_none,Nat.zero_add,Int.toNat_natCast];exact r1,?_⟩
  refine(St.of_ext e1).alc fun b8 H2 hs2=>⟨by rw[intsA_size];exact hbl,hs2.putAllA 0 rfl (by rw[hbl];simp) fun H3 hs3=>?_⟩
  have e3:=hs3.ext
  obtain⟨k2,hp2,r2⟩:=St.row64 (hs.step e3) j hj h1 hb hlt
  refine⟨_,by rw[intsA_size];exact hbl,rowIn_whole (hs3.block 0 rfl),_,hp2,by omega,by omega,_,by simpa using hbl,by rw[add_none,Nat.zero_add,Int.toNat_natCast];exact r2,rfl,b,b,hbl,hbl,rfl,rfl,?_⟩
  rw[decide_eq_true rfl,w1 (by omega)]
  exact br_f rfl (ih hlt H3 e3)
 exact go 0 (by omega) H (Ext.refl _)
theorem decodeNil(hR: ∀H',Ext H H'→R (.tuple #[.agg #[.int .i64 0,.int .i64 0,.slice none 0 0,.bool false,.slice none 0 0],.int .i64 51]) H'):CallsH Tryz.prog 10 #[.slice none 0 0] H R:=by
 refine Tryz.s10 ?_
 unfold Tryz.S10
 refine(St.nil H).alc fun b2 H1 hs1=>?_
 intro J hJ
 refine br_y (by decide) ⟨rfl,hs1.putAll 0 rfl rfl (by simp[Value.oneCell']) fun H2 hs2=>?_⟩
 exact⟨_,rfl,rowIn_whole (hs2.block 0 rfl),hR H2 hs2.ext⟩
theorem anc_order:orderM 1 1 false=[(0,0,0),(1,0,0),(2,0,0)]:=by decide+kernel
theorem anc_vals:(blockV 1 1 [255,255,255] 100 false (0,0,0)).getD 0 0=1016∧(blockV 1 1 [255,255,255] 100 false (0,0,0)).getD 1 0=0∧(blockV 1 1 [255,255,255] 100 false (1,0,0)).getD 0 0=0:=by decide+kernel
theorem c5(hR: ∀H',Ext H H'→R (.bool true) H'):CallsH Tryz.prog 5 #[] H R:=by
 refine Tryz.s5 (_u:=()) ?_
 unfold Tryz.S5
 refine(St.nil H).alc fun b1 H1 hs1=>?_
 have i1:IS H1 (some ⟨b1,0,none⟩) 3 (kints .u8 [255,255,255]):=⟨rfl,fun i v hv=>⟨_,rfl,by
  rw[add_none,Nat.zero_add]
  exact cell_get (hs1.block 0 rfl) (by
   have:(#[Value.int .u8 255,Value.int .u8 255,Value.int .u8 255]:Array Value)=(kints .u8 [255,255,255]).toArray:=rfl
   rw[this,List.getElem?_toArray];exact hv)⟩⟩
 have s1:SizedM 1 1:=by decide
 refine c14 i1 (by decide) (by decide) (fun hn=>absurd s1 hn) (fun _ hn=>absurd (by decide) hn) (fun _ _ hn=>absurd (by decide) hn) (fun W Ht hw' hh hW hH hl hn hq H2 b m hs2=>⟨_,_,_,_,rfl,?_⟩)
 have e1:W=1:=by omega
 have e2:Ht=1:=by omega
 subst e1 e2
 have hol:(orderM 1 1 false).length=3:=by rw[anc_order];rfl
 have hbs:blocksL 1 1 [255,255,255] 100 false=[blockV 1 1 [255,255,255] 100 false (0,0,0),blockV 1 1 [255,255,255] 100 false (1,0,0),blockV 1 1 [255,255,255] 100 false (2,0,0)]:=by unfold blocksL;rw[anc_order];rfl
 obtain⟨v0,v1,v2⟩:=anc_vals
 have h64:=blocksL_64 1 1 [255,255,255] 100 false
 have bl0:=blockV_len 1 1 [255,255,255] 100 false (0,0,0)
 have bl1:=blockV_len 1 1 [255,255,255] 100 false (1,0,0)
 rw[hbs] at hs2 h64
 generalize blockV 1 1 [255,255,255] 100 false (0,0,0)=B0 at*
 generalize blockV 1 1 [255,255,255] 100 false (1,0,0)=B1 at*
 generalize blockV 1 1 [255,255,255] 100 false (2,0,0)=B2 at*
 rw[hol] at hs2 ⊢
 have hs2:=hs1.call hs2
 refine decodeNil fun H3 e3=>⟨_,_,rfl,?_⟩
 have hs3:=hs2.step e3
 refine hs3.alc fun b11 H4 hs4=>⟨rfl,hs4.putAll 0 rfl rfl (by simp[Value.oneCell']) fun H5 hs5=>?_⟩
 obtain⟨k0,hp0,r0⟩:=St.row64 hs5 1 rfl h64 (t:=0) (b:=B0) rfl (by decide)
 obtain⟨k1,hp1,r1⟩:=St.row64 hs5 1 rfl h64 (t:=1) (b:=B1) rfl (by decide)
 have c0:=r0 0 (.int .i64 1016) (by rw[List.getElem?_toArray,←v0];exact ints_get (getD_some B0 0 (by omega)))
 have c1:=r0 1 (.int .i64 0) (by rw[List.getElem?_toArray,←v1];exact ints_get (getD_some B0 0 (by omega)))
 have c2:=r1 0 (.int .i64 0) (by rw[List.getElem?_toArray,←v2];exact ints_get (getD_some B1 0 (by omega)))
 refine br_t rfl (br_t rfl ⟨_,hp0,by decide,by decide,by decide,by decide,_,c0,br_t rfl ⟨_,hp0,by decide,by decide,by decide,by decide,_,c1,br_t rfl ⟨_,hp1,by decide,by decide,by decide,by decide,_,c2,br_t rfl ?_⟩⟩⟩)
 exact hR H5 hs5.ext
end Go.Proofs
namespace Go.Proofs
open Go.Sh
variable {H0 H:Heap} {σ:List Rs} {R:Value→Heap→Prop}
theorem stuffB_len: ∀L:List Int,(stuffB L).length≤2*L.length
 |[]=>by simp[stuffB]
 |a::L=>by
  have ih:=stuffB_len L
  unfold stuffB at*
  rw[List.flatMap_cons,List.length_append,List.length_cons]
  have h2:(if a=255 then[255,0] else[a]:List Int).length≤2:=by split<;>simp
  omega
section
variable {W Ht:Nat} {half:Bool} {bl:List (List Int)} {st0 st1 B:List Int}
theorem enc_len(h:EncOk W Ht half bl st0 st1 B):(encB W Ht half st0 st1 (itemsM (orderM W Ht half) bl [0,0,0]) B).length≤200000000:=by
 have hA:=h.few
 have hsym:=items_sym (orderM W Ht half) bl [0,0,0] h.wb rfl la0 (fun u hu=>(order_in u hu).1)
 have hA2:=itemsM_len (orderM W Ht half) bl [0,0,0]
 have hcnt:=order_cnt W Ht half h.W1000 h.H1000
 have h1:=its_le hA _ hsym
 have h2:=h.bits.len
 have h3:=stuffB_len B
 generalize itemsM (orderM W Ht half) bl [0,0,0]=A at*
 have hfl:(fillM (itsBits (eA A) A) 1).length≤27*A.length+8:=by unfold fillM;rw[List.length_append,List.length_replicate];omega
 have t0:=tabB_len hA 0
 have t1:=tabB_len hA 1
 have t2:=tabB_len hA 2
 have t3:=tabB_len hA 3
 unfold encB headB
 simp only[List.length_append,segB_len,List.length_cons,zzB_len,List.length_nil]
 have e1:(frameB W Ht half).length=15:=rfl
 have e2:scanB.length=10:=rfl
 omega
theorem enc_rng(h:EncOk W Ht half bl st0 st1 B): ∀x∈encB W Ht half st0 st1 (itemsM (orderM W Ht half) bl [0,0,0]) B,0≤x∧x<256:=by
 have hA:=h.few
 have hsym:=items_sym (orderM W Ht half) bl [0,0,0] h.wb rfl la0 (fun u hu=>(order_in u hu).1)
 generalize itemsM (orderM W Ht half) bl [0,0,0]=A at*
 have seg: ∀(mark:Int) (d:List Int),0≤mark∧mark<256→d.length≤60000→(∀x∈d,0≤x∧x<256)→ ∀x∈segB mark d,0≤x∧x<256:=fun mark d hm hl hd x hx=>by
  unfold segB at hx
  rcases List.mem_append.1 hx with hx|hx
  ·simp at hx;rcases hx with rfl|rfl|rfl|rfl<;>omega
  ·exact hd x hx
 have zz: ∀(k:Int) (st:List Int),StOk st→0≤k∧k<256→ ∀x∈k::zzB st,0≤x∧x<256:=fun k st hs hk x hx=>by
  rcases List.mem_cons.1 hx with rfl|hx
  ·exact hk
  ·obtain⟨i,hi,rfl⟩:=List.mem_map.1 hx
   have:=hs.rng _ (zig_lt (List.mem_range.1 hi));omega
 have hll:=fun t=>lsC_len (cntS_ok hA t)
 have tab: ∀t,t<4→ ∀x∈tabB A t,0≤x∧x<256:=fun t ht x hx=>by
  unfold tabB dataM at hx
  rcases List.mem_cons.1 hx with rfl|hx
  ·omega
  ·rcases List.mem_append.1 hx with hx|hx
   ·obtain⟨n,hn,rfl⟩:=List.mem_map.1 hx
    have:=few_sym hA hsym t (n+1) (by omega)
    rw[hll t];omega
   ·have:=srtS_rng (lsC (cntS A t)) 16 x hx
    rw[hll t] at this;omega
 have hfr: ∀x∈frameB W Ht half,0≤x∧x<256:=fun x hx=>by
  have:=h.W1000
  have:=h.H1000
  unfold frameB at hx
  simp at hx
  rcases hx with rfl|rfl|rfl|rfl|rfl|rfl|rfl|rfl|rfl|rfl|rfl|rfl|rfl|rfl|rfl<;>first|omega|(split<;>omega)
 have hst: ∀x∈stuffB B,0≤x∧x<256:=fun x hx=>by
  obtain⟨c,hc,hx⟩:=List.mem_flatMap.1 hx
  have:=h.bits.rng c hc
  split at hx
  ·simp at hx;rcases hx with rfl|rfl<;>omega
  ·rw[List.mem_singleton.1 hx];exact this
 intro x hx
 unfold encB headB at hx
 simp only[List.mem_append] at hx
 rcases hx with hx|(hx|hx|hx|hx|hx|hx|hx|hx)|hx|hx
 ·simp at hx;rcases hx with rfl|rfl<;>omega
 ·exact seg _ _ (by omega) (by rw[List.length_cons,zzB_len];omega) (zz 0 st0 h.s0 (by omega)) x hx
 ·exact seg _ _ (by omega) (by rw[List.length_cons,zzB_len];omega) (zz 1 st1 h.s1 (by omega)) x hx
 ·exact seg _ _ (by omega) (by show 15≤60000;omega) hfr x hx
 ·exact seg _ _ (by omega) (by have:=tabB_len hA 0;omega) (tab 0 (by omega)) x hx
 ·exact seg _ _ (by omega) (by have:=tabB_len hA 1;omega) (tab 1 (by omega)) x hx
 ·exact seg _ _ (by omega) (by have:=tabB_len hA 2;omega) (tab 2 (by omega)) x hx
 ·exact seg _ _ (by omega) (by have:=tabB_len hA 3;omega) (tab 3 (by omega)) x hx
 ·exact seg _ _ (by omega) (by decide) (by decide) x hx
 ·exact hst x hx
 ·simp at hx;rcases hx with rfl|rfl<;>omega
end
end Go.Proofs
namespace Go.Proofs
open Go.Sh
variable {H0 H:Heap} {σ:List Rs} {R:Value→Heap→Prop}
section
variable {f a most:Nat} {B out:List Int}
end
end Go.Proofs
namespace Go.Proofs
open Go.Sh
variable {H0 H:Heap} {σ:List Rs} {R:Value→Heap→Prop}
section
variable {f a most:Nat} {B out:List Int}
end
end Go.Proofs
namespace Go.Proofs
open Go.Sh
end Go.Proofs
namespace Go.Proofs
open Go.Sh
end Go.Proofs
namespace Go.Proofs
open Go.Sh
structure Tok where
 n:Nat
 d:Nat
 c:Int
def hashM(b:List Int)(a:Nat):Int:=(xorI .i64 (xorI .i64 (shlI .i64 (b.getD a 0) (8:Int)) (shlI .i64 (b.getD (a+1) 0) (4:Int))) (b.getD (a+2) 0))%4096
def addF(b F:List Int)(a:Nat):List Int:=if a+3≤b.length then F.set (hashM b a).toNat ((a:Int)+1) else F
def addA(b F A:List Int)(a:Nat):List Int:=if a+3≤b.length then A.set a (F.getD (hashM b a).toNat 0) else A
def TokOk(out:List Int)(t:Tok):Prop:=(t.n=0∧t.d=0∧0≤t.c∧t.c<256)∨(3≤t.n∧t.n≤258∧1≤t.d∧t.d≤32768∧t.d≤out.length∧t.c=0)
def expT(out:List Int)(t:Tok):List Int:=if t.n=0 then out++[t.c] else copyM t.d t.n out
def Runs:List Int→List Tok→List Int→Prop
 |out,[],b=>out=b
 |out,t::r,b=>TokOk out t∧Runs (expT out t) r b
theorem expT_len(out:List Int)(t:Tok):(expT out t).length=out.length+max t.n 1:=by
 unfold expT
 split
 ·rename_i h;rw[h,List.length_append];rfl
 ·rw[copyM_len];omega
theorem Runs.len: ∀{out:List Int} {l:List Tok} {b:List Int},Runs out l b→out.length+l.length≤b.length
 |out,[],b,h=>by cases h;simp
 |out,t::r,b,h=>by
  have:=h.2.len
  rw[expT_len] at this
  simp only[List.length_cons]
  omega
structure Chains(b F A:List Int)(a:Nat):Prop where
 fl:F.length=4096
 al:A.length=b.length
 fr: ∀x∈F,0≤x∧x≤a
 ar: ∀(i:Nat) x,A[i]?=some x→0≤x∧x≤i
theorem getD_mem_or{l:List Int}(i:Nat):l.getD i 0∈l∨l.getD i 0=0:=by
 rw[List.getD_eq_getElem?_getD]
 cases h:l[i]? with
 |none=>right;rfl
 |some x=>left;exact List.mem_of_getElem? h
theorem Chains.fget{b F A:List Int}{a:Nat}(h:Chains b F A a)(i:Nat):0≤F.getD i 0∧F.getD i 0≤a:=by
 rcases getD_mem_or (l:=F) i with h1|h1
 ·exact h.fr _ h1
 ·rw[h1];omega
theorem Chains.add{b F A:List Int}{a:Nat}(h:Chains b F A a):Chains b (addF b F a) (addA b F A a) (a+1):=by
 have hf:=h.fget (hashM b a).toNat
 unfold addF addA
 split
 ·refine⟨by rw[List.length_set];exact h.fl,by rw[List.length_set];exact h.al,fun x hx=>?_,fun i x hx=>?_⟩
  ·rcases List.mem_or_eq_of_mem_set hx with hx|rfl
   ·have:=h.fr x hx;omega
   ·omega
  ·rw[List.getElem?_set] at hx
   split at hx
   ·split at hx
    ·cases hx;omega
    ·cases hx
   ·exact h.ar i x hx
 ·exact⟨h.fl,h.al,fun x hx=>by have:=h.fr x hx;omega,h.ar⟩
end Go.Proofs
namespace Go.Proofs
open Go.Sh
variable {H0 H:Heap} {σ:List Rs} {R:Value→Heap→Prop}
section
variable {f l c bf ba a:Nat} {p:Option Addr} {b F A:List Int}
end
end Go.Proofs
namespace Go.Proofs
open Go.Sh
variable {H0 H:Heap} {σ:List Rs} {R:Value→Heap→Prop}
section
variable {f a most:Nat} {B out:List Int} {e:Int}
end
end Go.Proofs
namespace Go.Proofs
open Go.Sh
variable {H0 H:Heap} {σ:List Rs} {R:Value→Heap→Prop}
theorem mark_skip{x:Int}{d r:List Int}{s:Jst}(h:224≤x∧x≤239∨x=254):markM x d r s=headM r s:=by unfold markM;rw[if_pos h]
theorem mark_none{x:Int}{d r:List Int}{s:Jst}(h: ¬(224≤x∧x≤239∨x=254))(h1:x≠219)(h2:x≠192)(h3:x≠196)(h4:x≠218):markM x d r s=none:=by
 unfold markM;rw[if_neg h,if_neg h1,if_neg h2,if_neg h3,if_neg h4]
theorem dec_seg{E d:List Int}{x:Int}(hE: ¬(E.length<2∨E.getD 0 0≠255∨E.getD 1 0≠216))(hl:d.length≤60000):
 ((224≤x∧x≤239∨x=254)→decJ ([255,216]++(segB x d++E.drop 2))=decJ E)∧(¬(224≤x∧x≤239∨x=254)→x≠219→x≠192→x≠196→x≠218→decJ ([255,216]++(segB x d++E.drop 2))=none):=by
 have h0: ¬(([255,216]++(segB x d++E.drop 2)).length<2∨([255,216]++(segB x d++E.drop 2)).getD 0 0≠255∨([255,216]++(segB x d++E.drop 2)).getD 1 0≠216):=by
  simp
 have hd:([255,216]++(segB x d++E.drop 2)).drop 2=segB x d++E.drop 2:=rfl
 refine⟨fun h=>?_,fun h h1 h2 h3 h4=>?_⟩
 ·unfold decJ
  rw[if_neg h0,if_neg hE,hd,headM_segB hl,mark_skip h]
 ·unfold decJ
  rw[if_neg h0,hd,headM_segB hl,mark_none h h1 h2 h3 h4]
theorem c13{p:Option Addr}{l c:Nat}{b:List Int}(hb:SlB H p l c b)(hl:l≤1000000000)(hR: ∀x,R (.bool x) H):CallsH Tryz.prog 13 #[.slice p l c] H R:=by
 have hbl:=hb.len
 have hle:=hb.le
 refine Tryz.s13 ?_
 unfold Tryz.S13
 intro X hX
 have loop: ∀i,i≤l→X [.int .i64 (i:Nat)] H:=upto fun i hi ih=>by
  have wi: ∀j:Nat,j≤9→IntKind.wrap .i64 ((i:Int)+(j:Nat))=((i+j:Nat):Int):=fun j hj=>by rw[wrap_id (by omega) (by omega)];omega
  have w1:=wi 1 (by omega)
  have w5:=wi 5 (by omega)
  have w7:=wi 7 (by omega)
  have w8:=wi 8 (by omega)
  have w9:=wi 9 (by omega)
  refine hX _ H ?_
  rw[show((1:Nat):Int)=1 from rfl] at w1
  rw[show((5:Nat):Int)=5 from rfl] at w5
  rw[show((7:Nat):Int)=7 from rfl] at w7
  rw[show((8:Nat):Int)=8 from rfl] at w8
  rw[show((9:Nat):Int)=9 from rfl] at w9
  rw[w1,w5,w7,w8,w9]
  refine br_dec (fun hlt=>?_) (fun _=>hR false)
  have hlt:i+8<l:=by omega
  have nx:=ih (by omega)
  refine hb.rd (Ext.refl _) (i:=(i:Int)) (by omega) (by omega) (br_eq (fun _=>hb.rd (Ext.refl _) (i:=((i+1:Nat):Int)) (by omega) (by omega) (br_eq (fun _=>?_) (fun _=>nx))) (fun _=>nx))
  refine⟨by omega,by omega,by omega,by omega,by omega,by omega,by omega,by omega,?_⟩
  rw[Int.toNat_natCast,Int.toNat_natCast,Int.toNat_natCast]
  have h1:=hb.cut (m:=i+5) (n:=i+7) (by omega) (by omega)
  have h2:=hb.cut (m:=i+7) (n:=i+9) (by omega) (by omega)
  refine c40 h1.is h1.rng (by omega) ⟨_,rfl,c40 h2.is h2.rng (by omega) ⟨_,rfl,br_dec (fun _=>hR true) (fun _=>nx)⟩⟩
 exact loop 0 (Nat.zero_le _)
theorem jlawSegs{w h mk:Int}{l c dl dc:Nat}{p dp:Option Addr}{rgb d:List Int}(hi:IS H p l (kints .u8 rgb))(hr: ∀x∈rgb,0≤x∧x<256)(hd:IS H dp dl (kints .u8 d))(hdr: ∀x∈d,0≤x∧x<256):
 CallsH Tryz.prog 4 #[.int .i64 w,.int .i64 h,.slice p l c,.int .i64 mk,.slice dp dl dc] H (fun u H'=>u= .bool true∧Ext H H'):=by
 refine Tryz.s4 ?_
 generalize hRd:(fun(u:Value) (H':Heap)=>u=Value.bool true∧Ext H H')=R
 have R1: ∀H',Ext H H'→R (.bool true) H':=fun H' e=>by subst hRd;exact⟨rfl,e⟩
 clear hRd
 unfold Tryz.S4
 have hrl:=hi.length
 have hdl:=hd.length
 refine c5 fun H1 e1=>⟨_,rfl,br_f rfl ?_⟩
 intro J7 hJ7
 refine br_dec (fun _=>R1 H1 e1) (fun hl=>br_dec (fun _=>R1 H1 e1) (fun hm1=>br_dec (fun _=>R1 H1 e1) (fun hm2=>br_dec (fun _=>R1 H1 e1) (fun hd2=>?_))))
 refine c6 ⟨_,rfl,?_⟩
 by_cases hz:SizedM w h
 rotate_left
 ·exact br_t (by simp[hz]) (R1 H1 e1)
 refine br_f (by simp[hz]) ?_
 obtain⟨z1,z2,z3,z4,z5⟩:=hz
 obtain⟨W,rfl⟩:=Int.eq_ofNat_of_zero_le (show 0≤w by omega)
 obtain⟨Ht,rfl⟩:=Int.eq_ofNat_of_zero_le (show 0≤h by omega)
 have hmul:((W:Int))*(Ht:Int)=((W*Ht:Nat):Int):=by rw[Int.natCast_mul]
 rw[hmul] at z5
 have hw3:IntKind.wrap .i64 ((3:Int)*(W:Int))=3*(W:Int):=wrap_id (by omega) (by omega)
 have hwh:3*(W:Int)*(Ht:Int)=((3*(W*Ht):Nat):Int):=by rw[Int.mul_assoc,hmul];omega
 rw[hw3,hwh,wrap_id (n:=((3*(W*Ht):Nat):Int)) (by omega) (by omega)]
 refine br_ne (fun _=>R1 H1 e1) (fun heq=>hJ7 H1 ?_)
 have hn:W*Ht≤1000:=by omega
 have i1:=hi.ext e1
 have hz:SizedM (W:Int) (Ht:Int):=⟨z1,z2,z3,z4,by rw[hmul];exact z5⟩
 have hle:(l:Int)=3*(W:Int)*(Ht:Int):=by rw[hwh];omega
 refine c7 i1 hr (by omega) (fun W Ht _ _ _=>blocks_ok) (fun hn=>absurd hz hn) (fun _ hn=>absurd hle hn) (fun _ _ hq'=>absurd (by decide) hq') (fun W' Ht' B hw' hh _ _ _ hok H2 eb em hs2=>⟨_,_,_,_,rfl,?_⟩)
 obtain rfl:W=W':=by omega
 obtain rfl:Ht=Ht':=by omega
 have hs2:=(St.of_ext e1).call hs2
 have hdec:=dec_enc hok
 have hlen:=enc_len hok
 have hrng:=enc_rng hok
 have hE:=(show ¬((encB W Ht false (stepsM 50 false) (stepsM 50 true) (itemsM (orderM W Ht false) (blocksL W Ht rgb 50 false) [0,0,0]) B).length<2∨(encB W Ht false (stepsM 50 false) (stepsM 50 true) (itemsM (orderM W Ht false) (blocksL W Ht rgb 50 false) [0,0,0]) B).getD 0 0≠255∨(encB W Ht false (stepsM 50 false) (stepsM 50 true) (itemsM (orderM W Ht false) (blocksL W Ht rgb 50 false) [0,0,0]) B).getD 1 0≠216) by unfold encB;simp)
 generalize encB W Ht false (stepsM 50 false) (stepsM 50 true) (itemsM (orderM W Ht false) (blocksL W Ht rgb 50 false) [0,0,0]) B=E at*
 intro J15 hJ15
 refine br_f rfl (br_n (by omega) (hJ15 H2 ⟨by decide,?_⟩))
 have wl:IntKind.wrap .i64 ((dl:Int)+2)=((dl+2:Nat):Int):=by rw[wrap_id (by omega) (by omega)];omega
 have sh0:shrI .i64 ((dl+2:Nat):Int) (8:Int)=0:=by
  have: ∀n:Fin 256,shrI .i64 ((n.val:Nat):Int) (8:Int)=0:=by decide+kernel
  exact this ⟨dl+2,by omega⟩
 rw[wl,sh0,show IntKind.wrap .u8 0=0 from rfl,wr8 (x:=mk) (by omega),wr8 (x:=((dl+2:Nat):Int)) (by omega)]
 refine hs2.alc fun b17 H3 hs3=>?_
 have hs3:=hs3.toSl 0 (l:=6) (k:=1) rfl rfl (fs:=kints .u8 [255,216,255,mk,0,((dl+2:Nat):Int)]) rfl (kints_one _ _)
 refine hs3.appI 0 rfl (hd.ext hs3.ext) (kints_one _ _) rfl (by omega) (by omega) fun p4 c4 H4 hs4=>⟨by decide,by omega,?_⟩
 rw[show Int.toNat 2=2 from rfl]
 have hE2:=(SlB.from_ ⟨hs4.is 1 rfl,(hs4.fs 1 rfl).le,hrng⟩ (m:=2) (by omega):SlB H4 _ _ _ _)
 refine hs4.appI 0 rfl hE2.is (kints_one _ _) rfl (by omega) (by omega) fun p5 c5 H5 hs5=>?_
 have hc:kints .u8 [255,216,255,mk,0,((dl+2:Nat):Int)]++kints .u8 d++kints .u8 (E.drop 2)=kints .u8 ([255,216]++(segB mk d++E.drop 2)):=by
  have hs:segB mk d=[255,mk,0,((dl+2:Nat):Int)]++d:=by
   unfold segB
   rw[hdl,show(dl+2)/256=0 by omega,show(dl+2)%256=dl+2 by omega];rfl
  rw[←kints_append,←kints_append,hs]
  simp
 have hcl:6+dl+(E.length-2)=([255,216]++(segB mk d++E.drop 2)).length:=by
  have:=congrArg List.length hc
  simp only[List.length_append,kints_len,List.length_cons,List.length_nil,List.length_drop] at this ⊢
  omega
 simp only[List.set_cons_zero] at hs5
 rw[hc,hcl] at hs5
 rw[hcl]
 have hcr: ∀x∈[255,216]++(segB mk d++E.drop 2),0≤x∧x<256:=fun x hx=>by
  rcases List.mem_append.1 hx with h|h
  ·simp at h;rcases h with rfl|rfl<;>omega
  rcases List.mem_append.1 h with h|h
  ·unfold segB at h
   rcases List.mem_append.1 h with h|h
   ·simp at h;rcases h with rfl|rfl|rfl|rfl<;>omega
   ·exact hdr x h
  ·exact hrng x (List.mem_of_mem_drop h)
 obtain⟨hskip,hnone⟩:=dec_seg (x:=mk) (d:=d) hE (by omega)
 have hcl2:([255,216]++(segB mk d++E.drop 2)).length≤900000000:=by omega
 generalize [255,216]++(segB mk d++E.drop 2)=C at*
 clear hs3 hs4 hE2
 have hsl5:SlB H5 p5 C.length c5 C:=⟨hs5.is 0 rfl,(hs5.fs 0 rfl).le,hcr⟩
 -- what is told of the four marks
 have tail: ∀(e:Int) {τ:List Rs} (j:Nat) (H6:Heap),(decJ C=none→e=51)→(decJ C≠none→e=0)→St H H6 τ→τ[j]?=some (.sl p5 C.length c5 5 1 (kints .u8 C))→Tryz.C 9 #[.slice p5 C.length c5] H6 fun r34 H35=> ∃r36 r37,r34= .tuple #[.agg r36,.bool r37]∧alc H35 (.cells #[.int .i64 0,.int .i64 0,.slice none 0 0,.bool false,.slice none 0 0] 34) fun b38 H39=>r36.size=5∧stAt H39 ⟨b38,0,none⟩ r36.toList fun H40=>Tryz.C 13 #[.slice p5 C.length c5] H40 fun r41 H42=> ∃r43,r41= .bool r43∧br r43 (R (.bool true) H42) (R (.bool (r37==(e==0))) H42):=fun e τ j H6 he1 he2 hs6 hj=>by
  refine c9 ⟨hs6.is j hj,(hs6.fs j hj).le,hcr⟩ hcl2 (fun hno H7 e7=>⟨_,_,rfl,?_⟩) (fun m hm W' Ht' _ _ _ H7 q7 k7 bq7 bk7 hs7=>⟨_,_,rfl,?_⟩)
  ·have hs7:=hs6.step e7
   refine hs7.alc fun b38 H8 hs8=>⟨rfl,hs8.putAll 0 rfl rfl (by simp[Value.oneCell',img0]) fun H9 hs9=>?_⟩
   refine c13 ⟨hs9.is (j+1) hj,(hs9.fs (j+1) hj).le,hcr⟩ (by omega) fun x=>⟨_,rfl,?_⟩
   rw[he1 hno]
   exact⟨fun _=>R1 H9 hs9.ext,fun _=>R1 H9 hs9.ext⟩
  ·have hs7:=hs6.call hs7
   refine hs7.alc fun b38 H8 hs8=>⟨rfl,hs8.putAll 0 rfl rfl (by simp[Value.oneCell']) fun H9 hs9=>?_⟩
   refine c13 ⟨hs9.is (j+3) hj,(hs9.fs (j+3) hj).le,hcr⟩ (by omega) fun x=>⟨_,rfl,?_⟩
   rw[he2 (by rw[hm];simp)]
   exact⟨fun _=>R1 H9 hs9.ext,fun _=>R1 H9 hs9.ext⟩
 refine c10 hsl5 hcl2 (fun hno H6 e6=>⟨_,_,rfl,?_⟩) (fun m hm W' Ht' hW hHt hpo H6 q6 k6 bq6 bk6 hs6=>⟨_,_,rfl,?_⟩)
 ·have hs6:=hs5.step e6
  refine hs6.alc fun b27 H7 hs7=>⟨rfl,hs7.putAll 0 rfl rfl (by simp[Value.oneCell',img0]) fun H8 hs8=>?_⟩
  have hns: ¬(224≤mk∧mk≤239∨mk=254):=fun h=>by rw[hskip h,hdec] at hno;cases hno
  intro J30 hJ30
  have j30:J30 [] H8:=hJ30 H8 (by
   intro J32 hJ32
   have t:=tail 51 (j:=1) H8 (fun _=>rfl) (fun h=>absurd hno h) hs8 rfl
   exact br_eq (fun _=>t) (fun _=>br_eq (fun _=>t) (fun _=>br_eq (fun _=>t) (fun _=>br_eq (fun _=>t) (fun _=>hJ32 H8 (R1 H8 hs8.ext))))))
  exact br_dec (fun h1=>br_dec (fun h2=>by omega) (fun h2=>br_eq (fun h3=>by omega) (fun _=>j30))) (fun h1=>br_eq (fun h3=>by omega) (fun _=>j30))
 ·have hs6:=hs5.call hs6
  refine hs6.alc fun b27 H7 hs7=>⟨rfl,hs7.putAll 0 rfl rfl (by simp[Value.oneCell']) fun H8 hs8=>?_⟩
  intro J30 hJ30
  have j30: ¬(224≤mk∧mk≤239∨mk=254)→J30 [] H8:=fun hns=>hJ30 H8 (by
   intro J32 hJ32
   have t:=tail 0 (j:=3) H8 (fun h=>by rw[hm] at h;cases h) (fun _=>rfl) hs8 rfl
   exact br_eq (fun _=>t) (fun h1=>br_eq (fun _=>t) (fun h2=>br_eq (fun _=>t) (fun h3=>br_eq (fun _=>t) (fun h4=>by rw[hnone hns h1 h2 h3 h4] at hm;cases hm)))))
  have good:(224≤mk∧mk≤239∨mk=254)→br ((0:Int)==0) (∃W74,cell H8 ((⟨b27,0,none⟩:Addr).add 0)=some (.int .i64 W74)∧br (W74==(W:Int)) (∃H75,cell H8 ((⟨b27,0,none⟩:Addr).add 1)=some (.int .i64 H75)∧R (.bool (H75==(Ht:Int))) H8) (R (.bool false) H8)) (R (.bool false) H8):=fun hs=>by
   rw[hskip hs,hdec] at hm
   cases hm
   obtain rfl:W=W':=by have:((W:Nat):Int)=W':=hW;omega
   obtain rfl:Ht=Ht':=by have:((Ht:Nat):Int)=Ht':=hHt;omega
   refine br_t rfl ⟨_,hs8.get 0 (j:=0) rfl rfl,br_eq (fun _=>⟨_,hs8.get 0 (j:=1) rfl rfl,?_⟩) (fun hne=>absurd rfl hne)⟩
   rw[beq_self_eq_true]
   exact R1 H8 hs8.ext
  exact br_dec (fun h1=>br_dec (fun h2=>good (.inl ⟨h1,h2⟩)) (fun h2=>br_eq (fun h3=>good (.inr h3)) (fun h3=>j30 (by omega)))) (fun h1=>br_eq (fun h3=>good (.inr h3)) (fun h3=>j30 (by omega)))
end Go.Proofs
namespace Go.Proofs
open Go.Sh Go.RowKit Go.ChangeShapes Go.WideShapes Go.ChangeAt
theorem wf_range8{a:Int}(h:(Lit.int .u8 a).wf=true):0≤a∧a<256:=by
 have:0≤a∧a≤255:=by simpa[Lit.wf,IntKind.min,IntKind.max,IntKind.signed,IntKind.bits] using h
 omega
theorem bytesAt{H:Type}{enc:TypeId×Value→H}{W:World}{fuel:Nat}{a0:Option Addr}{len cap:Nat}{x:DataW H×List MemPlace}(hf:DataW.trod enc Tryz.prog W 0 (fun _=>true) true fuel 22 [.slice a0 len cap]=some x):
 ∃ls,len≤cap∧IS W.heap a0 len (kints .u8 ls)∧ ∀n∈ls,0≤n∧n<256:=by
 rcases open_ints Tryz.underlying22 Tryz.underlying5 (by kernel_rfl) hf with ⟨hcs,_⟩|⟨a,len2,cap2,zs,hcs,_,hl,_,hz,_,hc,hw⟩
 ·simp at hcs
  obtain⟨rfl,rfl,rfl⟩:=hcs
  exact⟨[],Nat.le_refl _,⟨rfl,fun i v hv=>by simp[kints] at hv⟩,fun n hn=>by simp at hn⟩
 ·simp at hcs
  obtain⟨rfl,rfl,rfl⟩:=hcs
  have hzl:len≤zs.length:=by rw[hz];simp;omega
  refine⟨zs.take len,hl,⟨by rw[kints_len];simp;omega,fun i v hv=>⟨a,rfl,?_⟩⟩,fun n hn=>wf_range8 (hw n (List.mem_of_mem_take hn))⟩
  have hi:i<len:=by have:=(List.getElem?_eq_some_iff.1 hv).1;rw[kints_len] at this;simp at this;omega
  have:=hc i (by omega)
  rw[cell_eq] at this
  rw[this]
  have hg:(zs.take len)[i]?=some (zs.getD i 0):=by
   rw[List.getElem?_take_of_lt hi,List.getD_eq_getElem?_getD,List.getElem?_eq_getElem (by omega)];rfl
  rw[kints_get hg] at hv
  exact hv
set_option maxRecDepth 100000 in
theorem bytesIn_of{H:Type}{enc:TypeId×Value→H}{W:World}{v:Value}{d:DataW H}{ps:List MemPlace}{base:Nat}(hv:Value.okWide Tryz.prog W .any base 22 v)(h:DataW.Trod enc Tryz.prog W 0 (fun _=>true) true 22 v d ps):
 ∃a l c ls,v= .slice a l c∧l≤c∧IS W.heap a l (kints .u8 ls)∧ ∀n∈ls,0≤n∧n<256:=by
 obtain⟨a0,len,cap,rfl⟩:=okWide_slice Tryz.underlying22 hv
 obtain⟨fuel,hf⟩:=h
 obtain⟨ls,h1,h2,h3⟩:=bytesAt hf
 exact⟨a0,len,cap,ls,rfl,h1,h2,h3⟩
end Go.Proofs
