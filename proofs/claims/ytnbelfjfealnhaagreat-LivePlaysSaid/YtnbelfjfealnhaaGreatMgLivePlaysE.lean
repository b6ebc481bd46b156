/-
  OWN WORK. Several texts in one: TrM, TrN, ShF, TrO, TrP, TrQ, TrR, TrS, TrT, FlA, RnA, RnB, RnC, RnD.
-/
import Derived.Test.YtnbelfjfealnhaaGreatMgLivePlaysD
import Derived.Test.YtnbelfjfealnhaaGreatMgLivePlaysB

set_option linter.unusedVariables false
set_option linter.unusedSimpArgs false
set_option maxRecDepth 10000
namespace Go.Proofs
open Go.Sh
variable {H0 H:Heap} {σ:List Rs} {R:Value→Heap→Prop}
theorem and255(a:Int):andI .i64 a (255:Int)=a%256:=by
 unfold andI
 rw[show IntKind.bits .i64=64 from rfl,BitVec.toNat_and,BitVec.toNat_ofInt,BitVec.toNat_ofInt]
 rw[show((255:Int)%((2^64:Nat):Int)).toNat=2^8-1 from by decide,Nat.and_two_pow_sub_one_eq_mod]
 have h2:(((a%((2^64:Nat):Int)).toNat%2^8:Nat):Int)=a%256:=by
  rw[show((2^64:Nat):Int)=18446744073709551616 from by decide];omega
 rw[h2]
 exact wrap_id (by omega) (by omega)
theorem shrTo(x:Int){n:Int}{d:Int}(hn:min n.toNat 64=n.toNat)(hd:(2:Int)^n.toNat=d)(h0:0≤d):shrI .i64 x n=x/d:=by
 unfold shrI
 rw[show min n.toNat (IntKind.bits .i64)=n.toNat from hn,hd]
 exact Int.fdiv_eq_ediv_of_nonneg _ h0
theorem shr24(x:Int):shrI .i64 x (24:Int)=x/16777216:=shrTo x rfl rfl (by decide)
theorem shr16'(x:Int):shrI .i64 x (16:Int)=x/65536:=shrTo x rfl rfl (by decide)
theorem shr8'(x:Int):shrI .i64 x (8:Int)=x/256:=shrTo x rfl rfl (by decide)
theorem shr0'(x:Int):shrI .i64 x (0:Int)=x:=by rw[shrTo x (n:=0) (d:=1) rfl rfl (by decide)];omega
def splitL(v:Int):List Int:=[v/16777216%256,v/65536%256,v/256%256,v%256]
def pixelB(v:Int):Bool:=decide (0≤v∧v<4294967296∧v/16777216%256≤v%256∧v/65536%256≤v%256∧v/256%256≤v%256)
theorem c102{v:Int}(hR: ∀H',Ext H H'→R (.agg (ints (splitL v)).toArray) H'):CallsH Tryz.prog 102 #[.int .i64 v] H R:=by
 refine Tryz.s102 ?_
 unfold Tryz.S102
 simp only[and255,shr24,shr16',shr8']
 refine(St.nil H).alc fun b2 H3 hs3=>⟨by decide,by decide,by decide,rfl,hs3.putAllA 0 (l:=splitL v) rfl rfl fun H4 hs4=>⟨_,rfl,rowIn_whole (hs4.block 0 rfl),hR H4 hs4.ext⟩⟩
theorem c76{v:Int}(hR: ∀H',Ext H H'→R (.bool (pixelB v)) H'):CallsH Tryz.prog 76 #[.int .i64 v] H R:=by
 refine Tryz.s76 ?_
 unfold Tryz.S76
 refine c102 fun H3 he3=>⟨_,rfl,?_⟩
 refine((St.of_ext he3)).alc fun b5 H6 hs6=>⟨rfl,hs6.putAllA 0 (l:=splitL v) rfl rfl fun H7 hs7=>?_⟩
 have bad: ¬(0≤v∧v<4294967296)→R (.bool false) H7:=fun h=>by
  have:=hR H7 hs7.ext
  rw[show pixelB v=false from decide_eq_false fun hh=>h ⟨hh.1,hh.2.1⟩] at this
  exact this
 refine br_dec (fun h0=>br_dec (fun h1=>?_) fun h1=>bad (by omega)) fun h0=>bad (by omega)
 refine⟨by decide,by decide,_,hs7.rdA 0 (j:=0) rfl rfl,by decide,by decide,_,hs7.rdA 0 (j:=1) rfl rfl,by decide,by decide,_,hs7.rdA 0 (j:=2) rfl rfl,by decide,by decide,_,hs7.rdA 0 (j:=3) rfl rfl,?_⟩
 have:=hR H7 hs7.ext
 rw[show pixelB v=decide (max (max (v/16777216%256) (v/65536%256)) (v/256%256)≤v%256) from by unfold pixelB;exact decide_eq_decide.2 (by omega)] at this
 exact this
theorem c75{v:Int}(hR: ∀H',Ext H H'→R (.bool (!pixelB v)) H'):CallsH Tryz.prog 75 #[.int .i64 v] H R:=by
 refine Tryz.s75 ?_
 unfold Tryz.S75
 exact c76 fun H3 he=>⟨_,rfl,hR H3 he⟩
theorem c74{p:Option Addr}{l c g:Nat}{xs:List Int}{T:Int→Bool}(h:IS H p l (ints xs))(hl:l≤1000000000000)
 (hg: ∀{H1:Heap} {R1:Value→Heap→Prop} (v:Int),v∈xs→Ext H H1→(∀H',Ext H1 H'→R1 (.bool (T v)) H')→CallsH Tryz.prog g #[.int .i64 v] H1 R1)
 (hR: ∀H',Ext H H'→R (.bool (xs.any T)) H'):CallsH Tryz.prog 74 #[.slice p l c,.func (.func g) #[] #[]] H R:=by
 refine Tryz.s74 ?_
 unfold Tryz.S74
 refine Tryz.s101 ?_
 unfold Tryz.S101
 intro X hX
 have hlen:=h.length
 have go: ∀k,k≤xs.length→ ∀H1,Ext H H1→(xs.take k).any T=false→X [.int .i64 (k:Nat)] H1:=by
  refine upto fun k hk ih H1 he hT=>hX _ _ (br_dec (fun hlt=>?_) fun hge=>?_)
  ·have hk':k<xs.length:=by omega
   have hx:=List.getElem?_eq_getElem hk'
   have hm:=List.getElem_mem hk'
   generalize xs[k]=v at hx hm
   refine IS.rd (i:=(k:Int)) (h.ext he) (by omega) (by omega) (x:=v) hx ?_
   refine hg v hm he fun H9 he9=>⟨_,rfl,br_i (fun ht=>⟨_,rfl,?_⟩) fun ht=>?_⟩
   ·have:=hR H9 (he.trans he9)
    rw[List.any_eq_true.2 ⟨v,hm,ht⟩] at this
    rw[show decide ((k:Int)≥0)=true from decide_eq_true (by omega)]
    exact this
   ·rw[wrap_id (by omega) (by omega)]
    refine ih hk' H9 (he.trans he9) ?_
    rw[take_succ hx,List.any_append,hT]
    simp[ht]
  ·have:k=xs.length:=by omega
   subst this
   rw[List.take_of_length_le (Nat.le_refl _)] at hT
   have:=hR H1 he
   rw[hT] at this
   exact⟨_,rfl,this⟩
 exact go 0 (by omega) H (Ext.refl H) rfl
def insideB(e:Ed)(W:Int)(q:Nat):Bool:=decide (e.x≤(q:Int)%W∧(q:Int)%W<e.x+e.w∧e.y≤(q:Int)/W∧(q:Int)/W<e.y+e.h)
def idxP(e:Ed)(W:Int)(q:Nat):Int:=((q:Int)/W-e.y)*e.w+((q:Int)%W-e.x)
def paintTo(e:Ed)(W:Int)(p:List Int)(k:Int):List Int:=(List.range p.length).map fun q=>if insideB e W q=true∧idxP e W q<k then e.p.getD (idxP e W q).toNat 0 else p.getD q 0
def paintP(e:Ed)(W:Int)(p:List Int):List Int:=(List.range p.length).map fun q=>if insideB e W q=true then e.p.getD (idxP e W q).toNat 0 else p.getD q 0
def paintF(e:Ed)(f:LayF):Int×LayF:=
 if f.kind≠0 then(41,f) else if e.w<1∨e.h<1∨e.w>32768∨e.h>32768∨(e.p.length:Int)≠e.w*e.h then(25,f) else
 if e.p.any (fun v=> !pixelB v)=true then(25,f) else if e.x< -32768∨e.x>32768∨e.y< -32768∨e.y>32768 then(31,f) else(0,{f with p:=paintP e f.w f.p})
theorem idxP_rng{e:Ed}{W:Int}{q:Nat}(h:insideB e W q=true):0≤idxP e W q∧idxP e W q<e.w*e.h:=by
 have hd:=of_decide_eq_true h
 obtain⟨h1,h2,h3,h4⟩:=hd
 unfold idxP
 have a1:0≤((q:Int)/W-e.y)*e.w:=Int.mul_nonneg (by omega) (by omega)
 have a2:((q:Int)/W-e.y)*e.w≤(e.h-1)*e.w:=Int.mul_le_mul_of_nonneg_right (by omega) (by omega)
 have a3:(e.h-1)*e.w=e.w*e.h-e.w:=by rw[Int.sub_mul,Int.mul_comm e.h];omega
 omega
theorem paintTo_len(e:Ed)(W:Int)(p:List Int)(k:Int):(paintTo e W p k).length=p.length:=by simp[paintTo]
theorem paintTo_zero(e:Ed)(W:Int)(p:List Int):paintTo e W p 0=p:=by
 apply List.ext_getElem?
 intro q
 unfold paintTo
 by_cases hq:q<p.length
 ·rw[tab_get' hq,if_neg (fun h=>by have:=(idxP_rng h.1).1;omega),←getD_some p 0 hq]
 ·rw[List.getElem?_eq_none (by simpa using hq),List.getElem?_eq_none (by omega)]
where
 tab_get' {n:Nat} {f:Nat→Int} {i:Nat} (h:i<n):((List.range n).map f)[i]?=some (f i):=by simp[h]
theorem paintTo_all{e:Ed}{W:Int}{p:List Int}{k:Int}(hk:e.w*e.h≤k):paintTo e W p k=paintP e W p:=by
 unfold paintTo paintP
 refine List.map_congr_left fun q _=>?_
 by_cases h:insideB e W q=true
 ·have:=(idxP_rng h).2
  rw[if_pos h,if_pos ⟨h,by omega⟩]
 ·rw[if_neg h,if_neg fun hh=>h hh.1]
theorem div_uniq{n w a b:Int}(hw:0<w)(hb0:0≤b)(hb1:b<w)(h:n=a*w+b):n/w=a∧n%w=b:=by
 have h1:n/w=a:=by
  rw[h,Int.add_comm,Int.add_mul_ediv_right _ _ (by omega),Int.ediv_eq_zero_of_lt hb0 hb1];omega
 refine⟨h1,?_⟩
 have:=Int.emod_add_mul_ediv n w
 rw[h1,Int.mul_comm] at this
 omega
theorem paintTo_in{e:Ed}{W:Int}{p:List Int}{k q:Nat}{Hh:Int}(hw:1≤e.w)(hW:1≤W)(hl:(p.length:Int)=W*Hh)(hk:(k:Int)<e.w*e.h)(h0:0≤e.x+(k:Int)%e.w)(h1:e.x+(k:Int)%e.w<W)(h2:0≤e.y+(k:Int)/e.w)(h3:e.y+(k:Int)/e.w<Hh)
 (hq:(q:Int)=(e.y+(k:Int)/e.w)*W+(e.x+(k:Int)%e.w)):q<p.length∧(paintTo e W p k).set q (e.p.getD k 0)=paintTo e W p (k+1):=by
 obtain⟨q1,q2⟩:=div_uniq (by omega) h0 h1 hq
 have hke:=Int.emod_add_mul_ediv (k:Int) e.w
 have hk0:=Int.emod_nonneg (k:Int) (show e.w≠0 by omega)
 have hk1:=Int.emod_lt_of_pos (k:Int) (show 0<e.w by omega)
 have hk2:(k:Int)/e.w<e.h:=by
  refine Int.ediv_lt_of_lt_mul (by omega) ?_
  rw[Int.mul_comm];exact hk
 have hk3:0≤(k:Int)/e.w:=Int.ediv_nonneg (by omega) (by omega)
 have hql:q<p.length:=by
  have b1:(e.y+(k:Int)/e.w)*W≤(Hh-1)*W:=Int.mul_le_mul_of_nonneg_right (by omega) (by omega)
  have b3:(Hh-1)*W=W*Hh-W:=by rw[Int.sub_mul,Int.mul_comm Hh];omega
  omega
 refine⟨hql,?_⟩
 have hin:insideB e W q=true:=decide_eq_true ⟨by omega,by omega,by omega,by omega⟩
 have hid:idxP e W q=k:=by
  unfold idxP
  rw[q1,q2,show e.y+(k:Int)/e.w-e.y=(k:Int)/e.w from by omega,show e.x+(k:Int)%e.w-e.x=(k:Int)%e.w from by omega,Int.mul_comm]
  omega
 apply List.ext_getElem?
 intro r
 rw[List.getElem?_set,paintTo_len]
 by_cases hr:q=r
 ·subst hr
  rw[if_pos rfl,if_pos hql]
  unfold paintTo
  rw[paintTo_zero.tab_get' hql,if_pos ⟨hin,by omega⟩,hid]
  rfl
 ·rw[if_neg hr]
  by_cases hrl:r<p.length
  ·unfold paintTo
   rw[paintTo_zero.tab_get' hrl,paintTo_zero.tab_get' hrl]
   by_cases hir:insideB e W r=true
   ·have hne:idxP e W r≠k:=fun hh=>hr (by
     obtain⟨i1,i2,i3,i4⟩:=of_decide_eq_true hir
     have:=div_uniq (n:=(k:Int)) (w:=e.w) (a:=(r:Int)/W-e.y) (b:=(r:Int)%W-e.x) (by omega) (by omega) (by omega) (by rw[←hh];rfl)
     have hre:=Int.emod_add_mul_ediv (r:Int) W
     have:(r:Int)/W=(q:Int)/W:=by rw[q1];omega
     have h6:(r:Int)%W=(q:Int)%W:=by rw[q2];omega
     have hqe:=Int.emod_add_mul_ediv (q:Int) W
     rw[this,h6] at hre
     omega)
    by_cases hlt:idxP e W r<k
    ·rw[if_pos ⟨hir,hlt⟩,if_pos ⟨hir,by omega⟩]
    ·rw[if_neg fun h=>hlt h.2,if_neg fun h=>by have:=h.2;omega]
   ·rw[if_neg fun h=>hir h.1,if_neg fun h=>hir h.1]
  ·rw[List.getElem?_eq_none (by rw[paintTo_len];omega),List.getElem?_eq_none (by rw[paintTo_len];omega)]
theorem paintTo_out{e:Ed}{W:Int}{p:List Int}{k:Nat}{Hh:Int}(hw:1≤e.w)(hW:1≤W)(hl:(p.length:Int)=W*Hh)
 (h: ¬(0≤e.x+(k:Int)%e.w∧e.x+(k:Int)%e.w<W∧0≤e.y+(k:Int)/e.w∧e.y+(k:Int)/e.w<Hh)):paintTo e W p k=paintTo e W p (k+1):=by
 unfold paintTo
 refine List.map_congr_left fun r hr=>?_
 have hrl:r<p.length:=List.mem_range.1 hr
 by_cases hir:insideB e W r=true
 ·have hne:idxP e W r≠k:=fun hh=>h (by
   obtain⟨i1,i2,i3,i4⟩:=of_decide_eq_true hir
   have h5:=div_uniq (n:=(k:Int)) (w:=e.w) (a:=(r:Int)/W-e.y) (b:=(r:Int)%W-e.x) (by omega) (by omega) (by omega) (by rw[←hh];rfl)
   have r0:=Int.emod_nonneg (r:Int) (show W≠0 by omega)
   have r1:=Int.emod_lt_of_pos (r:Int) (show 0<W by omega)
   have r2:0≤(r:Int)/W:=Int.ediv_nonneg (by omega) (by omega)
   have r3:(r:Int)/W<Hh:=Int.ediv_lt_of_lt_mul (by omega) (by rw[Int.mul_comm];omega)
   exact⟨by omega,by omega,by omega,by omega⟩)
  by_cases hlt:idxP e W r<k
  ·rw[if_pos ⟨hir,hlt⟩,if_pos ⟨hir,by omega⟩]
  ·rw[if_neg fun h=>hlt h.2,if_neg fun h=>by have:=h.2;omega]
 ·rw[if_neg fun h=>hir h.1,if_neg fun h=>hir h.1]
end Go.Proofs
namespace Go.Proofs
open Go.Sh
variable {H0 H:Heap} {σ:List Rs} {R:Value→Heap→Prop}
def okRas(f:LayF):Prop:=f.kind=0→sizedB f.w f.h=true∧(f.p.length:Int)=f.w*f.h
theorem c41{b d:Nat}{e:Ed}{s:EdS}{K:Sl3}{ks:List T}(hs:St H0 H (resRoot b K ks++σ))(hc:cntKs (layKs ks)≤1000000000)(hed:rdEd H0 e s)(hras: ∀fr u ks',flK [] [] e.id (layKs ks)=some (fr::u,ks')→okRas fr.f)(hR:Chg (paintF e) H0 σ R b ks e.id):
 CallsH Tryz.prog 41 #[.agg (workL b d e s).toArray] H R:=by
 refine Tryz.s41 ?_
 unfold Tryz.S41
 refine hs.alc fun b2 H3 hs3=>⟨_,rfl,rowIn_whole (hs3.block 0 rfl),?_⟩
 refine tgt hs3 (by omega) (fun hl H6 hs6=>⟨_,_,rfl,?_⟩) fun fr u K' ks' a H6 hl ha hs6=>⟨_,_,rfl,?_⟩
 ·intro J hJ
  exact br_ne (fun _=>hR.none hl hs6.tail.app.2) fun h=>absurd h (by decide)
 intro J hJ
 have bad: ∀{v:Int} {H':Heap},paintF e fr.f=(v,fr.f)→v≠0→St H0 H' (.cell b2 (workL b d e s).toArray 100::(openR fr (u++[rootFr b]) K' ks'++σ))→R (.int .i64 v) H':=fun hg hv hs=>hR.err hl hg hv hs.tail.app.2
 have hplen:=(hed.p.ext hs6.ext).length
 refine br_ne (fun h=>absurd rfl h) fun _=>?_
 refine⟨a,rfl,_,hs6.elCell 1 rfl (cellsKs_len fr.pre) (cells_1 fr K') ha,br_ne (fun hk=>?_) fun hk=>?_⟩
 ·exact bad (v:=41) (by unfold paintF;rw[if_pos hk]) (by decide) hs6
 have hF1: ∀x,paintF e fr.f=x↔(if e.w<1∨e.h<1∨e.w>32768∨e.h>32768∨(e.p.length:Int)≠e.w*e.h then(25,fr.f) else
  if e.p.any (fun v=> !pixelB v)=true then(25,fr.f) else if e.x< -32768∨e.x>32768∨e.y< -32768∨e.y>32768 then(31,fr.f) else(0,{fr.f with p:=paintP e fr.f.w fr.f.p}))=x:=fun x=>by
  unfold paintF;rw[if_neg (fun h=>h hk)]
 refine⟨_,hs6.get 0 rfl (j:=10) rfl,br_dec (fun c=>bad (v:=25) ((hF1 _).2 (if_pos (.inl c))) (by decide) hs6) fun c1=>?_⟩
 refine⟨_,hs6.get 0 rfl (j:=11) rfl,br_dec (fun c=>bad (v:=25) ((hF1 _).2 (if_pos (.inr (.inl c)))) (by decide) hs6) fun c2=>?_⟩
 refine⟨_,hs6.get 0 rfl (j:=10) rfl,br_dec (fun c=>bad (v:=25) ((hF1 _).2 (if_pos (.inr (.inr (.inl c))))) (by decide) hs6) fun c3=>?_⟩
 refine⟨_,hs6.get 0 rfl (j:=11) rfl,br_dec (fun c=>bad (v:=25) ((hF1 _).2 (if_pos (.inr (.inr (.inr (.inl c)))))) (by decide) hs6) fun c4=>?_⟩
 have c1: ¬e.w<1:=c1
 have c2: ¬e.h<1:=c2
 have c3: ¬e.w>32768:=c3
 have c4: ¬e.h>32768:=c4
 have hwh:IntKind.wrap .i64 (e.w*e.h)=e.w*e.h:=wrap_area (by omega) (by omega) (by omega) (by omega)
 have hbd:=mul_bd (x:=e.w) (y:=e.h) (A:=32768) (B:=32768) (by omega) (by omega)
 refine⟨_,_,_,hs6.get 0 rfl (j:=12) rfl,_,hs6.get 0 rfl (j:=10) rfl,_,hs6.get 0 rfl (j:=11) rfl,?_⟩
 rw[hwh]
 refine br_ne (fun c=>bad (v:=25) ((hF1 _).2 (if_pos (.inr (.inr (.inr (.inr (by rw[hplen];exact c))))))) (by decide) hs6) fun c5=>hJ _ ?_
 have hF2: ∀x,paintF e fr.f=x↔(if e.p.any (fun v=> !pixelB v)=true then(25,fr.f) else if e.x< -32768∨e.x>32768∨e.y< -32768∨e.y>32768 then(31,fr.f) else(0,{fr.f with p:=paintP e fr.f.w fr.f.p}))=x:=fun x=>by
  rw[hF1,if_neg (by rintro(h|h|h|h|h);exact c1 h;exact c2 h;exact c3 h;exact c4 h;rw[hplen] at h;exact h c5)]
 have c5:(s.P.l:Int)=e.w*e.h:=c5
 refine⟨_,_,_,hs6.get 0 rfl (j:=12) rfl,?_⟩
 refine c74 (hed.p.ext hs6.ext) (by omega) (T:=fun v=> !pixelB v) (fun v _ _ hK=>c75 hK) fun H13 he13=>⟨_,rfl,?_⟩
 have hs13:=hs6.step he13
 refine br_i (fun ht=>bad (v:=25) ((hF2 _).2 (if_pos ht)) (by decide) hs13) fun ht=>?_
 have hF3: ∀x,paintF e fr.f=x↔(if e.x< -32768∨e.x>32768∨e.y< -32768∨e.y>32768 then(31,fr.f) else(0,{fr.f with p:=paintP e fr.f.w fr.f.p}))=x:=fun x=>by
  rw[hF2,if_neg (by rw[ht];exact Bool.false_ne_true)]
 intro J15 hJ15
 refine⟨_,hs13.get 0 rfl (j:=8) rfl,br_dec (fun c=>bad (v:=31) ((hF3 _).2 (if_pos (.inl c))) (by decide) hs13) fun d1=>?_⟩
 refine⟨_,hs13.get 0 rfl (j:=8) rfl,br_dec (fun c=>bad (v:=31) ((hF3 _).2 (if_pos (.inr (.inl c)))) (by decide) hs13) fun d2=>?_⟩
 refine⟨_,hs13.get 0 rfl (j:=9) rfl,br_dec (fun c=>bad (v:=31) ((hF3 _).2 (if_pos (.inr (.inr (.inl c))))) (by decide) hs13) fun d3=>?_⟩
 refine⟨_,hs13.get 0 rfl (j:=9) rfl,br_dec (fun c=>bad (v:=31) ((hF3 _).2 (if_pos (.inr (.inr (.inr c))))) (by decide) hs13) fun d4=>hJ15 _ ?_⟩
 have d1: ¬e.x< -32768:=d1
 have d2: ¬e.x>32768:=d2
 have d3: ¬e.y< -32768:=d3
 have d4: ¬e.y>32768:=d4
 have hF4:paintF e fr.f=(0,{fr.f with p:=paintP e fr.f.w fr.f.p}):=(hF3 _).2 (if_neg (by omega))
 refine⟨_,_,_,hs13.get 0 rfl (j:=12) rfl,?_⟩
 intro X hX
 obtain⟨hsz,hpl⟩:=hras (Fr.lay fr) (u.map Fr.lay) (layKs ks') hl hk
 have hsz:sizedB fr.f.w fr.f.h=true:=hsz
 have hpl:(fr.f.p.length:Int)=fr.f.w*fr.f.h:=hpl
 obtain⟨q1,q2,q3,q4,q5⟩:=of_decide_eq_true hsz
 have hPl:fr.P.l=fr.f.p.length:=by have:=(hs13.fs 2 rfl).len;rw[ints_len] at this;omega
 have go: ∀k,k≤e.p.length→ ∀H1,St H0 H1 (.cell b2 (workL b d e s).toArray 100::(openR ⟨fr.hdr,fr.pre,{fr.f with p:=paintTo e fr.f.w fr.f.p (k:Nat)},fr.P,fr.M,fr.A,fr.post⟩ (u++[rootFr b]) K' ks'++σ))→X [.int .i64 (k:Nat)] H1:=by
  refine upto fun k hk2 ih H1 hs1=>hX _ _ (br_dec (fun hlt=>?_) fun hge=>?_)
  ·have hk':k<e.p.length:=by omega
   intro J21 hJ21
   obtain⟨pa,hpa,hpc⟩:=(hed.p.ext hs1.ext).get k _ (ints_get (List.getElem?_eq_getElem hk'))
   have hpk:e.p.getD k 0=e.p[k]:=by rw[List.getD_eq_getElem?_getD,List.getElem?_eq_getElem hk'];rfl
   have next: ∀H2,St H0 H2 (.cell b2 (workL b d e s).toArray 100::(openR ⟨fr.hdr,fr.pre,{fr.f with p:=paintTo e fr.f.w fr.f.p ((k:Nat)+1)},fr.P,fr.M,fr.A,fr.post⟩ (u++[rootFr b]) K' ks'++σ))→J21 [] H2:=fun H2 hs2=>by
    refine hJ21 _ ?_
    rw[wrap_id (by omega) (by omega)]
    exact ih hk' H2 hs2
   refine⟨pa,hpa,by omega,hlt,e.p[k],by rw[show Int.toNat (k:Int)*1=k from Nat.mul_one k];exact hpc,_,hs1.get 0 rfl (j:=8) rfl,_,hs1.get 0 rfl (j:=10) rfl,by show e.w≠0;omega,_,hs1.get 0 rfl (j:=9) rfl,_,hs1.get 0 rfl (j:=10) rfl,by show e.w≠0;omega,?_⟩
   have m0:=Int.emod_nonneg (k:Int) (show e.w≠0 by omega)
   have m1:=Int.emod_lt_of_pos (k:Int) (show 0<e.w by omega)
   have m2:0≤(k:Int)/e.w:=Int.ediv_nonneg (by omega) (by omega)
   have m3:(k:Int)/e.w≤k:=Int.ediv_le_self _ (by omega)
   rw[Int.tmod_eq_emod_of_nonneg (by omega),Int.tdiv_eq_ediv_of_nonneg (by omega)]
   rw[wrap_id (n:=e.x+(k:Int)%e.w) (by omega) (by omega),wrap_id (n:=(k:Int)/e.w) (by omega) (by omega),wrap_id (n:=e.y+(k:Int)/e.w) (by omega) (by omega)]
   have hpl':(fr.f.p.length:Int)=fr.f.w*fr.f.h:=hpl
   have out: ¬(0≤e.x+(k:Int)%e.w∧e.x+(k:Int)%e.w<fr.f.w∧0≤e.y+(k:Int)/e.w∧e.y+(k:Int)/e.w<fr.f.h)→J21 [] H1:=fun h=>by
    refine next H1 ?_
    have:=paintTo_out (e:=e) (p:=fr.f.p) (by omega) q1 hpl' h
    rw[←this];exact hs1
   refine br_dec (fun g1=>⟨a,rfl,fr.f.w,hs1.elCell 1 rfl (cellsKs_len fr.pre) (j:=5) rfl ha,br_dec (fun g2=>br_dec (fun g3=>⟨a,rfl,fr.f.h,hs1.elCell 1 rfl (cellsKs_len fr.pre) (j:=6) rfl ha,br_dec (fun g4=>?_) fun g4=>out (by omega)⟩) fun g3=>out (by omega)) fun g2=>out (by omega)⟩) fun g1=>out (by omega)
   refine⟨a,rfl,_,_,_,hs1.elCell 1 rfl (cellsKs_len fr.pre) (j:=7) rfl ha,a,rfl,_,hs1.elCell 1 rfl (cellsKs_len fr.pre) (j:=5) rfl ha,?_⟩
   have r1:0≤(e.y+(k:Int)/e.w)*fr.f.w:=Int.mul_nonneg (by omega) (by omega)
   have r2:(e.y+(k:Int)/e.w)*fr.f.w≤(fr.f.h-1)*fr.f.w:=Int.mul_le_mul_of_nonneg_right (by omega) (by omega)
   have r3:(fr.f.h-1)*fr.f.w=fr.f.w*fr.f.h-fr.f.w:=by rw[Int.sub_mul,Int.mul_comm fr.f.h];omega
   show ∃a37:Addr,fr.P.p=some a37∧0≤(IntKind.wrap .i64 ((IntKind.wrap .i64 ((e.y+(k:Int)/e.w)*fr.f.w))+(e.x+(k:Int)%e.w)))∧(IntKind.wrap .i64 ((IntKind.wrap .i64 ((e.y+(k:Int)/e.w)*fr.f.w))+(e.x+(k:Int)%e.w)))<((fr.P.l:Nat):Int)∧stAt H1 (Addr.add a37 (Int.toNat (IntKind.wrap .i64 ((IntKind.wrap .i64 ((e.y+(k:Int)/e.w)*fr.f.w))+(e.x+(k:Int)%e.w)))*1)) [Value.int .i64 e.p[k]] fun H_38=>J21 [] H_38
   rw[wrap_id (n:=(e.y+(k:Int)/e.w)*fr.f.w) (by omega) (by omega),wrap_id (n:=(e.y+(k:Int)/e.w)*fr.f.w+(e.x+(k:Int)%e.w)) (by omega) (by omega)]
   obtain⟨q,hq⟩: ∃q:Nat,(q:Int)=(e.y+(k:Int)/e.w)*fr.f.w+(e.x+(k:Int)%e.w):=⟨((e.y+(k:Int)/e.w)*fr.f.w+(e.x+(k:Int)%e.w)).toNat,by omega⟩
   obtain⟨p1,p2⟩:=paintTo_in (e:=e) (p:=fr.f.p) (k:=k) (q:=q) (by omega) q1 hpl' (by omega) g1 g2 g3 g4 hq
   rw[←hq]
   obtain⟨blk,hblk⟩:=hs1.slSome 2 rfl (j:=q) (by rw[ints_len];show q<(paintTo e fr.f.w fr.f.p k).length;rw[paintTo_len];exact p1)
   have hblk:fr.P.p=some ⟨blk,0,none⟩:=hblk
   refine⟨⟨blk,0,none⟩,hblk,by omega,by omega,?_⟩
   rw[show Int.toNat (q:Int)*1=q from Nat.mul_one q,add_none,Nat.zero_add]
   have hs1':=hs1
   have hsl:(.cell b2 (workL b d e s).toArray 100::(openR ⟨fr.hdr,fr.pre,{fr.f with p:=paintTo e fr.f.w fr.f.p (k:Nat)},fr.P,fr.M,fr.A,fr.post⟩ (u++[rootFr b]) K' ks'++σ):List Rs)[2]?=some (.sl (some ⟨blk,0,none⟩) fr.P.l fr.P.c 3 1 (ints (paintTo e fr.f.w fr.f.p (k:Nat)))):=by rw[←hblk];rfl
   refine hs1.slPut 2 hsl (by rw[ints_len,paintTo_len];exact p1) rfl fun H2 hs2=>next H2 ?_
   rw[ints_set,←hpk,p2,←hblk] at hs2
   exact hs2
  ·have:k=e.p.length:=by omega
   subst this
   have hall:=paintTo_all (e:=e) (W:=fr.f.w) (p:=fr.f.p) (k:=(e.p.length:Nat)) (by omega)
   rw[hall] at hs1
   exact hR.done hl hF4 hs1.tail
 have h0:=go 0 (Nat.zero_le _) H13 (by
  have:=paintTo_zero e fr.f.w fr.f.p
  rw[show((0:Nat):Int)=0 from rfl,this]
  exact hs13)
 exact h0
end Go.Proofs
namespace Go.Sh
open Ieee
def sg(s:Bool)(m:Nat):Int:=if s then-(m:Int) else m
theorem signed_eq(s:Bool)(m u:Nat):signed s m u=sg s m*2^u:=by
 unfold signed sg
 rw[Nat.shiftLeft_eq]
 cases s<;>simp[Int.neg_mul]
theorem sg_not(s:Bool)(m:Nat):sg (!s) m= -sg s m:=by cases s<;>simp[sg]
theorem sg_xor(s t:Bool)(m n:Nat):sg (s ^^ t) (m*n)=sg s m*sg t n:=by cases s<;>cases t<;>simp[sg,Int.neg_mul,Int.mul_neg]
theorem sg_abs(x:Int):sg (decide (x<0)) x.natAbs=x:=by unfold sg;split<;>simp_all<;>omega
theorem natAbs_sg(s:Bool)(m:Nat):(sg s m).natAbs=m:=by cases s<;>simp[sg]
def nv(s:Bool)(m:Nat)(e n:Int):Prop:= ∃k:Nat,0≤e+k∧sg s m*2^(e+k).toNat=n*2^k
theorem p2(a b:Nat):(2:Int)^(a+b)=2^a*2^b:=Int.pow_add 2 a b
theorem nv.up{s:Bool}{m:Nat}{e n:Int}(h:nv s m e n): ∃k:Nat,∀K:Nat,k≤K→0≤e+K∧sg s m*2^(e+K).toNat=n*2^K:=by
 obtain⟨k,h0,h1⟩:=h
 refine⟨k,fun K hK=>⟨by omega,?_⟩⟩
 rw[show(e+(K:Int)).toNat=(e+(k:Int)).toNat+(K-k) from by omega,p2,←Int.mul_assoc,h1,Int.mul_assoc,←p2,show k+(K-k)=K from by omega]
def FZ(b:Nat)(n:Int):Prop:= ∃s m e,double.read b= .number s m e∧nv s m e n
theorem log2_mul_pow{n:Nat}(h:n≠0)(k:Nat):(n*2^k).log2=n.log2+k:=by
 have h1:=Nat.log2_self_le h
 have h2:=Nat.lt_log2_self (n:=n)
 refine(Nat.log2_eq_iff (Nat.mul_ne_zero h (Nat.pos_iff_ne_zero.1 (Nat.two_pow_pos k)))).2 ⟨?_,?_⟩
 ·rw[Nat.pow_add];exact Nat.mul_le_mul_right _ h1
 ·rw[show n.log2+k+1=(n.log2+1)+k from by omega,Nat.pow_add];exact Nat.mul_lt_mul_of_pos_right h2 (Nat.two_pow_pos k)
theorem read_word{s:Bool}{q M:Nat}(hq:q≤52)(h1:4503599627370496≤M)(h2:M<9007199254740992):
 double.read (double.word s (min ((1074-q)*4503599627370496+M) 9218868437227405312))= .number s M (-(q:Int)):=by
 have e1:min ((1074-q)*4503599627370496+M) 9218868437227405312=(1074-q)*4503599627370496+M:=Nat.min_eq_left (by omega)
 rw[e1]
 have hb:double.binade=4503599627370496:=rfl
 have hw:double.signWeight=9223372036854775808:=rfl
 have hi:double.infRung=9218868437227405312:=rfl
 have hl:double.leastPlace= -1074:=rfl
 generalize hR:(1074-q)*4503599627370496+M=R
 have hR1:R<9223372036854775808:=by omega
 have hR2:R/4503599627370496=1075-q:=by omega
 have hR3:R%4503599627370496=M-4503599627370496:=by omega
 unfold Format.read Format.word
 simp only[hb,hw,hi,hl]
 have hs:((if s=true then 9223372036854775808+R else R)/9223372036854775808%2==1)=s:=by
  cases s
  ·simp only[Bool.false_eq_true,if_false];rw[Nat.div_eq_of_lt hR1];rfl
  ·simp only[if_true]
   rw[show(9223372036854775808+R)/9223372036854775808=1 from by omega];rfl
 have hm:(if s=true then 9223372036854775808+R else R)%9223372036854775808=R:=by
  cases s
  ·simp only[Bool.false_eq_true,if_false];exact Nat.mod_eq_of_lt hR1
  ·simp only[if_true];omega
 rw[hs,hm,if_neg (by omega),if_pos (by omega),hR2,hR3]
 have e2:4503599627370496+(M-4503599627370496)=M:=by omega
 have e3:(-1074:Int)+((1075-q-1:Nat):Int)= -(q:Int):=by omega
 rw[e2,e3]
theorem cut_exact(s:Bool)(N q d:Nat)(hN:N≠0)(hd:d≤(N*2^q*2^d).log2+2):Toward.even.cut s (N*2^q*2^d) d=N*2^q:=by
 unfold Toward.cut
 rw[Nat.min_eq_left hd]
 have hg:1 <<< d=2^d:=by rw[Nat.shiftLeft_eq,Nat.one_mul]
 have h1:N*2^q*2^d/2^d=N*2^q:=Nat.mul_div_cancel _ (Nat.two_pow_pos d)
 have h2:N*2^q*2^d%2^d=0:=Nat.mul_mod_left _ _
 have hp:=Nat.two_pow_pos d
 simp only[hg,h1,h2]
 have e1:decide (2^d<2*0)=false:=by simp
 have e2:(2^d==2*0)=false:=by
  rw[beq_eq_false_iff_ne];omega
 rw[e1,e2]
 rfl
theorem FZ.write{s:Bool}{m:Nat}{e n:Int}(h:nv s m e n)(h0: -9007199254740992<n)(h1:n<9007199254740992):FZ (double.write (.number s m e)) n:=by
 obtain⟨k,hk⟩:=h.up
 show FZ (double.nearest s m e) n
 unfold Format.nearest
 by_cases hm:m=0
 ·rw[if_pos hm]
  have hn:n=0:=by
   have:=(hk k (Nat.le_refl _)).2
   rw[hm] at this
   have hz:sg s 0=0:=by cases s<;>rfl
   rw[hz,Int.zero_mul] at this
   rcases Int.mul_eq_zero.1 this.symm with h|h
   ·exact h
   ·exact absurd h (Int.ne_of_gt (Int.pow_pos (by decide)))
  subst hn
  refine⟨s,0,-1074,?_,1074,by decide,?_⟩
  ·cases s<;>rfl
  ·rw[show sg s 0=0 from by cases s<;>rfl,Int.zero_mul,Int.zero_mul]
 ·rw[if_neg hm]
  -- N,the number without its sign
  have habs: ∀K:Nat,k≤K→m*2^(e+K).toNat=n.natAbs*2^K:=fun K hK=>by
   have:=congrArg Int.natAbs (hk K hK).2
   rw[Int.natAbs_mul,Int.natAbs_mul,natAbs_sg,Int.natAbs_pow,Int.natAbs_pow] at this
   exact this
  generalize hN:n.natAbs=N at habs
  have hN0:N≠0:=fun h0=>by
   have:=habs k (Nat.le_refl _)
   rw[h0,Nat.zero_mul] at this
   rcases Nat.mul_eq_zero.1 this with h|h
   ·exact hm h
   ·exact absurd h (Nat.pos_iff_ne_zero.1 (Nat.two_pow_pos _))
  have hNlt:N<2^53:=by
   have:(2:Nat)^53=9007199254740992:=rfl
   omega
  have hL:N.log2≤52:=by
   have:=(Nat.log2_lt hN0 (k:=53)).2 hNlt
   omega
  have hlog:e+(m.log2:Int)=N.log2:=by
   have h3:=congrArg Nat.log2 (habs k (Nat.le_refl _))
   rw[log2_mul_pow hm,log2_mul_pow hN0] at h3
   have:=(hk k (Nat.le_refl _)).1
   omega
  generalize hq:52-N.log2=q
  have hlast:max (e+(m.log2:Int)-(double.fractionBits:Nat)) double.leastPlace= -(q:Int):=by
   have a:(double.fractionBits:Int)=52:=rfl
   have b:double.leastPlace= -1074:=rfl
   rw[hlog,a,b,Int.max_def]
   split<;>omega
  dsimp only
  rw[hlast]
  have hl:double.leastPlace= -1074:=rfl
  have hb:double.binade=4503599627370496:=rfl
  have hi:double.infRung=9218868437227405312:=rfl
  rw[hl,hb,hi]
  have hM1:4503599627370496≤N*2^q:=by
   have h4:=Nat.mul_le_mul_right (2^q) (Nat.log2_self_le hN0)
   rw[←Nat.pow_add,show N.log2+q=52 from by omega] at h4
   exact h4
  have hM2:N*2^q<9007199254740992:=by
   have h4:=Nat.mul_lt_mul_of_pos_right (Nat.lt_log2_self (n:=N)) (Nat.two_pow_pos q)
   rw[←Nat.pow_add,show N.log2+1+q=53 from by omega] at h4
   exact h4
  have hkept:Toward.even.cut s (m <<< (e- -(q:Int)).toNat) (-(q:Int)-e).toNat=N*2^q:=by
   by_cases hc:0≤e+q
   ·rw[show(-(q:Int)-e).toNat=0 from by omega,Nat.shiftLeft_eq,show(e- -(q:Int)).toNat=(e+q).toNat from by omega]
    have h5:=habs (k+q) (by omega)
    rw[show(e+((k+q:Nat):Int)).toNat=(e+q).toNat+k from by omega,Nat.pow_add,←Nat.mul_assoc,Nat.add_comm k q,Nat.pow_add,←Nat.mul_assoc] at h5
    have h6:m*2^(e+q).toNat=N*2^q:=Nat.eq_of_mul_eq_mul_right (Nat.two_pow_pos k) h5
    have h7:=cut_exact s N q 0 hN0 (by omega)
    rw[Nat.pow_zero,Nat.mul_one] at h7
    rw[h6];exact h7
   ·generalize hd:(-(q:Int)-e).toNat=d
    rw[show(e- -(q:Int)).toNat=0 from by omega,Nat.shiftLeft_eq,Nat.pow_zero,Nat.mul_one]
    have h5:=habs (k+q+d) (by omega)
    rw[show(e+((k+q+d:Nat):Int)).toNat=k from by omega,show k+q+d=q+d+k from by omega,Nat.pow_add _ (q+d),←Nat.mul_assoc] at h5
    have h6:m=N*2^(q+d):=Nat.eq_of_mul_eq_mul_right (Nat.two_pow_pos k) h5
    rw[Nat.pow_add,←Nat.mul_assoc] at h6
    rw[h6]
    refine cut_exact s N q d hN0 ?_
    rw[←h6];omega
  rw[hkept,show(-(q:Int)- -1074).toNat=1074-q from by omega]
  refine⟨s,_,_,read_word (by omega) hM1 hM2,q,by omega,?_⟩
  rw[show(-(q:Int)+(q:Int)).toNat=0 from by omega,Int.pow_zero,Int.mul_one]
  have hs:sg s N=n:=by
   have h5:=(hk k (Nat.le_refl _)).2
   have h6:0<(2:Int)^(e+k).toNat:=Int.pow_pos (by decide)
   have h7:0<(2:Int)^k:=Int.pow_pos (by decide)
   cases s with
   |false=>
    have h8:sg false m=(m:Int):=rfl
    rw[h8] at h5
    have h9:(0:Int)<m*2^(e+k).toNat:=Int.mul_pos (by omega) h6
    have h10:0<n:=by
     by_cases h:0<n
     ·exact h
     ·have h:=Int.not_lt.1 h
      have:=Int.mul_le_mul_of_nonneg_right h (Int.le_of_lt h7);rw[Int.zero_mul] at this;omega
    show(N:Int)=n
    omega
   |true=>
    have h8:sg true m= -(m:Int):=rfl
    rw[h8] at h5
    have h9:(0:Int)<m*2^(e+k).toNat:=Int.mul_pos (by omega) h6
    rw[Int.neg_mul] at h5
    have h10:n<0:=by
     by_cases h:n<0
     ·exact h
     ·have h:=Int.not_lt.1 h
      have:=Int.mul_nonneg h (Int.le_of_lt h7);omega
    show-(N:Int)=n
    omega
  have:sg s (N*2^q)=sg s N*2^q:=by cases s<;>simp[sg,Int.neg_mul]
  rw[this,hs]
theorem FZ.ofInt{n:Int}(h0: -9007199254740992<n)(h1:n<9007199254740992):FZ (floatOfInt .f64 n) n:=
 FZ.write (s:=decide (n<0)) (m:=n.natAbs) (e:=0) ⟨0,by omega,by rw[sg_abs];simp⟩ h0 h1
theorem FZ.add{a b:Nat}{x y:Int}(ha:FZ a x)(hb:FZ b y)(h0: -9007199254740992<x+y)(h1:x+y<9007199254740992): ∃r,floatBits .add .f64 a b=some r∧FZ r (x+y):=by
 obtain⟨s,m,i,ra,hx⟩:=ha
 obtain⟨t,n,j,rb,hy⟩:=hb
 obtain⟨k1,h2⟩:=hx.up
 obtain⟨k2,h3⟩:=hy.up
 refine⟨_,by show((double.read a).sum (double.read b)).map double.write=_;rw[ra,rb];rfl,?_⟩
 refine FZ.write ⟨max k1 k2+i.natAbs+j.natAbs,by omega,?_⟩ h0 h1
 obtain⟨h4,h5⟩:=h2 (max k1 k2+i.natAbs+j.natAbs) (by omega)
 obtain⟨h6,h7⟩:=h3 (max k1 k2+i.natAbs+j.natAbs) (by omega)
 generalize max k1 k2+i.natAbs+j.natAbs=K at h4 h5 h6 h7
 rw[signed_eq,signed_eq]
 generalize ht:sg s m*2^(i-min i j).toNat+sg t n*2^(j-min i j).toNat=T
 have hsg:sg (if T=0 then s&&t else decide (T<0)) T.natAbs=T:=by
  by_cases hT:T=0
  ·rw[if_pos hT,hT];cases (s&&t)<;>rfl
  ·rw[if_neg hT];exact sg_abs T
 rw[hsg,←ht,Int.add_mul,Int.mul_assoc,Int.mul_assoc,←p2,←p2,show(i-min i j).toNat+(min i j+(K:Int)).toNat=(i+K).toNat from by omega,show(j-min i j).toNat+(min i j+(K:Int)).toNat=(j+K).toNat from by omega,h5,h7,Int.add_mul]
theorem FZ.sub{a b:Nat}{x y:Int}(ha:FZ a x)(hb:FZ b y)(h0: -9007199254740992<x-y)(h1:x-y<9007199254740992): ∃r,floatBits .sub .f64 a b=some r∧FZ r (x-y):=by
 obtain⟨s,m,i,ra,hx⟩:=ha
 obtain⟨t,n,j,rb,hy⟩:=hb
 obtain⟨k1,h2⟩:=hx.up
 obtain⟨k2,h3⟩:=hy.up
 refine⟨_,by show((double.read a).sum (double.read b).opposite).map double.write=_;rw[ra,rb];rfl,?_⟩
 refine FZ.write ⟨max k1 k2+i.natAbs+j.natAbs,by omega,?_⟩ h0 h1
 obtain⟨h4,h5⟩:=h2 (max k1 k2+i.natAbs+j.natAbs) (by omega)
 obtain⟨h6,h7⟩:=h3 (max k1 k2+i.natAbs+j.natAbs) (by omega)
 generalize max k1 k2+i.natAbs+j.natAbs=K at h4 h5 h6 h7
 rw[signed_eq,signed_eq]
 generalize ht:sg s m*2^(i-min i j).toNat+sg (!t) n*2^(j-min i j).toNat=T
 have hsg:sg (if T=0 then s&& !t else decide (T<0)) T.natAbs=T:=by
  by_cases hT:T=0
  ·rw[if_pos hT,hT];cases (s&& !t)<;>rfl
  ·rw[if_neg hT];exact sg_abs T
 rw[hsg,←ht,Int.add_mul,Int.mul_assoc,Int.mul_assoc,←p2,←p2,show(i-min i j).toNat+(min i j+(K:Int)).toNat=(i+K).toNat from by omega,show(j-min i j).toNat+(min i j+(K:Int)).toNat=(j+K).toNat from by omega,h5,sg_not,Int.neg_mul,h7,Int.sub_mul]
 omega
theorem FZ.mul{a b:Nat}{x y:Int}(ha:FZ a x)(hb:FZ b y)(h0: -9007199254740992<x*y)(h1:x*y<9007199254740992): ∃r,floatBits .mul .f64 a b=some r∧FZ r (x*y):=by
 obtain⟨s,m,i,ra,hx⟩:=ha
 obtain⟨t,n,j,rb,hy⟩:=hb
 obtain⟨k1,h2,h3⟩:=hx
 obtain⟨k2,h4,h5⟩:=hy
 refine⟨_,by show((double.read a).product (double.read b)).map double.write=_;rw[ra,rb];rfl,?_⟩
 refine FZ.write ⟨k1+k2,by omega,?_⟩ h0 h1
 rw[sg_xor,show(i+j+((k1+k2:Nat):Int)).toNat=(i+k1).toNat+(j+k2).toNat from by omega,p2,p2]
 have e: ∀p q r u:Int,p*q*(r*u)=(p*r)*(q*u):=fun p q r u=>by rw[Int.mul_assoc,Int.mul_assoc,Int.mul_left_comm q r u]
 rw[e,h3,h5,e]
theorem xor_top(b:Nat):(b ^^^ 9223372036854775808)%9223372036854775808=b%9223372036854775808∧((b ^^^ 9223372036854775808)/9223372036854775808%2==1)= !(b/9223372036854775808%2==1):=by
 have e:(9223372036854775808:Nat)=2^63:=rfl
 constructor
 ·rw[e,Nat.xor_mod_two_pow];simp
 ·have h1:(b ^^^ 2^63)/2^63=(b/2^63) ^^^ 1:=by rw[Nat.xor_div_two_pow]
  rw[e,h1]
  have h2:((b/2^63) ^^^ 1)%2=((b/2^63)%2 ^^^ 1):=by
   have:=Nat.xor_mod_two_pow (a:=b/2^63) (b:=1) (n:=1)
   simpa using this
  rw[h2]
  rcases Nat.mod_two_eq_zero_or_one (b/2^63) with h|h<;>rw[h]<;>rfl
theorem FZ.neg{a:Nat}{x:Int}(ha:FZ a x):FZ (Op.negFloat .f64 a) (-x):=by
 obtain⟨s,m,i,ra,k,h2,h3⟩:=ha
 refine⟨!s,m,i,?_,k,h2,by rw[sg_not,Int.neg_mul,h3,Int.neg_mul]⟩
 have he:Op.negFloat .f64 a=a ^^^ 9223372036854775808:=rfl
 rw[he]
 obtain⟨h4,h5⟩:=xor_top a
 have hw:double.signWeight=9223372036854775808:=rfl
 unfold Format.read at ra ⊢
 simp only[hw] at ra ⊢
 rw[h4,h5]
 generalize (a/9223372036854775808%2==1)=u at ra ⊢
 split at ra
 ·rename_i hc;rw[if_pos hc];cases ra;rfl
 ·rename_i hc;rw[if_neg hc]
  split at ra
  ·rename_i hc2;rw[if_pos hc2];cases ra;rfl
  ·split at ra<;>cases ra
theorem FZ.order{a b:Nat}{x y:Int}(ha:FZ a x)(hb:FZ b y):Ieee.Format.order (FloatKind.format .f64) a b=some (compare x y):=by
 obtain⟨s,m,i,ra,hx⟩:=ha
 obtain⟨t,n,j,rb,hy⟩:=hb
 obtain⟨k1,h2⟩:=hx.up
 obtain⟨k2,h3⟩:=hy.up
 show(double.read a).order (double.read b)=_
 rw[ra,rb]
 show some (compare (signed s m (i-min i j).toNat) (signed t n (j-min i j).toNat))=_
 rw[signed_eq,signed_eq]
 obtain⟨h4,h5⟩:=h2 (max k1 k2+i.natAbs+j.natAbs) (by omega)
 obtain⟨h6,h7⟩:=h3 (max k1 k2+i.natAbs+j.natAbs) (by omega)
 generalize hK:max k1 k2+i.natAbs+j.natAbs=K at h4 h5 h6 h7
 rw[show(i+(K:Int)).toNat=(i-min i j).toNat+(min i j+K).toNat from by omega,p2,←Int.mul_assoc] at h5
 rw[show(j+(K:Int)).toNat=(j-min i j).toNat+(min i j+K).toNat from by omega,p2,←Int.mul_assoc] at h7
 generalize sg s m*2^(i-min i j).toNat=A at h5
 generalize sg t n*2^(j-min i j).toNat=B at h7
 have hp:(0:Int)<2^(min i j+(K:Int)).toNat:=Int.pow_pos (by decide)
 have hq:(0:Int)<2^K:=Int.pow_pos (by decide)
 generalize (2:Int)^(min i j+(K:Int)).toNat=p at h5 h7 hp
 generalize (2:Int)^K=q at h5 h7 hq
 have key:(A<B↔x<y)∧(A=B↔x=y):=by
  have e1:A*p<B*p↔A<B:=Int.mul_lt_mul_right hp
  have e2:x*q<y*q↔x<y:=Int.mul_lt_mul_right hq
  have e3:A*p=B*p↔A=B:=Int.mul_eq_mul_right_iff (by omega)
  have e4:x*q=y*q↔x=y:=Int.mul_eq_mul_right_iff (by omega)
  rw[h5,h7] at e1 e3
  exact⟨e1.symm.trans e2,e3.symm.trans e4⟩
 congr 1
 show(if A<B then Ordering.lt else if A=B then .eq else .gt)=(if x<y then Ordering.lt else if x=y then .eq else .gt)
 by_cases h8:A<B
 ·rw[if_pos h8,if_pos (key.1.1 h8)]
 ·rw[if_neg h8,if_neg (fun h=>h8 (key.1.2 h))]
  by_cases h9:A=B
  ·rw[if_pos h9,if_pos (key.2.1 h9)]
  ·rw[if_neg h9,if_neg (fun h=>h9 (key.2.2 h))]
theorem FZ.gt{a b:Nat}{x y:Int}(ha:FZ a x)(hb:FZ b y):(Ieee.Format.order (FloatKind.format .f64) a b==some Ordering.gt)=decide (x>y):=by
 rw[ha.order hb]
 show((some (if x<y then Ordering.lt else if x=y then .eq else .gt))==some Ordering.gt)=_
 by_cases h8:x<y
 ·rw[if_pos h8];simp;omega
 ·rw[if_neg h8]
  by_cases h9:x=y
  ·rw[if_pos h9];simp;omega
  ·rw[if_neg h9];simp;omega
theorem FZ.zero:FZ 0 0:=⟨false,0,-1074,rfl,1074,by decide,by rw[show sg false 0=0 from rfl,Int.zero_mul,Int.zero_mul]⟩
theorem FZ.two:FZ 4611686018427387904 2:=⟨false,4503599627370496,-51,by rfl,51,by decide,by decide⟩
end Go.Sh
namespace Go.Proofs
open Go.Sh
variable {H0 H:Heap} {σ:List Rs} {R:Value→Heap→Prop}
abbrev Pt:=Int×Int
def ptB(p:Pt):Bool:=decide (-1048576≤p.1∧p.1≤1048576∧ -1048576≤p.2∧p.2≤1048576)
def shapeB(l:List Pt):Bool:=decide (3≤l.length∧l.length≤256)&&l.all ptB
def nMet(a b:Pt)(x y:Int):Int:=(2*b.1-2*a.1)*(2*y+1-2*a.2)+(2*a.1-(2*x+1))*(2*b.2-2*a.2)
def metB(a b:Pt)(x y:Int):Bool:=
 if decide (2*a.2>2*y+1)=decide (2*b.2>2*y+1) then false else if 2*b.2-2*a.2<0 then decide (nMet a b x y<0) else decide (nMet a b x y>0)
def xorN:Nat→(Nat→Bool)→Bool
 |0,_=>false
 |n+1,f=>xorN n f ^^ f n
theorem xorN_front(f:Nat→Bool): ∀n,xorN (n+1) f=(f 0 ^^ xorN n fun i=>f (i+1))
 |0=>by simp[xorN]
 |n+1=>by rw[xorN,xorN_front f n,xorN,Bool.xor_assoc]
theorem xorN_congr{f g:Nat→Bool}: ∀{n:Nat},(∀i,i<n→f i=g i)→xorN n f=xorN n g
 |0,_=>rfl
 |n+1,h=>by rw[xorN,xorN,xorN_congr fun i hi=>h i (by omega),h n (by omega)]
def nthP(l:List Pt)(i:Nat):Pt:=l.getD i (0,0)
def withinB(l:List Pt)(x y:Int):Bool:=xorN l.length fun i=>metB (nthP l i) (nthP l (if i+1=l.length then 0 else i+1)) x y
theorem within_prev(l:List Pt)(x y:Int):withinB l x y=xorN l.length fun k=>metB (nthP l (if k=0 then l.length-1 else k-1)) (nthP l k) x y:=by
 unfold withinB
 cases hl:l.length with
 |zero=>rfl
 |succ m=>
  rw[xorN,xorN_front,Bool.xor_comm]
  congr 1
  ·simp
  ·refine xorN_congr fun i hi=>?_
   rw[if_neg (by omega),if_neg (by omega),show i+1-1=i from by omega]
def ptV(p:Pt):Array Value:=#[.int .i64 p.1,.int .i64 p.2]
theorem IS2.row{H:Heap}{p:Option Addr}{l:Nat}{pts:List Pt}(h:IS2 H p l pts){i:Nat}(hi:i<pts.length): ∃a,p=some a∧rowIn H (a.add (i*2)) (ptV (nthP pts i)):=by
 have hx:=List.getElem?_eq_getElem hi
 have hn:nthP pts i=pts[i]:=by unfold nthP;rw[List.getD_eq_getElem?_getD,hx];rfl
 rw[hn]
 exact h.get i _ _ hx
theorem CZ.sub{a b c d:Nat}{x y u v:Int}(ha:FZ a x)(hb:FZ b y)(hc:FZ c u)(hd:FZ d v)(h1: -1000000000000≤x-u∧x-u≤1000000000000)(h2: -1000000000000≤y-v∧y-v≤1000000000000):
 ∃re im,cSumBits .sub .f64 a b c d=some (re,im)∧FZ re (x-u)∧FZ im (y-v):=by
 obtain⟨re,e1,f1⟩:=ha.sub hc (by omega) (by omega)
 obtain⟨im,e2,f2⟩:=hb.sub hd (by omega) (by omega)
 exact⟨re,im,by unfold cSumBits;rw[e1,e2];rfl,f1,f2⟩
theorem CZ.mul{a b c d:Nat}{x y u v:Int}(ha:FZ a x)(hb:FZ b y)(hc:FZ c u)(hd:FZ d v)(h1: -1000000000000000≤x*u∧x*u≤1000000000000000)(h2: -1000000000000000≤y*v∧y*v≤1000000000000000)
 (h3: -1000000000000000≤x*v∧x*v≤1000000000000000)(h4: -1000000000000000≤y*u∧y*u≤1000000000000000): ∃re im,cMulBits a b c d=some (re,im)∧FZ re (x*u-y*v)∧FZ im (x*v+y*u):=by
 obtain⟨p,e1,f1⟩:=ha.mul hc (by omega) (by omega)
 obtain⟨q,e2,f2⟩:=hb.mul hd (by omega) (by omega)
 obtain⟨r,e3,f3⟩:=ha.mul hd (by omega) (by omega)
 obtain⟨s,e4,f4⟩:=hb.mul hc (by omega) (by omega)
 obtain⟨re,e5,f5⟩:=f1.sub f2 (by omega) (by omega)
 obtain⟨im,e6,f6⟩:=f3.add f4 (by omega) (by omega)
 exact⟨re,im,by unfold cMulBits;simp only[e1,e2,e3,e4,e5,e6,Option.bind_some],f5,f6⟩
theorem c124{p:Pt}(hR: ∀H',Ext H H'→R (.complex .f64 (floatOfInt .f64 p.1) (floatOfInt .f64 p.2)) H'):CallsH Tryz.prog 124 #[.agg (ptV p)] H R:=by
 refine Tryz.s124 ?_
 unfold Tryz.S124
 exact(St.nil H).alcE fun b2 H3 he hs3=>⟨_,hs3.get 0 rfl (j:=0) rfl,_,hs3.get 0 rfl (j:=1) rfl,rfl,hR H3 he⟩
theorem c125{a b c d:Nat}{x y u v:Int}(ha:FZ a x)(hb:FZ b y)(hc:FZ c u)(hd:FZ d v)(hx: -10000000≤x∧x≤10000000)(hy: -10000000≤y∧y≤10000000)(hu: -10000000≤u∧u≤10000000)(hv: -10000000≤v∧v≤10000000)
 (hR: ∀r,FZ r (x*v+ -y*u)→R (.float .f64 r) H):CallsH Tryz.prog 125 #[.complex .f64 a b,.complex .f64 c d] H R:=by
 refine Tryz.s125 ?_
 unfold Tryz.S125
 have b1:=mul_bd hx hu
 have b2:=mul_bd (x:= -y) (y:=v) (A:=10000000) (B:=10000000) (by omega) hv
 have b3:=mul_bd hx hv
 have b4:=mul_bd (x:= -y) (y:=u) (A:=10000000) (B:=10000000) (by omega) hu
 obtain⟨re,im,e1,_,f2⟩:=CZ.mul ha hb.neg hc hd (by omega) (by omega) (by omega) (by omega)
 exact⟨rfl,rfl,rfl,re,im,e1,hR im f2⟩
theorem mul2{c d:Nat}{u v:Int}(hc:FZ c u)(hd:FZ d v)(hu: -10000000≤u∧u≤10000000)(hv: -10000000≤v∧v≤10000000): ∃re im,cMulBits (4611686018427387904:Nat) (0:Nat) c d=some (re,im)∧FZ re (2*u)∧FZ im (2*v):=by
 obtain⟨re,im,e1,f1,f2⟩:=CZ.mul FZ.two FZ.zero hc hd (by omega) (by omega) (by omega) (by omega)
 rw[Int.zero_mul,Int.sub_zero] at f1
 rw[Int.zero_mul,Int.add_zero] at f2
 exact⟨re,im,e1,f1,f2⟩
theorem met_prog(a b:Pt)(x y:Int):metB a b x y=if decide (2*a.2>2*y+1)=decide (2*b.2>2*y+1) then false else
 if 2*b.2>2*y+1 then decide ((2*b.1-2*a.1)*(2*y+1-2*a.2)+ -(2*b.2-2*a.2)*(2*x+1-2*a.1)>0) else decide ((2*a.1-2*b.1)*(2*y+1-2*b.2)+ -(2*a.2-2*b.2)*(2*x+1-2*b.1)>0):=by
 unfold metB nMet
 split
 ·rfl
 ·rename_i hne
  have hne': ¬((2*a.2>2*y+1)↔(2*b.2>2*y+1)):=fun h=>hne (decide_eq_decide.2 h)
  obtain⟨ax,ay⟩:=a
  obtain⟨bx,by_⟩:=b
  simp only at hne' ⊢
  by_cases hb:2*by_>2*y+1
  ·rw[if_pos hb,if_neg (by omega)]
   refine decide_eq_decide.2 ?_
   have e:(2*bx-2*ax)*(2*y+1-2*ay)+(2*ax-(2*x+1))*(2*by_-2*ay)=(2*bx-2*ax)*(2*y+1-2*ay)+ -(2*by_-2*ay)*(2*x+1-2*ax):=by
    congr 1
    rw[show(2*ax-(2*x+1))= -(2*x+1-2*ax) from by omega,Int.neg_mul,Int.neg_mul,Int.mul_comm]
   rw[e]
  ·rw[if_neg hb,if_pos (by omega)]
   refine decide_eq_decide.2 ?_
   have e:(2*bx-2*ax)*(2*y+1-2*ay)+(2*ax-(2*x+1))*(2*by_-2*ay)= -((2*ax-2*bx)*(2*y+1-2*by_)+ -(2*ay-2*by_)*(2*x+1-2*bx)):=by
    generalize hm:2*x+1=m
    generalize hn:2*y+1=n
    generalize 2*ax=p
    generalize 2*bx=q
    generalize 2*ay=r
    generalize 2*by_=t
    rw[Int.neg_mul]
    simp only[Int.sub_mul,Int.mul_sub]
    rw[Int.mul_comm m t,Int.mul_comm m r,Int.mul_comm p t,Int.mul_comm p r,Int.mul_comm q r,Int.mul_comm q t]
    omega
   rw[e];omega
theorem pt_bd{l:List Pt}(h:l.all ptB=true)(i:Nat):(-1048576≤(nthP l i).1∧(nthP l i).1≤1048576)∧(-1048576≤(nthP l i).2∧(nthP l i).2≤1048576):=by
 by_cases hi:i<l.length
 ·have hn:nthP l i=l[i]:=by unfold nthP;rw[List.getD_eq_getElem?_getD,List.getElem?_eq_getElem hi];rfl
  have:=of_decide_eq_true (List.all_eq_true.1 h _ (List.getElem_mem hi))
  rw[hn]
  exact⟨⟨this.1,this.2.1⟩,this.2.2⟩
 ·have hn:nthP l i=(0,0):=by unfold nthP;rw[List.getD_eq_getElem?_getD,List.getElem?_eq_none (by omega)];rfl
  rw[hn];decide
theorem c104{p:Option Addr}{n c:Nat}{l:List Pt}(h:IS2 H p n l)(hn:1≤n)(hn2:n≤1000000)(hb:l.all ptB=true){x y:Int}(hx:0≤x∧x≤100000)(hy:0≤y∧y≤100000)(hR: ∀H',Ext H H'→R (.bool (withinB l x y)) H'):
 CallsH Tryz.prog 104 #[.slice p n c,.int .i64 x,.int .i64 y] H R:=by
 refine Tryz.s104 ?_
 unfold Tryz.S104
 have hlen:=h.len
 rw[wrap_id (n:=(n:Int)-1) (by omega) (by omega),show Int.toNat ((n:Int)-1)=n-1 from by omega]
 have m1:IntKind.wrap .i64 (IntKind.wrap .i64 ((2:Int)*x)+(1:Int))=2*x+1:=by rw[wrap_id (n:=2*x) (by omega) (by omega),wrap_id (by omega) (by omega)]
 have m2:IntKind.wrap .i64 (IntKind.wrap .i64 ((2:Int)*y)+(1:Int))=2*y+1:=by rw[wrap_id (n:=2*y) (by omega) (by omega),wrap_id (by omega) (by omega)]
 rw[m1,m2]
 have fmx:FZ (floatOfInt .f64 (2*x+1)) (2*x+1):=FZ.ofInt (by omega) (by omega)
 have fmy:FZ (floatOfInt .f64 (2*y+1)) (2*y+1):=FZ.ofInt (by omega) (by omega)
 obtain⟨a0,hp,hrow⟩:=h.row (i:=n-1) (by omega)
 refine⟨rfl,a0,hp,by omega,by omega,_,rfl,hrow,?_⟩
 refine(St.nil H).alc fun b6 H7 hs7=>⟨rfl,hs7.putAll 0 rfl rfl (by simp[ptV,Value.oneCell']) fun H8 hs8=>?_⟩
 intro X hX
 have go: ∀k,k≤n→ ∀H1,St H H1 [.cell b6 (ptV (nthP l (if k=0 then l.length-1 else k-1))) 86]→X [.bool (xorN k fun k=>metB (nthP l (if k=0 then l.length-1 else k-1)) (nthP l k) x y),.int .i64 (k:Nat)] H1:=by
  refine upto fun k hk ih H1 hs1=>hX _ _ _ (br_dec (fun hlt=>?_) fun hge=>?_)
  ·have hk':k<n:=by omega
   obtain⟨a1,hp1,hrow1⟩:=(h.ext hs1.ext).row (i:=k) (by omega)
   generalize hA:nthP l (if k=0 then l.length-1 else k-1)=A at hs1
   have hAb:=pt_bd hb (if k=0 then l.length-1 else k-1)
   rw[hA] at hAb
   have hBb:=pt_bd hb k
   have hxs:xorN (k+1) (fun k=>metB (nthP l (if k=0 then l.length-1 else k-1)) (nthP l k) x y)=((xorN k fun k=>metB (nthP l (if k=0 then l.length-1 else k-1)) (nthP l k) x y) ^^ metB A (nthP l k) x y):=by rw[xorN,hA]
   generalize hB:nthP l k=B at hrow1 hBb hxs
   generalize hO:(xorN k fun k=>metB (nthP l (if k=0 then l.length-1 else k-1)) (nthP l k) x y)=O at hxs
   refine⟨a1,hp1,by omega,hlt,_,rfl,hrow1,hs1.alc fun b15 H16 hs16=>⟨rfl,hs16.putAll 0 rfl rfl (by simp[ptV,Value.oneCell']) fun H17 hs17=>?_⟩⟩
   refine⟨_,rfl,rowIn_whole (hs17.block 1 rfl),_,rfl,rowIn_whole (hs17.block 0 rfl),?_⟩
   refine c124 (p:=A) fun H21 he21=>⟨_,_,rfl,.inl he21,rfl,rfl,?_⟩
   obtain⟨ar,ai,ea,far,fai⟩:=mul2 (FZ.ofInt (n:=A.1) (by omega) (by omega)) (FZ.ofInt (n:=A.2) (by omega) (by omega)) (by omega) (by omega)
   refine⟨ar,ai,ea,?_⟩
   refine c124 (p:=B) fun H26 he26=>⟨_,_,rfl,rfl,rfl,?_⟩
   obtain⟨br',bi,eb,fbr,fbi⟩:=mul2 (FZ.ofInt (n:=B.1) (by omega) (by omega)) (FZ.ofInt (n:=B.2) (by omega) (by omega)) (by omega) (by omega)
   refine⟨br',bi,eb,rfl,rfl,?_⟩
   have hs26:=(hs17.step he21).step he26
   -- what is left of a round
   have next: ∀(t:Bool),metB A B x y=t→ ∀H2,St H H2 (.cell b15 (ptV B) 86:: .cell b6 (ptV A) 86::[])→
    ∃v41:Array Value,v41.size=2∧rowIn H2 ⟨b15,0,none⟩ v41∧v41.size=2∧stAt H2 ⟨b6,0,none⟩ (Array.toList v41) fun H_42=>X [Value.bool (O ^^ t),Value.int .i64 (IntKind.wrap .i64 ((k:Int)+(1:Int)))] H_42:=fun t ht H2 hs2=>by
    refine⟨_,?_,rowIn_whole (hs2.block 0 rfl),?_,?_⟩
    ·rfl
    ·rfl
    refine hs2.putAll 1 rfl rfl (by simp[ptV,Value.oneCell']) fun H3 hs3=>?_
    rw[wrap_id (by omega) (by omega)]
    have:=ih hk' H3 (by
     rw[if_neg (by omega),show k+1-1=k from by omega,hB]
     exact hs3.tail)
    rw[hxs,ht] at this
    exact this
   rw[fai.gt fmy,fbi.gt fmy]
   -- the cross product of a and b,a the lower
   have cross: ∀(cr ci dr di:Nat) (C D:Pt),FZ cr (2*C.1)→FZ ci (2*C.2)→FZ dr (2*D.1)→FZ di (2*D.2)→(-1048576≤C.1∧C.1≤1048576)→(-1048576≤C.2∧C.2≤1048576)→(-1048576≤D.1∧D.1≤1048576)→(-1048576≤D.2∧D.2≤1048576)→
    metB A B x y=decide ((2*C.1-2*D.1)*(2*y+1-2*D.2)+ -(2*C.2-2*D.2)*(2*x+1-2*D.1)>0)→
    (FloatKind.f64=FloatKind.f64∧ ∃re34 im35:Nat,cSumBits .sub .f64 cr ci dr di=some (re34,im35)∧(FloatKind.f64=FloatKind.f64∧ ∃re36 im37:Nat,cSumBits .sub .f64 (floatOfInt .f64 (2*x+1)) (floatOfInt .f64 (2*y+1)) dr di=some (re36,im37)∧CallsH Tryz.prog 125 #[Value.complex .f64 re34 im35,Value.complex .f64 re36 im37] H26 fun r38 H_39=> ∃r40:Nat,r38=Value.float .f64 r40∧(FloatKind.f64=FloatKind.f64∧br (Ieee.Format.order (FloatKind.format .f64) r40 (0:Nat)==some Ordering.gt)
     (∃v41:Array Value,v41.size=2∧rowIn H_39 ⟨b15,0,none⟩ v41∧v41.size=2∧stAt H_39 ⟨b6,0,none⟩ (Array.toList v41) fun H_42=>X [Value.bool (!O),Value.int .i64 (IntKind.wrap .i64 ((k:Int)+(1:Int)))] H_42)
     (∃v43:Array Value,v43.size=2∧rowIn H_39 ⟨b15,0,none⟩ v43∧v43.size=2∧stAt H_39 ⟨b6,0,none⟩ (Array.toList v43) fun H_44=>X [Value.bool O,Value.int .i64 (IntKind.wrap .i64 ((k:Int)+(1:Int)))] H_44)))):=by
    intro cr ci dr di C D fcr fci fdr fdi hc1 hc2 hd1 hd2 hm
    obtain⟨r1,i1,e1,f1,f2⟩:=CZ.sub fcr fci fdr fdi (by omega) (by omega)
    obtain⟨r2,i2,e2,f3,f4⟩:=CZ.sub fmx fmy fdr fdi (by omega) (by omega)
    refine⟨rfl,r1,i1,e1,rfl,r2,i2,e2,?_⟩
    refine c125 f1 f2 f3 f4 (by omega) (by omega) (by omega) (by omega) fun r fr=>⟨r,rfl,rfl,?_⟩
    rw[fr.gt FZ.zero,←hm]
    refine br_i (fun ht=>?_) fun ht=>?_
    ·have:=next true ht H26 hs26
     rw[Bool.xor_true] at this
     exact this
    ·have:=next false ht H26 hs26
     rw[Bool.xor_false] at this
     exact this
   have hmp:=met_prog A B x y
   by_cases hab:decide (2*A.2>2*y+1)=decide (2*B.2>2*y+1)
   ·rw[if_pos hab] at hmp
    refine br_f (by rw[hab];simp) ?_
    have:=next false hmp H26 hs26
    rw[Bool.xor_false] at this
    exact this
   ·rw[if_neg hab] at hmp
    refine br_t (by simpa using hab) ?_
    intro J hJ
    refine br_dec (fun hB2=>?_) fun hB2=>?_
    ·rw[if_pos hB2] at hmp
     exact hJ _ _ _ _ _ (cross _ _ _ _ B A fbr fbi far fai hBb.1 hBb.2 hAb.1 hAb.2 hmp)
    ·rw[if_neg hB2] at hmp
     exact hJ _ _ _ _ _ (cross _ _ _ _ A B far fai fbr fbi hAb.1 hAb.2 hBb.1 hBb.2 hmp)
  ·have:k=n:=by omega
   subst this
   have:=hR H1 hs1.ext
   rw[within_prev,hlen] at this
   rw[hlen]
   exact this
 exact go 0 (Nat.zero_le _) H8 (by rw[if_pos rfl,hlen];exact hs8)
end Go.Proofs
namespace Go.Proofs
open Go.Sh
variable {H0 H:Heap} {σ:List Rs} {R:Value→Heap→Prop}
theorem c123{p:Pt}(hR: ∀H',Ext H H'→R (.bool (ptB p)) H'):CallsH Tryz.prog 123 #[.agg (ptV p)] H R:=by
 refine Tryz.s123 ?_
 unfold Tryz.S123
 refine(St.nil H).alcE fun b2 H3 he hs3=>?_
 have bad: ¬(-1048576≤p.1∧p.1≤1048576∧ -1048576≤p.2∧p.2≤1048576)→R (.bool false) H3:=fun h=>by
  have:=hR H3 he
  rw[show ptB p=false from decide_eq_false h] at this;exact this
 refine⟨_,hs3.get 0 rfl (j:=0) rfl,br_dec (fun h1=>⟨_,hs3.get 0 rfl (j:=0) rfl,br_dec (fun h2=>⟨_,hs3.get 0 rfl (j:=1) rfl,br_dec (fun h3=>⟨_,hs3.get 0 rfl (j:=1) rfl,?_⟩) fun h=>bad (by omega)⟩) fun h=>bad (by omega)⟩) fun h=>bad (by omega)⟩
 have:=hR H3 he
 rw[show ptB p=decide (p.2≤1048576) from decide_eq_decide.2 ⟨fun h=>h.2.2.2,fun h=>⟨h1,h2,h3,h⟩⟩] at this
 exact this
theorem IS2.nil(H:Heap):IS2 H none 0 []:=⟨rfl,fun i x y h=>by simp at h⟩
theorem nthP_eq{l:List Pt}{i:Nat}(h:i<l.length):nthP l i=l[i]:=by unfold nthP;rw[List.getD_eq_getElem?_getD,List.getElem?_eq_getElem h];rfl
theorem c103{p:Option Addr}{n c:Nat}{l:List Pt}(h:IS2 H p n l)(hn:n≤1000000000)(hR: ∀H',Ext H H'→R (.int .i64 (if shapeB l=true then 0 else 31)) H'):
 CallsH Tryz.prog 103 #[.slice p n c,.slice none 0 0] H R:=by
 refine Tryz.s103 ?_
 unfold Tryz.S103
 have hlen:=h.len
 have bad: ¬(shapeB l=true)→ ∀{H'},Ext H H'→R (.int .i64 31) H':=fun hb {H'} he=>by
  have:=hR H' he
  rw[if_neg hb] at this;exact this
 intro J hJ
 refine br_dec (fun h3=>bad (fun hh=>?_) (Ext.refl H)) fun h3=>br_dec (fun h4=>bad (fun hh=>?_) (Ext.refl H)) fun h4=>hJ _ ?_
 ·unfold shapeB at hh;rw[Bool.and_eq_true] at hh;have:=of_decide_eq_true hh.1;omega
 ·unfold shapeB at hh;rw[Bool.and_eq_true] at hh;have:=of_decide_eq_true hh.1;omega
 refine(St.nil H).alcE fun b5 H6 he6 hs6=>?_
 intro X hX
 have two: ∀H1,l.all ptB=true→St H H1 [.cell b5 #[Value.slice p n c,Value.slice none 0 0] 40]→X [.int .i64 2] H1:=fun H1 hall hs1=>by
  refine hX _ _ (br_f (by decide) ?_)
  have:=hR H1 hs1.ext
  rw[if_pos (by unfold shapeB;rw[Bool.and_eq_true];exact⟨decide_eq_true (by omega),hall⟩)] at this
  exact this
 have one: ∀H1,l.all ptB=true→St H H1 [.cell b5 #[Value.slice p n c,Value.slice none 0 0] 40]→X [.int .i64 1] H1:=fun H1 hall hs1=>by
  refine hX _ _ (br_t (by decide) ⟨_,rfl,by decide,by decide,_,_,_,hs1.get 0 rfl (j:=1) rfl,?_⟩)
  intro X2 hX2
  exact hX2 _ _ (br_f (by decide) (two H1 hall hs1))
 refine hX _ _ (br_t (by decide) ⟨_,rfl,by decide,by decide,_,_,_,hs6.get 0 rfl (j:=0) rfl,?_⟩)
 intro X2 hX2
 have go: ∀k,k≤n→ ∀H1,(l.take k).all ptB=true→St H H1 [.cell b5 #[Value.slice p n c,Value.slice none 0 0] 40]→X2 [.int .i64 (k:Nat)] H1:=by
  refine upto fun k hk ih H1 hall hs1=>hX2 _ _ (br_dec (fun hlt=>?_) fun hge=>?_)
  ·have hk':k<n:=by omega
   obtain⟨a1,hp1,hrow1⟩:=(h.ext hs1.ext).row (i:=k) (by omega)
   refine⟨a1,hp1,by omega,hlt,_,rfl,hrow1,hs1.alc fun b17 H18 hs18=>⟨rfl,hs18.putAll 0 rfl rfl (by simp[ptV,Value.oneCell']) fun H19 hs19=>?_⟩⟩
   refine⟨_,rfl,rowIn_whole (hs19.block 0 rfl),?_⟩
   refine c123 (p:=nthP l k) fun H22 he22=>⟨_,rfl,br_not (fun hb=>?_) fun hb=>?_⟩
   ·refine bad (fun hh=>?_) (hs19.ext.trans he22)
    unfold shapeB at hh;rw[Bool.and_eq_true] at hh
    have:=List.all_eq_true.1 hh.2 _ (List.getElem_mem (n:=k) (show k<l.length by omega))
    rw[nthP_eq (by omega),this] at hb;cases hb
   ·rw[wrap_id (by omega) (by omega)]
    refine ih hk' H22 ?_ ((hs19.tail).step he22)
    rw[take_succ (List.getElem?_eq_getElem (show k<l.length by omega)),List.all_append,hall,Bool.true_and]
    rw[nthP_eq (by omega)] at hb
    simp[hb]
  ·have:k=n:=by omega
   subst this
   rw[List.take_of_length_le (by omega)] at hall
   exact one H1 hall hs1
 exact go 0 (Nat.zero_le _) H6 rfl hs6
def maskL(w h:Int)(f:Int→Int→Bool):List Int:=(List.range (w*h).toNat).map fun(i:Nat)=>if f ((i:Int)%w) ((i:Int)/w)=true then 255 else 0
theorem reps_u8(n:Nat):(reps n (Array.toList #[Value.int .u8 0])).toArray.toList=kints .u8 (List.replicate n 0):=by
 show reps n [Value.int .u8 0]=_
 rw[reps_rep];simp[kints]
theorem c77{p:Option Addr}{n c:Nat}{l:List Pt}{w h:Int}(hl:IS2 H p n l)(hn:n≤1000000000)(hsz:sizedB w h=true)
 (h0:shapeB l=false→ ∀H',Ext H H'→R (.tuple #[.slice none 0 0,.int .i64 31]) H')
 (h1:shapeB l=true→ ∀(m:Sl3) H',St H H' [.sl m.p m.l m.c 5 1 (kints .u8 (maskL w h (withinB l)))]→R (.tuple #[.slice m.p m.l m.c,.int .i64 0]) H'):
 CallsH Tryz.prog 77 #[.slice p n c,.int .i64 w,.int .i64 h] H R:=by
 obtain⟨q1,q2,q3,q4,q5⟩:=of_decide_eq_true hsz
 have hwh:IntKind.wrap .i64 (w*h)=w*h:=wrap_area q1 q2 q3 q4
 have hpos:0≤w*h:=Int.mul_nonneg (by omega) (by omega)
 refine Tryz.s77 ?_
 unfold Tryz.S77
 rw[hwh]
 refine c103 hl hn fun H5 he5=>⟨_,rfl,?_⟩
 cases hsh:shapeB l with
 |false=>exact br_ne (fun _=>h0 hsh H5 he5) fun h=>absurd h (by decide)
 |true=>
  refine br_ne (fun h=>absurd rfl h) fun _=>?_
  intro J hJ
  refine br_n (by omega) (br_n (by omega) (br_n (by omega) (br_n (by omega) (br_n (by omega) (hJ _ ?_)))))
  refine⟨hpos,Int.le_refl _,by omega,by omega,?_⟩
  refine(St.of_ext he5).alc fun b9 H10 hs10=>?_
  intro X hX
  have hs10:=hs10.toSl 0 (l:=(w*h).toNat) (k:=1) (fs:=kints .u8 (List.replicate (w*h).toNat 0)) rfl (by simp[reps_length]) (reps_u8 _) (kints_one _ _)
  have hsb:=hsh
  unfold shapeB at hsb
  rw[Bool.and_eq_true] at hsb
  have hlen:=hl.len
  have hlb:=of_decide_eq_true hsb.1
  have hML:(maskL w h (withinB l)).length=(w*h).toNat:=by simp[maskL]
  have go: ∀k,k≤(w*h).toNat→ ∀H1,St H H1 [.sl (some ⟨b9,0,none⟩) (w*h).toNat (w*h).toNat 5 1 (kints .u8 (fillA (maskL w h (withinB l)) k))]→X [.int .i64 (k:Nat)] H1:=by
   refine upto fun k hk ih H1 hs1=>hX _ _ (br_dec (fun hlt=>?_) fun hge=>?_)
   ·have hk':k<(w*h).toNat:=by omega
    have m0:=Int.emod_nonneg (k:Int) (show w≠0 by omega)
    have m1:=Int.emod_lt_of_pos (k:Int) (show 0<w by omega)
    have m2:0≤(k:Int)/w:=Int.ediv_nonneg (by omega) (by omega)
    have m3:(k:Int)/w<h:=Int.ediv_lt_of_lt_mul (by omega) (by rw[Int.mul_comm];omega)
    rw[Int.tmod_eq_emod_of_nonneg (by omega),Int.tdiv_eq_ediv_of_nonneg (by omega),wrap_id (n:=(k:Int)/w) (by omega) (by omega)]
    have hget:(maskL w h (withinB l)).getD k 0=if withinB l ((k:Int)%w) ((k:Int)/w)=true then 255 else 0:=by unfold maskL;rw[tab_getD hk']
    refine⟨by omega,by omega,?_⟩
    refine c104 (hl.ext hs1.ext) (by omega) (by omega) hsb.2 (by omega) (by omega) fun H15 he15=>⟨_,rfl,br_i (fun ht=>?_) fun ht=>?_⟩
    ·refine⟨_,rfl,by omega,by omega,?_⟩
     rw[show Int.toNat (k:Int)*1=k from Nat.mul_one k,add_none,Nat.zero_add]
     refine(hs1.step he15).slPut 0 rfl (by rw[kints_len,fillA_len (by omega)];omega) rfl fun H18 hs18=>?_
     rw[wrap_id (by omega) (by omega)]
     refine ih hk' H18 ?_
     rw[kints_set] at hs18
     rw[←fillA_set (by omega),hget,if_pos ht]
     exact hs18
    ·rw[wrap_id (by omega) (by omega)]
     refine ih hk' H15 ?_
     rw[←fillA_set (by omega),hget,if_neg (by rw[ht];exact Bool.false_ne_true),fillA_set0 (by omega)]
     exact hs1.step he15
   ·have:k=(w*h).toNat:=by omega
    subst this
    have hfa:=fillA_all (maskL w h (withinB l))
    rw[hML] at hfa
    rw[hfa] at hs1
    exact h1 hsh ⟨some ⟨b9,0,none⟩,(w*h).toNat,(w*h).toNat⟩ H1 hs1
  refine go 0 (Nat.zero_le _) H10 ?_
  rw[fillA_zero,hML]
  exact hs10
def maskF(w h:Int)(e:Ed)(f:LayF):Int×LayF:=
 if e.n<0∨e.n>2 then(32,f) else if e.n=2 then(0,{f with mask:=[]}) else if shapeB e.shape=false then(31,f) else
 (0,{f with mask:=maskL w h fun x y=>withinB e.shape x y != (e.n==1)})
theorem c44{b d:Nat}{e:Ed}{s:EdS}{K K0:Sl3}{ks:List T}{w h next:Int}(hs:St H0 H (resRoot b K ks++(.cell d (docA w h next K0) 26::σ)))(hc:cntKs (layKs ks)≤1000000000)(hed:rdEd H0 e s)(hsl:s.S.l≤1000000000)(hsz:sizedB w h=true)(hR:Chg (maskF w h e) H0 (.cell d (docA w h next K0) 26::σ) R b ks e.id):
 CallsH Tryz.prog 44 #[.agg (workL b d e s).toArray] H R:=by
 refine Tryz.s44 ?_
 unfold Tryz.S44
 refine hs.alc fun b2 H3 hs3=>⟨_,rfl,rowIn_whole (hs3.block 0 rfl),?_⟩
 refine tgt hs3 (by omega) (fun hl H6 hs6=>⟨_,_,rfl,?_⟩) fun fr u K' ks' a H6 hl ha hs6=>⟨_,_,rfl,?_⟩
 ·intro J hJ
  exact br_ne (fun _=>hR.none hl hs6.tail.app.2) fun h=>absurd h (by decide)
 intro J hJ
 have bad: ∀{v:Int} {H':Heap},maskF w h e fr.f=(v,fr.f)→v≠0→St H0 H' (.cell b2 (workL b d e s).toArray 100::(openR fr (u++[rootFr b]) K' ks'++(.cell d (docA w h next K0) 26::σ)))→R (.int .i64 v) H':=fun hg hv hs=>hR.err hl hg hv hs.tail.app.2
 refine br_ne (fun h=>absurd rfl h) fun _=>?_
 refine⟨_,hs6.get 0 rfl (j:=6) rfl,br_dec (fun c=>bad (v:=32) (by unfold maskF;rw[if_pos (.inl c)]) (by decide) hs6) fun c1=>?_⟩
 refine⟨_,hs6.get 0 rfl (j:=6) rfl,br_dec (fun c=>bad (v:=32) (by unfold maskF;rw[if_pos (.inr c)]) (by decide) hs6) fun c2=>?_⟩
 have c1: ¬e.n<0:=c1
 have c2: ¬e.n>2:=c2
 refine⟨_,hs6.get 0 rfl (j:=6) rfl,br_eq (fun hn2=>⟨a,rfl,?_⟩) fun hn2=>hJ _ ?_⟩
 ·have hF:maskF w h e fr.f=(0,{fr.f with mask:=[]}):=by unfold maskF;rw[if_neg (by omega),if_pos hn2]
  refine hs6.elPut 1 rfl (cellsKs_len fr.pre) (j:=8) (Nat.le_of_ble_eq_true rfl) rfl ha fun H14 hs14=>?_
  refine hR.done hl (P:=fr.P) (M:= .nil) (A:=fr.A) (K':=K') (ks':=ks') hF ?_
  refine(((hs14.nilSl 5 1).perm (τ:= .cell b2 (workL b d e s).toArray 100:: .sl fr.M.p fr.M.l fr.M.c 5 1 (kints .u8 fr.f.mask)::(openR ⟨fr.hdr,fr.pre,{fr.f with mask:=[]},fr.P,.nil,fr.A,fr.post⟩ (u++[rootFr b]) K' ks'++(.cell d (docA w h next K0) 26::σ))) (permC fun _ x=>?_)).drop 2)
  show List.count x (.sl none 0 0 5 1 []:: .cell b2 (workL b d e s).toArray 100::((.sl fr.hdr.p fr.hdr.l fr.hdr.c 70 19 (cellsKs fr.pre++cellsL {fr.f with mask:=[]} fr.P.v Sl3.nil.v fr.A.v K'.v++cellsKs fr.post):: .sl fr.P.p fr.P.l fr.P.c 3 1 (ints fr.f.p):: .sl fr.M.p fr.M.l fr.M.c 5 1 (kints .u8 fr.f.mask):: .sl fr.A.p fr.A.l fr.A.c 3 1 (ints fr.f.params)::
   .sl K'.p K'.l K'.c 70 19 (cellsKs ks')::(resKs ks'++(resKs fr.pre++(resKs fr.post++resUp (u++[rootFr b]) fr.hdr))))++(.cell d (docA w h next K0) 26::σ)))=
   List.count x (.cell b2 (workL b d e s).toArray 100:: .sl fr.M.p fr.M.l fr.M.c 5 1 (kints .u8 fr.f.mask)::((.sl fr.hdr.p fr.hdr.l fr.hdr.c 70 19 (cellsKs fr.pre++cellsL {fr.f with mask:=[]} fr.P.v Sl3.nil.v fr.A.v K'.v++cellsKs fr.post):: .sl fr.P.p fr.P.l fr.P.c 3 1 (ints fr.f.p):: .sl none 0 0 5 1 []:: .sl fr.A.p fr.A.l fr.A.c 3 1 (ints fr.f.params):: .sl K'.p K'.l K'.c 70 19 (cellsKs ks')::(resKs ks'++(resKs fr.pre++(resKs fr.post++resUp (u++[rootFr b]) fr.hdr))))++(.cell d (docA w h next K0) 26::σ)))
  simp only[List.count_append,List.count_cons]
  ac_rfl
 ·have hn2:e.n≠2:=hn2
  have hF1: ∀x,maskF w h e fr.f=x↔(if shapeB e.shape=false then(31,fr.f) else(0,{fr.f with mask:=maskL w h fun x y=>withinB e.shape x y != (e.n==1)}))=x:=fun x=>by
   unfold maskF;rw[if_neg (by omega),if_neg hn2]
  have hsd: ∀{H':Heap} {τ:List Rs},St H0 H' (.cell b2 (workL b d e s).toArray 100::(τ++(.cell d (docA w h next K0) 26::σ)))→St H0 H' (.cell d (docA w h next K0) 26:: .cell b2 (workL b d e s).toArray 100::(τ++σ)):=fun hs=>
   hs.perm (permC fun _ x=>by simp only[List.count_append,List.count_cons];ac_rfl)
  have hd6:=hsd hs6
  refine⟨_,_,_,hs6.get 0 rfl (j:=13) rfl,_,hs6.get 0 rfl (j:=1) rfl,_,rfl,_,hd6.get 0 rfl (j:=0) rfl,_,hs6.get 0 rfl (j:=1) rfl,_,rfl,_,hd6.get 0 rfl (j:=1) rfl,?_⟩
  refine c77 (hed.shape.ext hs6.ext) hsl hsz (fun hsh H19 he19=>⟨_,_,_,_,rfl,br_ne (fun _=>?_) fun h=>absurd h (by decide)⟩) fun hsh m H19 hm19=>⟨_,_,_,_,rfl,br_ne (fun h=>absurd rfl h) fun _=>?_⟩
  ·exact bad (v:=31) ((hF1 _).2 (if_pos hsh)) (by decide) (hs6.step he19)
  ·have hs19:=hs6.call hm19
   intro J2 hJ2
   have fin: ∀H2,St H0 H2 ([.sl m.p m.l m.c 5 1 (kints .u8 (maskL w h fun x y=>withinB e.shape x y != (e.n==1)))]++(.cell b2 (workL b d e s).toArray 100::(openR fr (u++[rootFr b]) K' ks'++(.cell d (docA w h next K0) 26::σ))))→J2 [] H2:=fun H2 hs2=>by
    refine hJ2 _ ⟨a,rfl,?_⟩
    refine hs2.elPut 2 rfl (cellsKs_len fr.pre) (j:=8) (Nat.le_of_ble_eq_true rfl) rfl ha fun H14 hs14=>?_
    refine hR.done hl (P:=fr.P) (M:=m) (A:=fr.A) (K':=K') (ks':=ks') ((hF1 _).2 (if_neg (by rw[hsh];simp))) ?_
    generalize hmk:(maskL w h fun x y=>withinB e.shape x y != (e.n==1))=mk at hs14 ⊢
    refine((hs14.perm (τ:= .cell b2 (workL b d e s).toArray 100:: .sl fr.M.p fr.M.l fr.M.c 5 1 (kints .u8 fr.f.mask)::(openR ⟨fr.hdr,fr.pre,{fr.f with mask:=mk},fr.P,m,fr.A,fr.post⟩ (u++[rootFr b]) K' ks'++(.cell d (docA w h next K0) 26::σ))) (permC fun _ x=>?_)).drop 2)
    show List.count x (.sl m.p m.l m.c 5 1 (kints .u8 mk):: .cell b2 (workL b d e s).toArray 100::((.sl fr.hdr.p fr.hdr.l fr.hdr.c 70 19 (cellsKs fr.pre++cellsL {fr.f with mask:=mk} fr.P.v m.v fr.A.v K'.v++cellsKs fr.post):: .sl fr.P.p fr.P.l fr.P.c 3 1 (ints fr.f.p):: .sl fr.M.p fr.M.l fr.M.c 5 1 (kints .u8 fr.f.mask):: .sl fr.A.p fr.A.l fr.A.c 3 1 (ints fr.f.params)::
     .sl K'.p K'.l K'.c 70 19 (cellsKs ks')::(resKs ks'++(resKs fr.pre++(resKs fr.post++resUp (u++[rootFr b]) fr.hdr))))++(.cell d (docA w h next K0) 26::σ)))=
     List.count x (.cell b2 (workL b d e s).toArray 100:: .sl fr.M.p fr.M.l fr.M.c 5 1 (kints .u8 fr.f.mask)::((.sl fr.hdr.p fr.hdr.l fr.hdr.c 70 19 (cellsKs fr.pre++cellsL {fr.f with mask:=mk} fr.P.v m.v fr.A.v K'.v++cellsKs fr.post):: .sl fr.P.p fr.P.l fr.P.c 3 1 (ints fr.f.p):: .sl m.p m.l m.c 5 1 (kints .u8 mk):: .sl fr.A.p fr.A.l fr.A.c 3 1 (ints fr.f.params):: .sl K'.p K'.l K'.c 70 19 (cellsKs ks')::(resKs ks'++(resKs fr.pre++(resKs fr.post++resUp (u++[rootFr b]) fr.hdr))))++(.cell d (docA w h next K0) 26::σ)))
    simp only[List.count_append,List.count_cons]
    ac_rfl
   refine⟨_,hs19.get 1 rfl (j:=6) rfl,br_eq (fun hn1=>?_) fun hn1=>?_⟩
   ·have hn1:e.n=1:=hn1
    intro X hX
    have hML:(maskL w h (withinB e.shape)).length=(w*h).toNat:=by simp[maskL]
    have hml:m.l=(w*h).toNat:=by have:=(hs19.fs 0 rfl).len;rw[kints_len,hML] at this;omega
    obtain⟨q1,q2,q3,q4,q5⟩:=of_decide_eq_true hsz
    have hpos:0≤w*h:=Int.mul_nonneg (by omega) (by omega)
    -- turned up to k
    have go: ∀k,k≤(w*h).toNat→ ∀H2 (L:List Int),L.length=(w*h).toNat→(∀i,i<(w*h).toNat→L.getD i 0=if i<k then 255-(maskL w h (withinB e.shape)).getD i 0 else(maskL w h (withinB e.shape)).getD i 0)→
     St H0 H2 ([.sl m.p m.l m.c 5 1 (kints .u8 L)]++(.cell b2 (workL b d e s).toArray 100::(openR fr (u++[rootFr b]) K' ks'++(.cell d (docA w h next K0) 26::σ))))→X [.int .i64 (k:Nat)] H2:=by
     refine upto fun k hk ih H2 L hL hLv hs2=>hX _ _ (br_dec (fun hlt=>?_) fun hge=>?_)
     ·have hk':k<(w*h).toNat:=by omega
      obtain⟨blk,hblk⟩:=hs2.slSome 0 rfl (j:=k) (by rw[kints_len];omega)
      have hget:L[k]?=some (L.getD k 0):=getD_some L 0 (by omega)
      have hv:=hLv k hk'
      rw[if_neg (by omega)] at hv
      have hmv:(maskL w h (withinB e.shape)).getD k 0=0∨(maskL w h (withinB e.shape)).getD k 0=255:=by
       unfold maskL;rw[tab_getD hk'];split<;>simp
      have hb2:St H0 H2 ((.sl (some ⟨blk,0,none⟩) m.l m.c 5 1 (kints .u8 L))::(.cell b2 (workL b d e s).toArray 100::(openR fr (u++[rootFr b]) K' ks'++(.cell d (docA w h next K0) 26::σ)))):=by rw[←hblk];exact hs2
      refine IS.rd (i:=(k:Int)) (hs2.is 0 rfl) (by omega) (by omega) (x:=L.getD k 0) hget ⟨⟨blk,0,none⟩,hblk,by omega,hlt,?_⟩
      rw[show Int.toNat (k:Int)*1=k from Nat.mul_one k,add_none,Nat.zero_add,wrap_u8 (by omega) (by omega)]
      refine hb2.slPut 0 rfl (by rw[kints_len];omega) rfl fun H3 hs3=>?_
      rw[wrap_id (by omega) (by omega)]
      rw[kints_set] at hs3
      refine ih hk' H3 (L.set k (255-L.getD k 0)) (by rw[List.length_set];exact hL) (fun i hi=>?_) (by rw[hblk];exact hs3)
      rw[List.getD_eq_getElem?_getD,List.getElem?_set]
      by_cases hik:k=i
      ·subst hik
       rw[if_pos rfl,if_pos (by omega),if_pos (by omega),hv];rfl
      ·rw[if_neg hik,←List.getD_eq_getElem?_getD,hLv i hi]
       by_cases h1:i<k
       ·rw[if_pos h1,if_pos (by omega)]
       ·rw[if_neg h1,if_neg (by omega)]
     ·have:k=(w*h).toNat:=by omega
      subst this
      refine fin H2 ?_
      have:L=maskL w h fun x y=>withinB e.shape x y != (e.n==1):=by
       apply List.ext_getElem?
       intro i
       by_cases hi:i<(w*h).toNat
       ·rw[getD_some L 0 (by omega),hLv i hi,if_pos hi]
        unfold maskL
        rw[tab_getD hi,tab_get hi,hn1]
        have: ∀t:Bool,some (255-(if t=true then(255:Int) else 0))=some (if (t != ((1:Int)==1))=true then 255 else 0):=by intro t;cases t<;>rfl
        exact this _
       ·rw[List.getElem?_eq_none (by omega),List.getElem?_eq_none (by simp[maskL];omega)]
      rw[←this]
      exact hs2
    refine go 0 (Nat.zero_le _) H19 _ hML (fun i hi=>by rw[if_neg (Nat.not_lt_zero _)]) hs19
   ·have hn1:e.n≠1:=hn1
    refine fin H19 ?_
    have:maskL w h (withinB e.shape)=maskL w h fun x y=>withinB e.shape x y != (e.n==1):=by
     congr 1
     funext x y
     rw[show(e.n==1)=false from by simpa using hn1]
     simp
    rw[←this]
    exact hs19
end Go.Proofs
namespace Go.Proofs
open Go.Sh
variable {H0 H:Heap} {σ:List Rs} {R:Value→Heap→Prop}
def mostM(i:Nat):Int:=if 4≤i then 68719476736 else 16777216
def inM(m:M6)(i:Nat):Bool:=decide (-(mostM i)≤m.l.getD i 0∧m.l.getD i 0≤mostM i)
def rightM(m:M6):Bool:=(List.range 6).all (inM m)
theorem rightM_iff(m:M6):rightM m=true↔((-16777216≤m.a∧m.a≤16777216)∧(-16777216≤m.b∧m.b≤16777216)∧(-16777216≤m.c∧m.c≤16777216)∧(-16777216≤m.d∧m.d≤16777216)∧(-68719476736≤m.e∧m.e≤68719476736)∧(-68719476736≤m.f∧m.f≤68719476736)):=by
 have:rightM m=(inM m 0&&(inM m 1&&(inM m 2&&(inM m 3&&(inM m 4&&(inM m 5&&true)))))):=rfl
 rw[this]
 simp only[Bool.and_eq_true,inM,decide_eq_true_eq,and_true]
 exact Iff.rfl
def roundM(n m:Int):Int:=if m<0 then(2* -n+ -m)/(2* -m) else(2*n+m)/(2*m)
def nearM(n:Int):Int:=(n+32768)/65536
def backR(m:M6):M6:=⟨roundM (m.d*4294967296) (m.a*m.d-m.b*m.c),roundM (-m.b*4294967296) (m.a*m.d-m.b*m.c),roundM (-m.c*4294967296) (m.a*m.d-m.b*m.c),roundM (m.a*4294967296) (m.a*m.d-m.b*m.c),0,0⟩
def backS(m:M6):M6:={backR m with e:=nearM (-((backR m).a*m.e+(backR m).b*m.f)),f:=nearM (-((backR m).c*m.e+(backR m).d*m.f))}
def zeroM:M6:=⟨0,0,0,0,0,0⟩
def backM(m:M6):Int×M6:=
 if rightM m=false then(31,zeroM) else if m.a*m.d-m.b*m.c=0 then(33,zeroM) else if rightM (backR m)=false then(33,zeroM) else if rightM (backS m)=false then(33,zeroM) else(0,backS m)
theorem floor_t{n m:Int}(hm:0<m):n/m=if n.tmod m≠0∧n<0 then n.tdiv m-1 else n.tdiv m:=by
 rw[Int.tdiv_eq_ediv]
 have h1:n.tmod m=0↔m∣n:=⟨Int.dvd_of_tmod_eq_zero,Int.tmod_eq_zero_of_dvd⟩
 by_cases h:0≤n∨m∣n
 ·rw[if_pos h,if_neg (fun hh=>by rcases h with h|h;omega;exact hh.1 (h1.2 h))];omega
 ·have h2: ¬0≤n:=fun hh=>h (.inl hh)
  have h3: ¬m∣n:=fun hh=>h (.inr hh)
  rw[if_neg h,if_pos ⟨fun hh=>h3 (h1.1 hh),by omega⟩,Int.sign_eq_one_of_pos hm];omega
theorem tdiv_bd{n m B:Int}(hm:0<m)(hn: -B≤n∧n≤B): -B≤n.tdiv m∧n.tdiv m≤B:=by
 have h:=Int.natAbs_tdiv n m
 have h2:n.natAbs/m.natAbs≤n.natAbs:=Nat.div_le_self _ _
 have h3:(n.tdiv m).natAbs=n.natAbs/m.natAbs:=h
 omega
theorem c126{n m:Int}(hm:0<m)(hn: -4611686018427387904≤n∧n≤4611686018427387904)(hR:R (.int .i64 (n/m)) H):CallsH Tryz.prog 126 #[.int .i64 n,.int .i64 m] H R:=by
 refine Tryz.s126 ⟨by omega,?_⟩
 intro J hJ
 have hb:=tdiv_bd hm hn
 rw[wrap_id (n:=n.tdiv m) (by omega) (by omega),wrap_id (n:=n.tdiv m-1) (by omega) (by omega)]
 rw[floor_t hm] at hR
 refine⟨by omega,br_ne (fun h0=>?_) fun h0=>?_⟩
 ·rw[show decide (m<0)=false from decide_eq_false (by omega)]
  by_cases hn0:n<0
  ·rw[if_pos ⟨h0,hn0⟩] at hR
   exact br_t (by rw[decide_eq_true hn0];rfl) (hJ _ _ hR)
  ·rw[if_neg fun hh=>hn0 hh.2] at hR
   exact br_f (by rw[decide_eq_false hn0];rfl) (hJ _ _ hR)
 ·rw[if_neg fun hh=>hh.1 h0] at hR
  exact hJ _ _ hR
theorem c106{n m:Int}(hm:m≠0)(hm2: -2251799813685248≤m∧m≤2251799813685248)(hn: -144115188075855872≤n∧n≤144115188075855872)(hR:R (.int .i64 (roundM n m)) H):CallsH Tryz.prog 106 #[.int .i64 n,.int .i64 m] H R:=by
 refine Tryz.s106 ?_
 unfold Tryz.S106
 intro J hJ
 refine br_dec (fun h=>hJ _ _ _ ?_) fun h=>hJ _ _ _ ?_
 ·rw[wrap_id (n:=0-n) (by omega) (by omega),wrap_id (n:=0-m) (by omega) (by omega),wrap_id (n:=2*(0-n)) (by omega) (by omega),wrap_id (n:=2*(0-n)+(0-m)) (by omega) (by omega),wrap_id (n:=2*(0-m)) (by omega) (by omega)]
  refine c126 (by omega) (by omega) ⟨_,rfl,?_⟩
  unfold roundM at hR
  rw[if_pos h] at hR
  rw[Int.zero_sub,Int.zero_sub];exact hR
 ·rw[wrap_id (n:=2*n) (by omega) (by omega),wrap_id (n:=2*n+m) (by omega) (by omega),wrap_id (n:=2*m) (by omega) (by omega)]
  refine c126 (by omega) (by omega) ⟨_,rfl,?_⟩
  unfold roundM at hR
  rw[if_neg h] at hR
  exact hR
theorem c107{n:Int}(hn: -4611686018427387904≤n∧n≤4611686018427387904)(hR:R (.int .i64 (nearM n)) H):CallsH Tryz.prog 107 #[.int .i64 n] H R:=by
 refine Tryz.s107 ⟨by decide,?_⟩
 rw[wrap_id (by omega) (by omega),shr16']
 exact hR
theorem c105{m:M6}(hR: ∀H',Ext H H'→R (.bool (rightM m)) H'):CallsH Tryz.prog 105 #[.agg (ints m.l).toArray] H R:=by
 refine Tryz.s105 ?_
 unfold Tryz.S105
 refine(St.nil H).alcE fun b2 H3 he3 hs3=>⟨_,rfl,rowIn_whole (hs3.block 0 rfl),?_⟩
 intro X hX
 have go: ∀k,k≤6→(List.range k).all (inM m)=true→X [.int .i64 (k:Nat)] H3:=by
  refine upto fun k hk ih hall=>hX _ _ (br_dec (fun hlt=>?_) fun hge=>?_)
  ·have hk':k<6:=by omega
   have hget:(ints m.l).toArray[Int.toNat (k:Int)*1]?=some (.int .i64 (m.l.getD k 0)):=by
    rw[show Int.toNat (k:Int)*1=k from Nat.mul_one k,List.getElem?_toArray]
    exact ints_get (getD_some m.l 0 (show k<6 from hk'))
   refine⟨by omega,by omega,_,hget,?_⟩
   intro J hJ
   have main: ∀most,most=mostM k→J [.int .i64 most] H3:=fun most hmo=>by
    have hmr:0≤most∧most≤68719476736:=by rw[hmo];unfold mostM;split<;>omega
    refine hJ _ _ ?_
    rw[wrap_id (n:=0-most) (by omega) (by omega),Int.zero_sub]
    have bad: ¬(inM m k=true)→R (.bool false) H3:=fun hb=>by
     have:=hR H3 he3
     rw[show rightM m=false from by
      rw[Bool.eq_false_iff];intro hh
      exact hb (List.all_eq_true.1 hh k (List.mem_range.2 hk'))] at this
     exact this
    refine br_dec (fun h1=>bad fun hh=>?_) fun h1=>br_dec (fun h2=>bad fun hh=>?_) fun h2=>?_
    ·have:=of_decide_eq_true hh;rw[←hmo] at this;omega
    ·have:=of_decide_eq_true hh;rw[←hmo] at this;omega
    ·rw[wrap_id (by omega) (by omega)]
     refine ih hk' ?_
     rw[List.range_succ,List.all_append,hall,Bool.true_and,List.all_cons,List.all_nil,Bool.and_true]
     exact decide_eq_true (by rw[←hmo];omega)
   exact br_dec (fun h=>main _ (by unfold mostM;rw[if_pos (by omega)])) fun h=>main _ (by unfold mostM;rw[if_neg (by omega)])
  ·have:k=6:=by omega
   subst this
   have:=hR H3 he3
   rw[show rightM m=true from hall] at this
   exact this
 exact go 0 (by omega) rfl
theorem c84{n m:Int}(hm:0<m)(hm2:m≤4503599627370496)(hn: -4611686018427387904≤n∧n≤4611686018427387904)(hR:R (.int .i64 (n/m)) H):CallsH Tryz.prog 84 #[.int .i64 n,.int .i64 m] H R:=by
 refine Tryz.s84 ⟨by omega,?_⟩
 intro J hJ
 have e0:=Int.emod_nonneg n (show m≠0 by omega)
 have e1:=Int.emod_lt_of_pos n hm
 have e2:=Int.emod_add_mul_ediv n m
 have main: ∀r,r=n%m→J [.int .i64 r] H:=fun r hr=>by
  refine hJ _ _ ⟨by omega,?_⟩
  rw[wrap_id (n:=n-r) (by omega) (by omega)]
  have hd:(n-r).tdiv m=n/m:=by
   rw[hr,show n-n%m=m*(n/m) from by omega,Int.mul_tdiv_cancel_left _ (by omega)]
  have hb: -4611686018427387904≤n/m∧n/m≤4611686018427387904:=by
   have h1:=floor_t (n:=n) hm
   have h2:=tdiv_bd hm hn
   refine⟨?_,?_⟩
   ·refine(Int.le_ediv_iff_mul_le hm).2 ?_
    have:4611686018427387904*1≤4611686018427387904*m:=Int.mul_le_mul_of_nonneg_left (by omega) (by omega)
    rw[Int.neg_mul];omega
   ·rw[h1];split<;>omega
  rw[hd,wrap_id (by omega) (by omega)]
  exact hR
 have ht:n.tmod m=if 0≤n∨m∣n then n%m else n%m-m:=by
  rw[Int.tmod_eq_emod]
  by_cases h:0≤n∨m∣n
  ·rw[if_pos h,if_pos h];omega
  ·rw[if_neg h,if_neg h,Int.natAbs_of_nonneg (by omega)]
 refine br_dec (fun h=>?_) fun h=>?_
 ·rw[wrap_id (by omega) (by omega)]
  refine main _ ?_
  rw[ht] at h ⊢
  split at h
  ·omega
  ·rename_i hc;rw[if_neg hc];omega
 ·refine main _ ?_
  rw[ht] at h ⊢
  split at h
  ·rename_i hc;rw[if_pos hc]
  ·omega
theorem c94{n m:Int}(hm:m≠0)(hm2: -2251799813685248≤m∧m≤2251799813685248)(hn: -144115188075855872≤n∧n≤144115188075855872)(hR:R (.int .i64 (roundM n m)) H):CallsH Tryz.prog 94 #[.int .i64 n,.int .i64 m] H R:=by
 refine Tryz.s94 (br_dec (fun h=>?_) fun h=>?_)
 ·rw[wrap_id (n:= -2*n) (by omega) (by omega),wrap_id (n:= -2*n-m) (by omega) (by omega),wrap_id (n:= -2*m) (by omega) (by omega)]
  refine c84 (by omega) (by omega) (by omega) ⟨_,rfl,?_⟩
  unfold roundM at hR
  rw[if_pos h] at hR
  rw[show-2*n-m=2* -n+ -m from by omega,show-2*m=2* -m from by omega];exact hR
 ·rw[wrap_id (n:=2*n) (by omega) (by omega),wrap_id (n:=2*n+m) (by omega) (by omega),wrap_id (n:=2*m) (by omega) (by omega)]
  refine c84 (by omega) (by omega) (by omega) ⟨_,rfl,?_⟩
  unfold roundM at hR
  rw[if_neg h] at hR
  exact hR
theorem c95{n:Int}(hn: -2611686018427387904≤n∧n≤2611686018427387904)(hR:R (.int .i64 (nearM n)) H):CallsH Tryz.prog 95 #[.int .i64 n] H R:=by
 refine Tryz.s95 ?_
 unfold Tryz.S95
 rw[wrap_id (by omega) (by omega)]
 exact c84 (by decide) (by decide) (by omega) ⟨_,rfl,hR⟩
theorem c93{m:M6}(hR: ∀H',Ext H H'→R (.bool (rightM m)) H'):CallsH Tryz.prog 93 #[.agg (ints m.l).toArray] H R:=by
 refine Tryz.s93 ?_
 unfold Tryz.S93
 refine(St.nil H).alcE fun b2 H3 he3 hs3=>?_
 have bad: ∀k,k<6→ ¬(inM m k=true)→R (.bool false) H3:=fun k hk hb=>by
  have:=hR H3 he3
  rw[show rightM m=false from by
   rw[Bool.eq_false_iff];intro hh
   exact hb (List.all_eq_true.1 hh k (List.mem_range.2 hk))] at this
  exact this
 have hget: ∀k:Nat,k<6→Sh.cell H3 (Addr.add ⟨b2,0,none⟩ (Int.toNat (k:Int)*1))=some (.int .i64 (m.l.getD k 0)):=fun k hk=>by
  rw[show Int.toNat (k:Int)*1=k from Nat.mul_one k,add_none,Nat.zero_add]
  exact hs3.rdA 0 rfl (getD_some m.l 0 (show k<6 from hk))
 intro X hX
 have more: ∀k,k<6→(List.range k).all (inM m)=true→(-(mostM k)≤m.l.getD k 0∧m.l.getD k 0≤mostM k)→(List.range (k+1)).all (inM m)=true:=fun k hk hall hb=>by
  rw[List.range_succ,List.all_append,hall,Bool.true_and,List.all_cons,List.all_nil,Bool.and_true]
  exact decide_eq_true hb
 have two:(List.range 4).all (inM m)=true→ ∀(X9:List Value→Heap→Prop),(∀i10:Int,∀H_11:Heap,(br (decide ((i10:Int)<(6:Int))) (0≤i10∧i10<((6:Nat):Int)∧ ∃v12:Int,cell H_11 (Addr.add ⟨b2,0,none⟩ (Int.toNat i10*1))=some (Value.int .i64 v12)∧br (decide ((v12:Int)<(-68719476736:Int))) (R (Value.bool false) H_11) (0≤i10∧i10<((6:Nat):Int)∧ ∃v13:Int,cell H_11 (Addr.add ⟨b2,0,none⟩ (Int.toNat i10*1))=some (Value.int .i64 v13)∧br (decide ((v13:Int)>(68719476736:Int))) (R (Value.bool false) H_11) (X9 [Value.int .i64 (IntKind.wrap .i64 (i10+(1:Int)))] H_11))) (R (Value.bool true) H_11))→X9 [Value.int .i64 i10] H_11)→X9 [Value.int .i64 (4:Int)] H3:=by
  intro h4 X9 hX9
  have go9: ∀k,k≤6→4≤k→(List.range k).all (inM m)=true→X9 [.int .i64 (k:Nat)] H3:=by
   refine upto fun k hk ih h4 hall=>hX9 _ _ (br_dec (fun hlt=>?_) fun hge=>?_)
   ·have hk':k<6:=by omega
    have hmo:mostM k=68719476736:=by unfold mostM;rw[if_pos h4]
    refine⟨by omega,by omega,_,hget k hk',br_dec (fun h1=>bad k hk' fun hh=>?_) fun h1=>⟨by omega,by omega,_,hget k hk',br_dec (fun h2=>bad k hk' fun hh=>?_) fun h2=>?_⟩⟩
    ·have:=of_decide_eq_true hh;rw[hmo] at this;omega
    ·have:=of_decide_eq_true hh;rw[hmo] at this;omega
    ·rw[wrap_id (by omega) (by omega)]
     exact ih hk' (by omega) (more k hk' hall (by rw[hmo];omega))
   ·have:k=6:=by omega
    subst this
    have:=hR H3 he3
    rw[show rightM m=true from hall] at this
    exact this
  exact go9 4 (by omega) (Nat.le_refl _) h4
 have go: ∀k,k≤4→(List.range k).all (inM m)=true→X [.int .i64 (k:Nat)] H3:=by
  refine upto fun k hk ih hall=>hX _ _ (br_dec (fun hlt=>?_) fun hge=>?_)
  ·have hk':k<4:=by omega
   have hmo:mostM k=16777216:=by unfold mostM;rw[if_neg (by omega)]
   refine⟨by omega,by omega,_,hget k (by omega),br_dec (fun h1=>bad k (by omega) fun hh=>?_) fun h1=>⟨by omega,by omega,_,hget k (by omega),br_dec (fun h2=>bad k (by omega) fun hh=>?_) fun h2=>?_⟩⟩
   ·have:=of_decide_eq_true hh;rw[hmo] at this;omega
   ·have:=of_decide_eq_true hh;rw[hmo] at this;omega
   ·rw[wrap_id (by omega) (by omega)]
    exact ih hk' (more k (by omega) hall (by rw[hmo];omega))
  ·have:k=4:=by omega
   subst this
   intro X9 hX9
   exact two hall X9 hX9
 exact go 0 (by omega) rfl
theorem shl32{x:Int}(h: -16777216≤x∧x≤16777216):shlI .i64 x (32:Int)=x*4294967296:=by
 unfold shlI
 rw[show min (32:Int).toNat (IntKind.bits .i64)=32 from rfl,show(2:Int)^32=4294967296 from rfl]
 exact wrap_id (by omega) (by omega)
theorem c78{m:M6}(hR: ∀H',Ext H H'→R (.tuple #[.agg (ints (backM m).2.l).toArray,.int .i64 (backM m).1]) H'):CallsH Tryz.prog 78 #[.agg (ints m.l).toArray] H R:=by
 refine Tryz.s78 ?_
 unfold Tryz.S78
 refine(St.nil H).alc fun b2 H3 hs3=>hs3.alc fun b4 H5 hs5=>⟨_,rfl,rowIn_whole (hs5.block 1 rfl),?_⟩
 refine c105 fun H8 he8=>⟨_,rfl,?_⟩
 have hs8:=hs5.step he8
 have zero: ∀{v:Int} {H1:Heap},backM m=(v,zeroM)→ ∀(i:Nat) {τ:List Rs} {cs:Array Value},τ[i]?=some (.cell b4 cs 42)→cs.size=6→St H H1 τ→
  (#[Value.int .i64 0,Value.int .i64 0,Value.int .i64 0,Value.int .i64 0,Value.int .i64 0,Value.int .i64 0].size=6∧stAt H1 ⟨b4,0,none⟩ (Array.toList #[Value.int .i64 0,Value.int .i64 0,Value.int .i64 0,Value.int .i64 0,Value.int .i64 0,Value.int .i64 0]) fun H_10=> ∃res11:Array Value,res11.size=6∧rowIn H_10 ⟨b4,0,none⟩ res11∧R (Value.tuple #[Value.agg res11,Value.int .i64 v]) H_10):=fun{v H1} hb i {τ cs} hi hcs hs=>
  ⟨rfl,hs.putAll i hi (by rw[hcs];rfl) (by simp[Value.oneCell']) fun H9 hs9=>⟨(ints zeroM.l).toArray,rfl,rowIn_whole (hs9.block i (by rw[List.getElem?_set_self (List.getElem?_eq_some_iff.1 hi).1];rfl)),by
   have:=hR H9 hs9.ext
   rw[hb] at this;exact this⟩⟩
 refine br_not (fun hr=>zero (by unfold backM;rw[if_pos hr]) 0 rfl rfl hs8) fun hr=>?_
 obtain⟨ba,bb,bc,bd,be,bf⟩:=(rightM_iff m).1 hr
 have hB1:backM m=(if m.a*m.d-m.b*m.c=0 then(33,zeroM) else if rightM (backR m)=false then(33,zeroM) else if rightM (backS m)=false then(33,zeroM) else(0,backS m)):=by
  unfold backM;rw[if_neg (by rw[hr];simp)]
 have p1:=mul_bd ba bd
 have p2:=mul_bd bb bc
 refine⟨by decide,by decide,m.a,hs8.rdA 1 (j:=0) rfl rfl,by decide,by decide,m.d,hs8.rdA 1 (j:=3) rfl rfl,by decide,by decide,m.b,hs8.rdA 1 (j:=1) rfl rfl,by decide,by decide,m.c,hs8.rdA 1 (j:=2) rfl rfl,?_⟩
 rw[wrap_id (n:=m.a*m.d) (by omega) (by omega),wrap_id (n:=m.b*m.c) (by omega) (by omega),wrap_id (n:=m.a*m.d-m.b*m.c) (by omega) (by omega)]
 refine br_eq (fun hd=>zero (by rw[hB1,if_pos hd]) 0 rfl rfl hs8) fun hd=>?_
 rw[if_neg hd] at hB1
 intro J hJ
 have main: ∀ob H20 (τ:List Rs),St H H20 (.cell ob (ints (backR m).l).toArray 42:: .cell b4 (ints zeroM.l).toArray 42:: .cell b2 (ints m.l).toArray 42::[])→J [.pointer (some ⟨ob,0,none⟩)] H20:=fun ob H20 τ hs20=>by
  refine hJ _ _ ⟨_,rfl,rowIn_whole (hs20.block 0 rfl),?_⟩
  refine c105 fun H23 he23=>⟨_,rfl,?_⟩
  have hs23:=hs20.step he23
  refine br_not (fun hr1=>zero (by rw[hB1,if_pos hr1]) 1 rfl rfl hs23) fun hr1=>?_
  rw[if_neg (by rw[hr1];simp)] at hB1
  obtain⟨ra,rb,rc,rd,_,_⟩:=(rightM_iff (backR m)).1 hr1
  have q1:=mul_bd ra be
  have q2:=mul_bd rb bf
  have q3:=mul_bd rc be
  have q4:=mul_bd rd bf
  refine⟨by decide,by decide,(backR m).a,hs23.rdA 0 (j:=0) rfl rfl,by decide,by decide,m.e,hs23.rdA 2 (j:=4) rfl rfl,by decide,by decide,(backR m).b,hs23.rdA 0 (j:=1) rfl rfl,by decide,by decide,m.f,hs23.rdA 2 (j:=5) rfl rfl,?_⟩
  rw[wrap_id (n:=(backR m).a*m.e) (by omega) (by omega),wrap_id (n:=(backR m).b*m.f) (by omega) (by omega),wrap_id (n:=(backR m).a*m.e+(backR m).b*m.f) (by omega) (by omega),wrap_id (n:=0-((backR m).a*m.e+(backR m).b*m.f)) (by omega) (by omega),Int.zero_sub]
  refine c107 (by omega) ⟨_,rfl,by decide,by decide,?_⟩
  refine hs23.putA 0 (j:=4) rfl (Nat.le_of_ble_eq_true rfl) fun H34 hs34=>⟨by decide,by decide,(backR m).c,hs34.rdA 0 (j:=2) rfl rfl,by decide,by decide,m.e,hs34.rdA 2 (j:=4) rfl rfl,by decide,by decide,(backR m).d,hs34.rdA 0 (j:=3) rfl rfl,by decide,by decide,m.f,hs34.rdA 2 (j:=5) rfl rfl,?_⟩
  rw[wrap_id (n:=(backR m).c*m.e) (by omega) (by omega),wrap_id (n:=(backR m).d*m.f) (by omega) (by omega),wrap_id (n:=(backR m).c*m.e+(backR m).d*m.f) (by omega) (by omega),wrap_id (n:=0-((backR m).c*m.e+(backR m).d*m.f)) (by omega) (by omega),Int.zero_sub]
  refine c107 (by omega) ⟨_,rfl,by decide,by decide,?_⟩
  refine hs34.putA 0 (j:=5) rfl (Nat.le_of_ble_eq_true rfl) fun H42 hs42=>?_
  have hs42:St H H42 (.cell ob (ints (backS m).l).toArray 42:: .cell b4 (ints zeroM.l).toArray 42:: .cell b2 (ints m.l).toArray 42::[]):=hs42
  refine⟨_,rfl,rowIn_whole (hs42.block 0 rfl),?_⟩
  refine c105 fun H45 he45=>⟨_,rfl,?_⟩
  have hs45:=hs42.step he45
  refine br_not (fun hr2=>zero (by rw[hB1,if_pos hr2]) 1 rfl rfl hs45) fun hr2=>?_
  rw[if_neg (by rw[hr2];simp)] at hB1
  refine⟨_,?_,rowIn_whole (hs45.block 0 rfl),?_,?_⟩
  ·rfl
  ·rfl
  refine hs45.putAllA 1 (l:=(backS m).l) rfl rfl fun H50 hs50=>⟨_,rfl,rowIn_whole (hs50.block 1 rfl),?_⟩
  have:=hR H50 hs50.ext
  rw[hB1] at this
  exact this
 refine⟨by decide,by decide,m.d,hs8.rdA 1 (j:=3) rfl rfl,by decide,by decide,by decide,m.b,hs8.rdA 1 (j:=1) rfl rfl,by decide,by decide,by decide,m.c,hs8.rdA 1 (j:=2) rfl rfl,by decide,by decide,by decide,m.a,hs8.rdA 1 (j:=0) rfl rfl,by decide,?_⟩
 rw[wrap_id (n:=0-m.b) (by omega) (by omega),wrap_id (n:=0-m.c) (by omega) (by omega),Int.zero_sub,Int.zero_sub]
 rw[shl32 bd,shl32 (x:= -m.b) (by omega),shl32 (x:= -m.c) (by omega),shl32 ba]
 have put: ∀{ob:Nat} {H1:Heap},St H H1 (.cell ob (ints zeroM.l).toArray 42:: .cell b4 (ints zeroM.l).toArray 42:: .cell b2 (ints m.l).toArray 42::[])→
  stAt H1 ⟨ob,0,none⟩ (Array.toList (ints (backR m).l).toArray) fun H_70=>J [Value.pointer (some ⟨ob,0,none⟩)] H_70:=fun{ob H1} hs=>hs.putAllA 0 (l:=(backR m).l) rfl rfl fun H2 hs2=>main ob H2 [] hs2
 have k1: -144115188075855872≤m.d*4294967296∧m.d*4294967296≤144115188075855872:=by omega
 have k2: -144115188075855872≤ -m.b*4294967296∧ -m.b*4294967296≤144115188075855872:=by omega
 have k3: -144115188075855872≤ -m.c*4294967296∧ -m.c*4294967296≤144115188075855872:=by omega
 have k4: -144115188075855872≤m.a*4294967296∧m.a*4294967296≤144115188075855872:=by omega
 have hdb: -2251799813685248≤m.a*m.d-m.b*m.c∧m.a*m.d-m.b*m.c≤2251799813685248:=by omega
 have rf: ∀{H1:Heap},Ext H1 H1:=fun{H1}=>Ext.refl H1
 refine⟨c106 hd hdb k1 ⟨_,rfl,.inl rf,⟨c106 hd hdb k2 ⟨_,rfl,.inl rf,⟨c106 hd hdb k3 ⟨_,rfl,.inl rf,⟨c106 hd hdb k4 ⟨_,rfl,hs8.alc fun b68 H69 hs69=>⟨rfl,put hs69⟩⟩,?_⟩⟩,?_⟩⟩,?_⟩⟩,?_⟩
 ·exact hs8.alcE fun b71 H72 he72 hs72=>⟨.inl he72,c106 hd hdb k4 ⟨_,rfl,rfl,put hs72⟩⟩
 ·exact hs8.alcE fun b71 H72 he72 hs72=>⟨.inl he72,c106 hd hdb k3 ⟨_,rfl,.inl rf,c106 hd hdb k4 ⟨_,rfl,rfl,put hs72⟩⟩⟩
 ·exact hs8.alcE fun b71 H72 he72 hs72=>⟨.inl he72,c106 hd hdb k2 ⟨_,rfl,.inl rf,c106 hd hdb k3 ⟨_,rfl,.inl rf,c106 hd hdb k4 ⟨_,rfl,rfl,put hs72⟩⟩⟩⟩
 ·exact hs8.alcE fun b71 H72 he72 hs72=>⟨.inl he72,c106 hd hdb k1 ⟨_,rfl,.inl rf,c106 hd hdb k2 ⟨_,rfl,.inl rf,c106 hd hdb k3 ⟨_,rfl,.inl rf,c106 hd hdb k4 ⟨_,rfl,rfl,put hs72⟩⟩⟩⟩⟩
theorem c63{m:M6}(hR: ∀H',Ext H H'→R (.tuple #[.agg (ints (backM m).2.l).toArray,.int .i64 (backM m).1]) H'):CallsH Tryz.prog 63 #[.agg (ints m.l).toArray] H R:=by
 refine Tryz.s63 ?_
 unfold Tryz.S63
 refine(St.nil H).alc fun b2 H3 hs3=>hs3.alc fun b4 H5 hs5=>⟨_,rfl,rowIn_whole (hs5.block 1 rfl),?_⟩
 refine c93 fun H8 he8=>⟨_,rfl,?_⟩
 have hs8:=hs5.step he8
 have zero: ∀{v:Int} {H1:Heap},backM m=(v,zeroM)→ ∀(i:Nat) {τ:List Rs} {cs:Array Value},τ[i]?=some (.cell b4 cs 59)→cs.size=6→St H H1 τ→
  (#[Value.int .i64 0,Value.int .i64 0,Value.int .i64 0,Value.int .i64 0,Value.int .i64 0,Value.int .i64 0].size=6∧stAt H1 ⟨b4,0,none⟩ (Array.toList #[Value.int .i64 0,Value.int .i64 0,Value.int .i64 0,Value.int .i64 0,Value.int .i64 0,Value.int .i64 0]) fun H_10=> ∃res11:Array Value,res11.size=6∧rowIn H_10 ⟨b4,0,none⟩ res11∧R (Value.tuple #[Value.agg res11,Value.int .i64 v]) H_10):=fun{v H1} hb i {τ cs} hi hcs hs=>
  ⟨rfl,hs.putAll i hi (by rw[hcs];rfl) (by simp[Value.oneCell']) fun H9 hs9=>⟨(ints zeroM.l).toArray,rfl,rowIn_whole (hs9.block i (by rw[List.getElem?_set_self (List.getElem?_eq_some_iff.1 hi).1];rfl)),by
   have:=hR H9 hs9.ext
   rw[hb] at this;exact this⟩⟩
 refine br_not (fun hr=>zero (by unfold backM;rw[if_pos hr]) 0 rfl rfl hs8) fun hr=>?_
 obtain⟨ba,bb,bc,bd,be,bf⟩:=(rightM_iff m).1 hr
 have hB1:backM m=(if m.a*m.d-m.b*m.c=0 then(33,zeroM) else if rightM (backR m)=false then(33,zeroM) else if rightM (backS m)=false then(33,zeroM) else(0,backS m)):=by
  unfold backM;rw[if_neg (by rw[hr];simp)]
 have p1:=mul_bd ba bd
 have p2:=mul_bd bb bc
 refine⟨by decide,by decide,m.a,hs8.rdA 1 (j:=0) rfl rfl,by decide,by decide,m.d,hs8.rdA 1 (j:=3) rfl rfl,by decide,by decide,m.b,hs8.rdA 1 (j:=1) rfl rfl,by decide,by decide,m.c,hs8.rdA 1 (j:=2) rfl rfl,?_⟩
 rw[wrap_id (n:=m.a*m.d) (by omega) (by omega),wrap_id (n:=m.b*m.c) (by omega) (by omega),wrap_id (n:=m.a*m.d-m.b*m.c) (by omega) (by omega)]
 refine br_eq (fun hd=>zero (by rw[hB1,if_pos hd]) 0 rfl rfl hs8) fun hd=>?_
 rw[if_neg hd] at hB1
 intro J hJ
 have main: ∀ob H20 (τ:List Rs),St H H20 (.cell ob (ints (backR m).l).toArray 59:: .cell b4 (ints zeroM.l).toArray 59:: .cell b2 (ints m.l).toArray 59::[])→J [.pointer (some ⟨ob,0,none⟩)] H20:=fun ob H20 τ hs20=>by
  refine hJ _ _ ⟨_,rfl,rowIn_whole (hs20.block 0 rfl),?_⟩
  refine c93 fun H23 he23=>⟨_,rfl,?_⟩
  have hs23:=hs20.step he23
  refine br_not (fun hr1=>zero (by rw[hB1,if_pos hr1]) 1 rfl rfl hs23) fun hr1=>?_
  rw[if_neg (by rw[hr1];simp)] at hB1
  obtain⟨ra,rb,rc,rd,_,_⟩:=(rightM_iff (backR m)).1 hr1
  have q1:=mul_bd ra be
  have q2:=mul_bd rb bf
  have q3:=mul_bd rc be
  have q4:=mul_bd rd bf
  refine⟨by decide,by decide,(backR m).a,hs23.rdA 0 (j:=0) rfl rfl,by decide,by decide,m.e,hs23.rdA 2 (j:=4) rfl rfl,by decide,by decide,(backR m).b,hs23.rdA 0 (j:=1) rfl rfl,by decide,by decide,m.f,hs23.rdA 2 (j:=5) rfl rfl,?_⟩
  rw[wrap_id (n:=(backR m).a*m.e) (by omega) (by omega),wrap_id (n:=(backR m).b*m.f) (by omega) (by omega),wrap_id (n:=(backR m).a*m.e+(backR m).b*m.f) (by omega) (by omega),wrap_id (n:=0-((backR m).a*m.e+(backR m).b*m.f)) (by omega) (by omega),Int.zero_sub]
  refine c95 (by omega) ⟨_,rfl,by decide,by decide,?_⟩
  refine hs23.putA 0 (j:=4) rfl (Nat.le_of_ble_eq_true rfl) fun H34 hs34=>⟨by decide,by decide,(backR m).c,hs34.rdA 0 (j:=2) rfl rfl,by decide,by decide,m.e,hs34.rdA 2 (j:=4) rfl rfl,by decide,by decide,(backR m).d,hs34.rdA 0 (j:=3) rfl rfl,by decide,by decide,m.f,hs34.rdA 2 (j:=5) rfl rfl,?_⟩
  rw[wrap_id (n:=(backR m).c*m.e) (by omega) (by omega),wrap_id (n:=(backR m).d*m.f) (by omega) (by omega),wrap_id (n:=(backR m).c*m.e+(backR m).d*m.f) (by omega) (by omega),wrap_id (n:=0-((backR m).c*m.e+(backR m).d*m.f)) (by omega) (by omega),Int.zero_sub]
  refine c95 (by omega) ⟨_,rfl,by decide,by decide,?_⟩
  refine hs34.putA 0 (j:=5) rfl (Nat.le_of_ble_eq_true rfl) fun H42 hs42=>?_
  have hs42:St H H42 (.cell ob (ints (backS m).l).toArray 59:: .cell b4 (ints zeroM.l).toArray 59:: .cell b2 (ints m.l).toArray 59::[]):=hs42
  refine⟨_,rfl,rowIn_whole (hs42.block 0 rfl),?_⟩
  refine c93 fun H45 he45=>⟨_,rfl,?_⟩
  have hs45:=hs42.step he45
  refine br_not (fun hr2=>zero (by rw[hB1,if_pos hr2]) 1 rfl rfl hs45) fun hr2=>?_
  rw[if_neg (by rw[hr2];simp)] at hB1
  refine⟨_,?_,rowIn_whole (hs45.block 0 rfl),?_,?_⟩
  ·rfl
  ·rfl
  refine hs45.putAllA 1 (l:=(backS m).l) rfl rfl fun H50 hs50=>⟨_,rfl,rowIn_whole (hs50.block 1 rfl),?_⟩
  have:=hR H50 hs50.ext
  rw[hB1] at this
  exact this
 refine⟨by decide,by decide,m.d,hs8.rdA 1 (j:=3) rfl rfl,by decide,by decide,m.b,hs8.rdA 1 (j:=1) rfl rfl,by decide,by decide,m.c,hs8.rdA 1 (j:=2) rfl rfl,by decide,by decide,m.a,hs8.rdA 1 (j:=0) rfl rfl,?_⟩
 rw[wrap_id (n:=0-m.b) (by omega) (by omega),wrap_id (n:=0-m.c) (by omega) (by omega),Int.zero_sub,Int.zero_sub]
 rw[wrap_id (n:=m.d*4294967296) (by omega) (by omega),wrap_id (n:= -m.b*4294967296) (by omega) (by omega),wrap_id (n:= -m.c*4294967296) (by omega) (by omega),wrap_id (n:=m.a*4294967296) (by omega) (by omega)]
 have put: ∀{ob:Nat} {H1:Heap},St H H1 (.cell ob (ints zeroM.l).toArray 59:: .cell b4 (ints zeroM.l).toArray 59:: .cell b2 (ints m.l).toArray 59::[])→
  stAt H1 ⟨ob,0,none⟩ (Array.toList (ints (backR m).l).toArray) fun H_70=>J [Value.pointer (some ⟨ob,0,none⟩)] H_70:=fun{ob H1} hs=>hs.putAllA 0 (l:=(backR m).l) rfl rfl fun H2 hs2=>main ob H2 [] hs2
 have k1: -144115188075855872≤m.d*4294967296∧m.d*4294967296≤144115188075855872:=by omega
 have k2: -144115188075855872≤ -m.b*4294967296∧ -m.b*4294967296≤144115188075855872:=by omega
 have k3: -144115188075855872≤ -m.c*4294967296∧ -m.c*4294967296≤144115188075855872:=by omega
 have k4: -144115188075855872≤m.a*4294967296∧m.a*4294967296≤144115188075855872:=by omega
 have hdb: -2251799813685248≤m.a*m.d-m.b*m.c∧m.a*m.d-m.b*m.c≤2251799813685248:=by omega
 have rf: ∀{H1:Heap},Ext H1 H1:=fun{H1}=>Ext.refl H1
 refine⟨c94 hd hdb k1 ⟨_,rfl,.inl rf,⟨c94 hd hdb k2 ⟨_,rfl,.inl rf,⟨c94 hd hdb k3 ⟨_,rfl,.inl rf,⟨c94 hd hdb k4 ⟨_,rfl,hs8.alc fun b68 H69 hs69=>⟨rfl,put hs69⟩⟩,?_⟩⟩,?_⟩⟩,?_⟩⟩,?_⟩
 ·exact hs8.alcE fun b71 H72 he72 hs72=>⟨.inl he72,c94 hd hdb k4 ⟨_,rfl,rfl,put hs72⟩⟩
 ·exact hs8.alcE fun b71 H72 he72 hs72=>⟨.inl he72,c94 hd hdb k3 ⟨_,rfl,.inl rf,c94 hd hdb k4 ⟨_,rfl,rfl,put hs72⟩⟩⟩
 ·exact hs8.alcE fun b71 H72 he72 hs72=>⟨.inl he72,c94 hd hdb k2 ⟨_,rfl,.inl rf,c94 hd hdb k3 ⟨_,rfl,.inl rf,c94 hd hdb k4 ⟨_,rfl,rfl,put hs72⟩⟩⟩⟩
 ·exact hs8.alcE fun b71 H72 he72 hs72=>⟨.inl he72,c94 hd hdb k1 ⟨_,rfl,.inl rf,c94 hd hdb k2 ⟨_,rfl,.inl rf,c94 hd hdb k3 ⟨_,rfl,.inl rf,c94 hd hdb k4 ⟨_,rfl,rfl,put hs72⟩⟩⟩⟩⟩
end Go.Proofs
namespace Go.Proofs
open Go.Sh
variable {H0 H:Heap} {σ:List Rs} {R:Value→Heap→Prop}
def inP(ps:List Int)(i:Nat):Bool:=decide (0≤ps.getD i 0∧ps.getD i 0≤255)
def incP(ps:List Int)(i:Nat):Bool:=decide (i%2=1∨i=0∨ps.getD (i-2) 0<ps.getD i 0)
def kindP(kind:Int)(ps:List Int):Bool:=
 if kind=0 then decide (ps.length=2∧ps.getD 0 0<ps.getD 1 0) else if kind=1 then decide (2≤ps.length∧ps.length≤32∧ps.length%2=0) else if kind=2 then decide (ps.length=0) else if kind=3 then decide (ps.length=1) else false
def tabB(kind:Int)(ps:List Int):Bool:=(List.range ps.length).all (inP ps)&&((kind != 1||(List.range ps.length).all (incP ps))&&kindP kind ps)
theorem rdG{p:Option Addr}{n:Nat}{ps:List Int}(h:IS H p n (ints ps)){i:Int}(h0:0≤i)(h1:i<n){K:Int→Prop}(hK:K (ps.getD i.toNat 0)):
 ∃a:Addr,p=some a∧0≤i∧i<((n:Nat):Int)∧ ∃v:Int,Sh.cell H (Addr.add a (Int.toNat i*1))=some (.int .i64 v)∧K v:=
 IS.rd h h0 h1 (getD_some ps 0 (by have:=h.length;omega)) hK
theorem all_more{f:Nat→Bool}{k:Nat}(h:(List.range k).all f=true)(hf:f k=true):(List.range (k+1)).all f=true:=by
 rw[List.range_succ,List.all_append,h,Bool.true_and,List.all_cons,List.all_nil,Bool.and_true];exact hf
theorem all_at{f:Nat→Bool}{n k:Nat}(h:(List.range n).all f=true)(hk:k<n):f k=true:=List.all_eq_true.1 h k (List.mem_range.2 hk)
theorem tabB_of{kind:Int}{ps:List Int}(h1:(List.range ps.length).all (inP ps)=true)(h2:kind=1→(List.range ps.length).all (incP ps)=true):tabB kind ps=kindP kind ps:=by
 unfold tabB
 rw[h1,Bool.true_and]
 by_cases hk:kind=1
 ·rw[h2 hk,Bool.or_true,Bool.true_and]
 ·rw[show(kind != 1)=true from by simpa using hk,Bool.true_or,Bool.true_and]
theorem tabB_in{kind:Int}{ps:List Int}{k:Nat}(hk:k<ps.length)(h:inP ps k=false):tabB kind ps=false:=by
 unfold tabB
 rw[show(List.range ps.length).all (inP ps)=false from by
  rw[Bool.eq_false_iff];intro hh;rw[all_at hh hk] at h;cases h]
 rfl
theorem tabB_inc{ps:List Int}{k:Nat}(hk:k<ps.length)(h:incP ps k=false):tabB 1 ps=false:=by
 unfold tabB
 rw[show(List.range ps.length).all (incP ps)=false from by
  rw[Bool.eq_false_iff];intro hh;rw[all_at hh hk] at h;cases h]
 simp
theorem c108{kind:Int}{p:Option Addr}{n c:Nat}{ps:List Int}(h:IS H p n (ints ps))(hn:n≤1000000000000)(hR:R (.bool (tabB kind ps)) H):CallsH Tryz.prog 108 #[.int .i64 kind,.slice p n c] H R:=by
 refine Tryz.s108 ?_
 unfold Tryz.S108
 have hlen:=h.length
 intro X hX
 have go: ∀k,k≤n→(List.range k).all (inP ps)=true→(kind=1→(List.range k).all (incP ps)=true)→X [.int .i64 (k:Nat)] H:=by
  refine upto fun k hk ih h1 h2=>hX _ _ (br_dec (fun hlt=>?_) fun hge=>?_)
  ·have hk':k<n:=by omega
   intro J hJ
   have bad:tabB kind ps=false→R (.bool false) H:=fun hb=>by rw[hb] at hR;exact hR
   have go2:inP ps k=true→(kind=1→incP ps k=true)→J [] H:=fun g1 g2=>by
    refine hJ _ ?_
    rw[wrap_id (by omega) (by omega)]
    exact ih hk' (all_more h1 g1) fun hk1=>all_more (h2 hk1) (g2 hk1)
   refine rdG (i:=(k:Int)) h (by omega) hlt (br_dec (fun h3=>bad (tabB_in (k:=k) (by omega) ?_)) fun h3=>br_dec (fun h4=>bad (tabB_in (k:=k) (by omega) ?_)) fun h4=>?_)
   ·exact decide_eq_false fun hh=>by have:=hh.1;rw[Int.toNat_natCast] at h3;omega
   ·exact decide_eq_false fun hh=>by have:=hh.2;rw[Int.toNat_natCast] at h4;omega
   rw[Int.toNat_natCast] at h3 h4 ⊢
   have g1:inP ps k=true:=decide_eq_true ⟨by omega,by omega⟩
   refine br_eq (fun hk1=>⟨by decide,?_⟩) fun hk1=>go2 g1 fun hh=>absurd hh hk1
   rw[Int.tmod_eq_emod_of_nonneg (by omega)]
   refine br_eq (fun he=>br_dec (fun hp=>?_) fun hp=>go2 g1 fun _=>decide_eq_true (.inr (.inl (by omega)))) fun he=>go2 g1 fun _=>decide_eq_true (.inl (by omega))
   have hk2:2≤k:=by omega
   rw[wrap_id (n:=(k:Int)-2) (by omega) (by omega)]
   refine rdG (i:=(k:Int)-2) h (by omega) (by omega) ?_
   rw[show Int.toNat ((k:Int)-2)=k-2 from by omega]
   refine br_dec (fun hle=>bad ?_) fun hle=>go2 g1 fun _=>decide_eq_true (.inr (.inr (by omega)))
   rw[hk1]
   exact tabB_inc (k:=k) (by omega) (decide_eq_false fun hh=>by rcases hh with hh|hh|hh<;>omega)
  ·have hkn:k=n:=by omega
   subst hkn
   rw[←hlen] at h1 h2
   rw[tabB_of h1 h2] at hR
   unfold kindP at hR
   refine br_eq (fun k0=>?_) fun k0=>br_eq (fun k1=>?_) fun k1=>br_eq (fun k2=>?_) fun k2=>br_eq (fun k3=>?_) fun k3=>?_
   ·rw[if_pos k0] at hR
    refine br_eq (fun hn2=>?_) fun hn2=>?_
    ·refine rdG (i:=0) h (by omega) (by omega) (rdG (i:=1) h (by omega) (by omega) ?_)
     rw[show decide (ps.length=2∧ps.getD 0 0<ps.getD 1 0)=decide (ps.getD 0 0<ps.getD 1 0) from decide_eq_decide.2 ⟨fun hh=>hh.2,fun hh=>⟨by omega,hh⟩⟩] at hR
     exact hR
    ·rw[decide_eq_false (fun hh=>hn2 (by omega))] at hR
     exact hR
   ·rw[if_neg k0,if_pos k1] at hR
    refine br_dec (fun g1=>br_dec (fun g2=>⟨by decide,?_⟩) fun g2=>?_) fun g1=>?_
    ·rw[Int.tmod_eq_emod_of_nonneg (by omega)]
     have:decide (2≤ps.length∧ps.length≤32∧ps.length%2=0)=((k:Int)%2==0):=by
      rw[Bool.eq_iff_iff,decide_eq_true_iff,beq_iff_eq];omega
     rw[this] at hR
     exact hR
    ·rw[decide_eq_false (fun hh=>g2 (by omega))] at hR
     exact hR
    ·rw[decide_eq_false (fun hh=>g1 (by omega))] at hR
     exact hR
   ·rw[if_neg k0,if_neg k1,if_pos k2] at hR
    have:decide (ps.length=0)=(((k:Nat):Int)==0):=by rw[Bool.eq_iff_iff,decide_eq_true_iff,beq_iff_eq];omega
    rw[this] at hR;exact hR
   ·rw[if_neg k0,if_neg k1,if_neg k2,if_pos k3] at hR
    have:decide (ps.length=1)=(((k:Nat):Int)==1):=by rw[Bool.eq_iff_iff,decide_eq_true_iff,beq_iff_eq];omega
    rw[this] at hR;exact hR
   ·rw[if_neg k0,if_neg k1,if_neg k2,if_neg k3] at hR
    exact hR
 exact go 0 (Nat.zero_le _) rfl fun _=>rfl
structure CrvOk(ps:List Int):Prop where
 len:2≤ps.length∧ps.length≤32∧ps.length%2=0
 rng: ∀i,0≤ps.getD i 0∧ps.getD i 0≤255
 inc: ∀i,2≤i→i<ps.length→i%2=0→ps.getD (i-2) 0<ps.getD i 0
theorem tabB_rng{kind:Int}{ps:List Int}(h:tabB kind ps=true)(i:Nat):0≤ps.getD i 0∧ps.getD i 0≤255:=by
 unfold tabB at h
 rw[Bool.and_eq_true] at h
 by_cases hi:i<ps.length
 ·exact of_decide_eq_true (all_at h.1 hi)
 ·rw[List.getD_eq_getElem?_getD,List.getElem?_eq_none (by omega)];decide
theorem tabB_kind{kind:Int}{ps:List Int}(h:tabB kind ps=true):kindP kind ps=true:=by
 unfold tabB at h
 rw[Bool.and_eq_true,Bool.and_eq_true] at h
 exact h.2.2
theorem tabB_crv{ps:List Int}(h:tabB 1 ps=true):CrvOk ps:=by
 have hk:=tabB_kind h
 have hr:=tabB_rng h
 refine⟨of_decide_eq_true hk,hr,fun i hi hl he=>?_⟩
 unfold tabB at h
 rw[Bool.and_eq_true,Bool.and_eq_true,Bool.or_eq_true] at h
 have h2:(List.range ps.length).all (incP ps)=true:=by
  rcases h.2.1 with h|h
  ·simp at h
  ·exact h
 rcases of_decide_eq_true (all_at h2 hl) with h3|h3|h3
 ·omega
 ·omega
 ·exact h3
theorem repsA256:(List.toArray (reps (Int.toNat (256:Int)) (Array.toList #[Value.int .i64 0])))=(ints (List.replicate 256 0)).toArray:=repsA 256
theorem c109{p:Option Addr}{n c:Nat}{ps:List Int}(h:IS H p n (ints ps))(hok:CrvOk ps)(hR: ∀b H',Ext H H'→R (.slice (some ⟨b,0,none⟩) 256 256) H'):CallsH Tryz.prog 109 #[.slice p n c] H R:=by
 refine Tryz.s109 ?_
 unfold Tryz.S109
 have hlen:=h.length
 obtain⟨l1,l2,l3⟩:=hok.len
 refine⟨by decide,by decide,by decide,by decide,?_⟩
 rw[repsA256,wrap_id (n:=(n:Int)-2) (by omega) (by omega),wrap_id (n:=(n:Int)-1) (by omega) (by omega)]
 refine(St.nil H).alc fun b2 H3 hs3=>?_
 intro X hX
 have go: ∀k,k≤256→ ∀H1 (L:List Int),L.length=256→St H H1 [.cell b2 (ints L).toArray 3]→X [.int .i64 (k:Nat)] H1:=by
  refine upto fun k hk ih H1 L hL hs1=>hX _ _ (br_dec (fun hlt=>?_) fun hge=>?_)
  ·have hk':k<256:=by have:(k:Int)<256:=hlt;omega
   have h1:=h.ext hs1.ext
   have put: ∀(v:Int),∃a11:Addr,(some ⟨b2,0,none⟩)=some a11∧0≤(k:Int)∧(k:Int)<(((Int.toNat (256:Int)):Nat):Int)∧stAt H1 (Addr.add a11 (Int.toNat (k:Int)*1)) [Value.int .i64 v] fun H_12=>X [Value.int .i64 (IntKind.wrap .i64 ((k:Int)+(1:Int)))] H_12:=fun v=>by
    refine⟨_,rfl,by omega,hlt,?_⟩
    rw[show Int.toNat (k:Int)*1=k from Nat.mul_one k,add_none,Nat.zero_add,wrap_id (by omega) (by omega)]
    exact hs1.putA 0 rfl (by omega) fun H2 hs2=>ih hk' H2 (L.set k v) (by rw[List.length_set];exact hL) hs2
   refine rdG (i:=0) h1 (by omega) (by omega) (br_dec (fun _=>rdG (i:=1) h1 (by omega) (by omega) (put _)) fun hv0=>?_)
   refine rdG (i:=(n:Int)-2) h1 (by omega) (by omega) (br_dec (fun _=>rdG (i:=(n:Int)-1) h1 (by omega) (by omega) (put _)) fun hv1=>?_)
   rw[show Int.toNat ((n:Int)-2)=n-2 from by omega] at hv1
   have hv0: ¬(k:Int)≤ps.getD 0 0:=hv0
   intro X2 hX2
   have go2: ∀j,j≤16→2*j+2≤n→ps.getD (2*j) 0≤(k:Int)→X2 [.int .i64 ((2*j:Nat):Int)] H1:=by
    refine upto fun j hj ih2 hjn hpj=>hX2 _ _ ?_
    have hne:2*j+2≠n:=fun hh=>by
     have:2*j=n-2:=by omega
     rw[this] at hpj;omega
    have hj4:2*j+4≤n:=by omega
    rw[wrap_id (n:=((2*j:Nat):Int)+2) (by omega) (by omega),wrap_id (n:=((2*j:Nat):Int)+1) (by omega) (by omega),wrap_id (n:=((2*j:Nat):Int)+3) (by omega) (by omega)]
    refine rdG (i:=((2*j:Nat):Int)+2) h1 (by omega) (by omega) ?_
    rw[show Int.toNat (((2*j:Nat):Int)+2)=2*j+2 from by omega]
    refine br_dec (fun hle=>?_) fun hgt=>?_
    ·have:=ih2 (by omega) (by omega) (by rw[show 2*(j+1)=2*j+2 from by omega];exact hle)
     rw[show((2*(j+1):Nat):Int)=((2*j:Nat):Int)+2 from by omega] at this
     exact this
    ·refine rdG (i:=((2*j:Nat):Int)+1) h1 (by omega) (by omega) (rdG (i:=((2*j:Nat):Int)+3) h1 (by omega) (by omega) (rdG (i:=((2*j:Nat):Int)+1) h1 (by omega) (by omega) (rdG (i:=((2*j:Nat):Int)) h1 (by omega) (by omega) (rdG (i:=((2*j:Nat):Int)+2) h1 (by omega) (by omega) (rdG (i:=((2*j:Nat):Int)) h1 (by omega) (by omega) ⟨?_,put _⟩)))))
     have hi:=hok.inc (2*j+2) (by omega) (by omega) (by omega)
     rw[show 2*j+2-2=2*j from by omega] at hi
     rw[show Int.toNat (((2*j:Nat):Int)+2)=2*j+2 from by omega,Int.toNat_natCast]
     have r1:=hok.rng (2*j+2)
     have r2:=hok.rng (2*j)
     rw[wrap_id (by omega) (by omega)]
     omega
   exact go2 0 (by omega) (by omega) (by rw[Nat.mul_zero];omega)
  ·have hk6: ¬(k:Int)<256:=hge
   have:k=256:=by omega
   subst this
   exact hR b2 H1 hs1.ext
 exact go 0 (by omega) H3 _ (by simp) hs3
theorem c79{kind:Int}{p:Option Addr}{n c:Nat}{ps:List Int}(h:IS H p n (ints ps))(hn:n≤1000000000000)
 (h0:tabB kind ps=false→R (.tuple #[.slice none 0 0,.bool false]) H)(h1:tabB kind ps=true→ ∀b H',Ext H H'→R (.tuple #[.slice (some ⟨b,0,none⟩) 256 256,.bool true]) H'):CallsH Tryz.prog 79 #[.int .i64 kind,.slice p n c] H R:=by
 refine Tryz.s79 ?_
 unfold Tryz.S79
 have hlen:=h.length
 refine c108 h hn ⟨_,rfl,br_not (fun hb=>h0 hb) fun hb=>br_eq (fun hk1=>?_) fun hk1=>?_⟩
 ·rw[hk1] at hb
  exact c109 h (tabB_crv hb) fun b H' he=>⟨_,_,_,rfl,h1 (by rw[hk1];exact hb) b H' he⟩
 refine⟨by decide,by decide,by decide,by decide,?_⟩
 rw[repsA256]
 refine(St.nil H).alc fun b9 H10 hs10=>?_
 intro X hX
 have hrng:=tabB_rng hb
 have hkind:=tabB_kind hb
 unfold kindP at hkind
 have go: ∀k,k≤256→ ∀H1 (L:List Int),L.length=256→St H H1 [.cell b9 (ints L).toArray 3]→X [.int .i64 (k:Nat)] H1:=by
  refine upto fun k hk ih H1 L hL hs1=>hX _ _ (br_dec (fun hlt=>?_) fun hge=>?_)
  ·have hk':k<256:=by have:(k:Int)<256:=hlt;omega
   have g1:=h.ext hs1.ext
   intro J hJ
   have same:J [] H1:=hJ _ (by
    rw[wrap_id (by omega) (by omega)]
    exact ih hk' H1 L hL hs1)
   have put: ∀(v:Int),∃a11:Addr,(some ⟨b9,0,none⟩)=some a11∧0≤(k:Int)∧(k:Int)<(((Int.toNat (256:Int)):Nat):Int)∧stAt H1 (Addr.add a11 (Int.toNat (k:Int)*1)) [Value.int .i64 v] fun H_12=>J [] H_12:=fun v=>by
    refine⟨_,rfl,by omega,hlt,?_⟩
    rw[show Int.toNat (k:Int)*1=k from Nat.mul_one k,add_none,Nat.zero_add]
    refine hs1.putA 0 rfl (by omega) fun H2 hs2=>hJ _ ?_
    rw[wrap_id (by omega) (by omega)]
    exact ih hk' H2 (L.set k v) (by rw[List.length_set];exact hL) hs2
   refine br_eq (fun k0=>?_) fun k0=>br_eq (fun k2=>put _) fun k2=>br_eq (fun k3=>?_) fun k3=>same
   ·rw[if_pos k0] at hkind
    have hk2:=of_decide_eq_true hkind
    refine rdG (i:=1) g1 (by omega) (by omega) (rdG (i:=0) g1 (by omega) (by omega) (rdG (i:=0) g1 (by omega) (by omega) ⟨by decide,?_,put _⟩))
    have r1:=hrng 1
    have r0:=hrng 0
    show IntKind.wrap .i64 (ps.getD 1 0-ps.getD 0 0)≠0
    rw[wrap_id (by omega) (by omega)]
    omega
   ·rw[if_neg k0,if_neg hk1,if_neg k2,if_pos k3] at hkind
    have hk2:=of_decide_eq_true hkind
    exact rdG (i:=0) g1 (by omega) (by omega) (br_dec (fun _=>put _) fun _=>same)
  ·have hk6: ¬(k:Int)<256:=hge
   have:k=256:=by omega
   subst this
   exact h1 hb b9 H1 hs1.ext
 exact go 0 (by omega) H10 _ (by simp) hs10
end Go.Proofs
namespace Go.Sh
theorem St.elPutRow{H0 H:Heap}{σ:List Rs}(hs:St H0 H σ)(i:Nat){p:Option Addr}{l c n:Nat}{el:TypeId}{A cs B:List Value}(hi:σ[i]?=some (.sl p l c el 19 (A++cs++B)))(hA:A.length=n*19){j:Nat}{vs:List Value}(hj:j+vs.length≤cs.length)(hc:0<cs.length)(hv: ∀v∈vs,v.oneCell'=true){a:Addr}(ha:p.map (fun a=>a.add (n*19))=some a)
 {f:Heap→Prop}(hK: ∀H',St H0 H' (σ.set i (.sl p l c el 19 (A++setL cs j vs++B)))→f H'):stAt H (a.add j) vs f:=by
 obtain⟨b,hb⟩:=hs.slSome i (j:=0) hi (by simp;omega)
 subst hb
 cases ha
 show stAt H (((⟨b,0,none⟩:Addr).add (n*19)).add j) vs f
 rw[add_none,add_none,Nat.zero_add]
 refine Go.Sh.St.slIn hs i hi (by simp;omega) hv fun H' hs'=>hK H' ?_
 have e:setL (A++cs++B) (n*19+j) vs=A++setL cs j vs++B:=by
  unfold setL
  rw[List.append_assoc A cs B,←hA,List.take_length_add_append,show A.length+j+vs.length=A.length+(j+vs.length) from by omega,List.drop_length_add_append,List.take_append_of_le_length (by omega),List.drop_append_of_le_length hj]
  simp
 rw[e] at hs'
 exact hs'
end Go.Sh
namespace Go.Proofs
open Go.Sh
variable {H0 H:Heap} {σ:List Rs} {R:Value→Heap→Prop}
theorem workMap{b d:Nat}{e:Ed}{s:EdS}{bb:Nat}(hb:H[bb]?=some (.cells (workL b d e s).toArray 100)):rowIn H ⟨bb,14,none⟩ (ints e.map.l).toArray:=
 rowIn_block hb fun j v hv=>match j,hv with
  |0,hv=>hv
  |1,hv=>hv
  |2,hv=>hv
  |3,hv=>hv
  |4,hv=>hv
  |5,hv=>hv
  |j+6,hv=>by simp[ints,M6.l] at hv
def placeF(e:Ed)(f:LayF):Int×LayF:=if f.kind≠0 then(41,f) else if e.n≠0∧e.n≠1 then(32,f) else if (backM e.map).1≠0 then((backM e.map).1,f) else(0,{f with map:=e.map,smooth:=e.n==1})
theorem c45{b d:Nat}{e:Ed}{s:EdS}{K:Sl3}{ks:List T}(hs:St H0 H (resRoot b K ks++σ))(hc:cntKs (layKs ks)≤1000000000)(hR:Chg (placeF e) H0 σ R b ks e.id):
 CallsH Tryz.prog 45 #[.agg (workL b d e s).toArray] H R:=by
 refine Tryz.s45 ?_
 unfold Tryz.S45
 refine hs.alc fun b2 H3 hs3=>⟨_,rfl,rowIn_whole (hs3.block 0 rfl),?_⟩
 refine tgt hs3 (by omega) (fun hl H6 hs6=>⟨_,_,rfl,?_⟩) fun fr u K' ks' a H6 hl ha hs6=>⟨_,_,rfl,?_⟩
 ·intro J hJ
  exact br_ne (fun _=>hR.none hl hs6.tail.app.2) fun h=>absurd h (by decide)
 intro J hJ
 have bad: ∀{v:Int} {H':Heap},placeF e fr.f=(v,fr.f)→v≠0→St H0 H' (openR fr (u++[rootFr b]) K' ks'++σ)→R (.int .i64 v) H':=fun hg hv hs=>hR.err hl hg hv hs.app.2
 refine br_ne (fun h=>absurd rfl h) fun _=>⟨a,rfl,_,hs6.elCell 1 rfl (cellsKs_len fr.pre) (cells_1 fr K') ha,br_ne (fun hk=>bad (by unfold placeF;rw[if_pos hk]) (by decide) hs6.tail) fun hk=>?_⟩
 have go: ¬(e.n≠0∧e.n≠1)→J [] H6:=fun hn=>by
  have hF:placeF e fr.f=(if (backM e.map).1≠0 then((backM e.map).1,fr.f) else(0,{fr.f with map:=e.map,smooth:=e.n==1})):=by
   unfold placeF;rw[if_neg (fun hh=>hh hk),if_neg hn]
  refine hJ _ ⟨(ints e.map.l).toArray,rfl,workMap (hs6.block 0 rfl),?_⟩
  refine c78 fun H13 he13=>⟨_,_,rfl,?_⟩
  refine(hs6.step he13).alc fun b16 H17 hs17=>⟨rfl,hs17.putAllA 0 (l:=(backM e.map).2.l) rfl rfl fun H18 hs18=>br_ne (fun hb=>bad (by rw[hF,if_pos hb]) hb (hs18.drop 2)) fun hb=>?_⟩
  rw[if_neg (fun hh=>hh hb)] at hF
  refine⟨(ints e.map.l).toArray,rfl,workMap (hs18.block 1 rfl),_,hs18.get 1 rfl (j:=6) rfl,a,rfl,rfl,?_⟩
  refine hs18.elPutRow 2 rfl (cellsKs_len fr.pre) (j:=9) (vs:=ints e.map.l) (Nat.le_of_ble_eq_true rfl) (Nat.le_of_ble_eq_true rfl) (ints_one _) ha fun H22 hs22=>⟨.inr ⟨_,hs22.get 1 rfl (j:=6) rfl,rfl⟩,a,rfl,?_⟩
  refine hs22.elPut 2 rfl (cellsKs_len fr.pre) (j:=15) (Nat.le_of_ble_eq_true rfl) rfl ha fun H24 hs24=>?_
  exact hR.done hl (P:=fr.P) (M:=fr.M) (A:=fr.A) hF (hs24.drop 2)
 refine⟨_,hs6.get 0 rfl (j:=6) rfl,br_ne (fun h0=>⟨_,hs6.get 0 rfl (j:=6) rfl,br_ne (fun h1=>?_) fun h1=>go fun h=>h.2 h1⟩) fun h0=>go fun h=>h.1 h0⟩
 exact bad (v:=32) (by unfold placeF;rw[if_neg (fun hh=>hh hk),if_pos ⟨h0,h1⟩]) (by decide) hs6.tail
def adjustF(e:Ed)(f:LayF):Int×LayF:=if f.kind≠2 then(41,f) else if tabB e.n e.params=false then(32,f) else(0,{f with table:=e.n,params:=e.params})
theorem c46{b d:Nat}{e:Ed}{s:EdS}{K:Sl3}{ks:List T}(hs:St H0 H (resRoot b K ks++σ))(hc:cntKs (layKs ks)≤1000000000)(hed:rdEd H0 e s)(hpl:e.params.length≤1000000000)(hR:Chg (adjustF e) H0 σ R b ks e.id):
 CallsH Tryz.prog 46 #[.agg (workL b d e s).toArray] H R:=by
 refine Tryz.s46 ?_
 unfold Tryz.S46
 refine hs.alc fun b2 H3 hs3=>⟨_,rfl,rowIn_whole (hs3.block 0 rfl),?_⟩
 refine tgt hs3 (by omega) (fun hl H6 hs6=>⟨_,_,rfl,?_⟩) fun fr u K' ks' a H6 hl ha hs6=>⟨_,_,rfl,?_⟩
 ·exact br_ne (fun _=>hR.none hl hs6.tail.app.2) fun h=>absurd h (by decide)
 have bad: ∀{v:Int} {H':Heap},adjustF e fr.f=(v,fr.f)→v≠0→St H0 H' (openR fr (u++[rootFr b]) K' ks'++σ)→R (.int .i64 v) H':=fun hg hv hs=>hR.err hl hg hv hs.app.2
 refine br_ne (fun h=>absurd rfl h) fun _=>⟨a,rfl,_,hs6.elCell 1 rfl (cellsKs_len fr.pre) (cells_1 fr K') ha,br_ne (fun hk=>bad (by unfold adjustF;rw[if_pos hk]) (by decide) hs6.tail) fun hk=>?_⟩
 have hF:adjustF e fr.f=(if tabB e.n e.params=false then(32,fr.f) else(0,{fr.f with table:=e.n,params:=e.params})):=by unfold adjustF;rw[if_neg (fun hh=>hh hk)]
 refine⟨_,hs6.get 0 rfl (j:=6) rfl,_,_,_,hs6.get 0 rfl (j:=20) rfl,?_⟩
 have hal:=hed.params.length
 refine c79 (hed.params.ext hs6.ext) (by omega) (fun ht=>⟨_,_,_,_,rfl,br_t rfl (bad (by rw[hF,if_pos ht]) (by decide) hs6.tail)⟩) fun ht tb H14 he14=>⟨_,_,_,_,rfl,br_f rfl ?_⟩
 rw[if_neg (by rw[ht];simp)] at hF
 have hs14:=hs6.step he14
 refine⟨_,hs14.get 0 rfl (j:=6) rfl,_,_,_,hs14.get 0 rfl (j:=20) rfl,?_⟩
 refine c80 (hed.params.ext hs14.ext) hpl fun q H20 hq20=>⟨_,_,_,rfl,.inl hq20.ext,a,rfl,?_⟩
 have hs20:=hs14.call hq20
 refine hs20.elPut 2 rfl (cellsKs_len fr.pre) (j:=16) (Nat.le_of_ble_eq_true rfl) rfl ha fun H23 hs23=>⟨a,rfl,?_⟩
 refine hs23.elPut 2 rfl (cellsKs_len fr.pre) (j:=17) (Nat.le_of_ble_eq_true rfl) rfl ha fun H25 hs25=>?_
 refine hR.done hl (P:=fr.P) (M:=fr.M) (A:=q) (K':=K') (ks':=ks') hF ?_
 refine((hs25.perm (τ:= .cell b2 (workL b d e s).toArray 100:: .sl fr.A.p fr.A.l fr.A.c 3 1 (ints fr.f.params)::(openR ⟨fr.hdr,fr.pre,{fr.f with table:=e.n,params:=e.params},fr.P,fr.M,q,fr.post⟩ (u++[rootFr b]) K' ks'++σ)) (permC fun _ x=>?_)).drop 2)
 show List.count x (.sl q.p q.l q.c 3 1 (ints e.params):: .cell b2 (workL b d e s).toArray 100::((.sl fr.hdr.p fr.hdr.l fr.hdr.c 70 19 (cellsKs fr.pre++cellsL {fr.f with table:=e.n,params:=e.params} fr.P.v fr.M.v q.v K'.v++cellsKs fr.post):: .sl fr.P.p fr.P.l fr.P.c 3 1 (ints fr.f.p):: .sl fr.M.p fr.M.l fr.M.c 5 1 (kints .u8 fr.f.mask):: .sl fr.A.p fr.A.l fr.A.c 3 1 (ints fr.f.params)::
  .sl K'.p K'.l K'.c 70 19 (cellsKs ks')::(resKs ks'++(resKs fr.pre++(resKs fr.post++resUp (u++[rootFr b]) fr.hdr))))++σ))=
  List.count x (.cell b2 (workL b d e s).toArray 100:: .sl fr.A.p fr.A.l fr.A.c 3 1 (ints fr.f.params)::((.sl fr.hdr.p fr.hdr.l fr.hdr.c 70 19 (cellsKs fr.pre++cellsL {fr.f with table:=e.n,params:=e.params} fr.P.v fr.M.v q.v K'.v++cellsKs fr.post):: .sl fr.P.p fr.P.l fr.P.c 3 1 (ints fr.f.p):: .sl fr.M.p fr.M.l fr.M.c 5 1 (kints .u8 fr.f.mask):: .sl q.p q.l q.c 3 1 (ints e.params):: .sl K'.p K'.l K'.c 70 19 (cellsKs ks')::(resKs ks'++(resKs fr.pre++(resKs fr.post++resUp (u++[rootFr b]) fr.hdr))))++σ))
 simp only[List.count_append,List.count_cons]
 ac_rfl
def stepL(w h next:Int)(D:List Lay)(e:Ed):Int×List Lay:=
 if e.kind=1 then addL next D e else if e.kind=2 then removeL D e.id else if e.kind=3 then moveL D e else if e.kind=4 then chgL (paintF e) D e.id else if e.kind=5 then chgL (lookF e) D e.id else
 if e.kind=6 then chgL (hideF e) D e.id else if e.kind=7 then chgL (maskF w h e) D e.id else if e.kind=8 then chgL (placeF e) D e.id else if e.kind=9 then chgL (adjustF e) D e.id else(41,[])
def nextL(next:Int)(e:Ed):Int:=if e.kind=1 then next+1 else next
structure EdOk(H0:Heap)(e:Ed)(s:EdS):Prop where
 rd:rdEd H0 e s
 shape:e.shape.length≤1000000000
 params:e.params.length≤1000000000
def kindFn(k:Int):Nat:=if k=1 then 38 else if k=2 then 39 else if k=3 then 40 else if k=4 then 41 else if k=5 then 42 else if k=6 then 43 else if k=7 then 44 else if k=8 then 45 else 46
theorem edit_call{b d:Nat}{e:Ed}{s:EdS}{K K0:Sl3}{ks:List T}{w h next:Int}(hk:1≤e.kind∧e.kind≤9)(hs:St H0 H (resRoot b K ks++(.cell d (docA w h next K0) 26::σ)))(hc:cntKs (layKs ks)≤1000000000)(hnx:0≤next∧next≤1000000000000000)(hsz:e.kind=7→sizedB w h=true)(hed:EdOk H0 e s)
 (hras: ∀fr u ks',flK [] [] e.id (layKs ks)=some (fr::u,ks')→okRas fr.f)
 (hbad: ∀H',(stepL w h next (layKs ks) e).1≠0→St H0 H' σ→R (.int .i64 (stepL w h next (layKs ks) e).1) H')
 (hok: ∀Kn ksn H',(stepL w h next (layKs ks) e).1=0→layKs ksn=(stepL w h next (layKs ks) e).2→St H0 H' (resRoot b Kn ksn++(.cell d (docA w h (nextL next e) K0) 26::σ))→R (.int .i64 0) H'):
 CallsH Tryz.prog (kindFn e.kind) #[.agg (workL b d e s).toArray] H R:=by
 have hsl:s.S.l≤1000000000:=by rw[←hed.rd.shape.len];exact hed.shape
 by_cases k1:e.kind=1
 ·have hst:stepL w h next (layKs ks) e=addL next (layKs ks) e:=by unfold stepL;rw[if_pos k1]
  have hnl:nextL next e=next+1:=by unfold nextL;rw[if_pos k1]
  rw[hst] at hbad hok
  rw[hnl] at hok
  rw[show kindFn e.kind=38 from by unfold kindFn;rw[if_pos k1]]
  exact c38 hs hc hnx hbad hok
 have hnl:nextL next e=next:=by unfold nextL;rw[if_neg k1]
 rw[hnl] at hok
 by_cases k2:e.kind=2
 ·have hst:stepL w h next (layKs ks) e=removeL (layKs ks) e.id:=by unfold stepL;rw[if_neg k1,if_pos k2]
  rw[hst] at hbad hok
  rw[show kindFn e.kind=39 from by unfold kindFn;rw[if_neg k1,if_pos k2]]
  refine c39 hs hc (fun hz H' he=>?_) fun fr u K' ks' Kn ksn H' hz hl hs'=>?_
  ·rcases find_cases b K ks e.id with ⟨_,hl⟩|⟨fr,u,K',ks',hz',_,_⟩
   ·have hr:removeL (layKs ks) e.id=(40,[]):=by unfold removeL;rw[hl]
    have:=hbad H' (by rw[hr];decide) (hs.step he).app.2.tail
    rw[hr] at this;exact this
   ·rw[hz] at hz';cases hz'
  ·rcases find_cases b K ks e.id with ⟨hz',_⟩|⟨fr',u',K'',ks'',hz',_,hl'⟩
   ·rw[hz] at hz';cases hz'
   ·rw[hz] at hz'
    simp only[Option.some.injEq,Prod.mk.injEq,List.cons.injEq] at hz'
    obtain⟨⟨rfl,hu⟩,rfl,rfl⟩:=hz'
    have hu:=List.append_cancel_right hu
    subst hu
    have hr:removeL (layKs ks) e.id=(0,plugL (u.map Fr.lay) (layKs fr.pre++layKs fr.post)):=by unfold removeL;rw[hl'];rfl
    refine hok Kn ksn H' (by rw[hr]) (by rw[hr];exact hl) (St.app (σ:=resT (fr.node K' ks')) (τ:=resRoot b Kn ksn++(.cell d (docA w h next K0) 26::σ)) (hs'.perm (permC fun _ x=>by simp only[List.count_append,List.count_cons];ac_rfl))).2
 by_cases k3:e.kind=3
 ·have hst:stepL w h next (layKs ks) e=moveL (layKs ks) e:=by unfold stepL;rw[if_neg k1,if_neg k2,if_pos k3]
  rw[hst] at hbad hok
  rw[show kindFn e.kind=40 from by unfold kindFn;rw[if_neg k1,if_neg k2,if_pos k3]]
  exact c40 hs hc (fun H' h1 h2=>hbad H' h1 h2.tail) hok
 have chg: ∀{g:LayF→Int×LayF},stepL w h next (layKs ks) e=chgL g (layKs ks) e.id→Chg g H0 (.cell d (docA w h next K0) 26::σ) R b ks e.id:=fun{g} hst=>by
  rw[hst] at hbad hok
  exact⟨fun H' h1 h2=>hbad H' h1 h2.tail,hok⟩
 by_cases k4:e.kind=4
 ·rw[show kindFn e.kind=41 from by unfold kindFn;rw[if_neg k1,if_neg k2,if_neg k3,if_pos k4]]
  exact c41 hs hc hed.rd hras (chg (by unfold stepL;rw[if_neg k1,if_neg k2,if_neg k3,if_pos k4]))
 by_cases k5:e.kind=5
 ·rw[show kindFn e.kind=42 from by unfold kindFn;rw[if_neg k1,if_neg k2,if_neg k3,if_neg k4,if_pos k5]]
  exact c42 hs hc (chg (by unfold stepL;rw[if_neg k1,if_neg k2,if_neg k3,if_neg k4,if_pos k5]))
 by_cases k6:e.kind=6
 ·rw[show kindFn e.kind=43 from by unfold kindFn;rw[if_neg k1,if_neg k2,if_neg k3,if_neg k4,if_neg k5,if_pos k6]]
  exact c43 hs hc (chg (by unfold stepL;rw[if_neg k1,if_neg k2,if_neg k3,if_neg k4,if_neg k5,if_pos k6]))
 by_cases k7:e.kind=7
 ·rw[show kindFn e.kind=44 from by unfold kindFn;rw[if_neg k1,if_neg k2,if_neg k3,if_neg k4,if_neg k5,if_neg k6,if_pos k7]]
  exact c44 hs hc hed.rd hsl (hsz k7) (chg (by unfold stepL;rw[if_neg k1,if_neg k2,if_neg k3,if_neg k4,if_neg k5,if_neg k6,if_pos k7]))
 by_cases k8:e.kind=8
 ·rw[show kindFn e.kind=45 from by unfold kindFn;rw[if_neg k1,if_neg k2,if_neg k3,if_neg k4,if_neg k5,if_neg k6,if_neg k7,if_pos k8]]
  exact c45 hs hc (chg (by unfold stepL;rw[if_neg k1,if_neg k2,if_neg k3,if_neg k4,if_neg k5,if_neg k6,if_neg k7,if_pos k8]))
 ·have k9:e.kind=9:=by omega
  rw[show kindFn e.kind=46 from by unfold kindFn;rw[if_neg k1,if_neg k2,if_neg k3,if_neg k4,if_neg k5,if_neg k6,if_neg k7,if_neg k8]]
  exact c46 hs hc hed.rd hed.params (chg (by unfold stepL;rw[if_neg k1,if_neg k2,if_neg k3,if_neg k4,if_neg k5,if_neg k6,if_neg k7,if_neg k8,if_pos k9]))
end Go.Proofs
namespace Go.Proofs
open Go.Sh
variable {H0 H:Heap} {σ:List Rs} {R:Value→Heap→Prop}
theorem docA_one(w h next:Int)(K:Sl3): ∀v∈(docA w h next K).toList,v.oneCell'=true:=by
 unfold docA
 simp only[List.forall_mem_cons]
 exact⟨rfl,rfl,rfl,rfl,fun _ h=>by cases h⟩
theorem edL_one(e:Ed)(s:EdS): ∀v∈edL e s,v.oneCell'=true:=by
 unfold edL
 simp only[List.forall_mem_cons]
 exact⟨rfl,rfl,rfl,rfl,rfl,rfl,rfl,rfl,rfl,rfl,rfl,rfl,rfl,rfl,rfl,rfl,rfl,rfl,rfl,fun _ h=>by cases h⟩
theorem workL_one(b d:Nat)(e:Ed)(s:EdS): ∀v∈workL b d e s,v.oneCell'=true:=by
 unfold workL
 simp only[List.forall_mem_cons]
 exact⟨rfl,rfl,edL_one e s⟩
theorem c37{d:Nat}{w h next:Int}{K:Sl3}(hb:H[d]?=some (.cells (docA w h next K) 26))(hR: ∀b H',St H H' [.cell b (cellsT (rootT K [])).toArray 70]→R (.pointer (some ⟨b,0,none⟩)) H'):CallsH Tryz.prog 37 #[.pointer (some ⟨d,0,none⟩)] H R:=by
 refine Tryz.s37 ?_
 unfold Tryz.S37
 exact⟨_,rfl,_,_,_,cell_get (i:=3) hb rfl,(St.nil H).alc fun b4 H5 hs5=>hR b4 H5 hs5⟩
theorem mk_root{b:Nat}{K:Sl3}{ks:List T}(hs:St H0 H (.cell b (cellsT (rootT K [])).toArray 70::(resG K ks++σ))):St H0 H (resRoot b K ks++σ):=by
 have h1:=hs.toSl 0 (l:=1) (k:=19) (fs:=cellsKs [rootT K ks]) rfl rfl (by rw[cellsKs_one];rfl) (by rw[cellsKs_one];exact cellsT_one _)
 have h2:=((h1.nilSl 3 1).nilSl 5 1).nilSl 3 1
 refine h2.perm (permC fun _ x=>?_)
 have e1:resRoot b K ks= .sl (some ⟨b,0,none⟩) 1 1 70 19 (cellsKs [rootT K ks]):: .sl none 0 0 3 1 []:: .sl none 0 0 5 1 []:: .sl none 0 0 3 1 []::resG K ks:=by
  unfold resRoot
  rw[resG,resKs_one,rootT,resT_mk];rfl
 rw[e1]
 show List.count x (.sl none 0 0 3 1 []:: .sl none 0 0 5 1 []:: .sl none 0 0 3 1 []:: .sl (some ⟨b,0,none⟩) 1 1 70 19 (cellsKs [rootT K ks])::(resG K ks++σ))=_
 simp only[List.count_append,List.count_cons]
 ac_rfl
theorem un_root{b:Nat}{K:Sl3}{ks:List T}(hs:St H0 H (resRoot b K ks++σ)):Sh.cell H ⟨b,18,none⟩=some (.slice K.p K.l K.c)∧St H0 H (resG K ks++σ):=by
 obtain⟨a0,h1,h2,h3⟩:=hs.grp.get (i:=0) (t:=rootT K ks) rfl
 cases h1
 rw[Nat.zero_mul,add_none] at h2
 refine⟨h2 18 _ rfl,?_⟩
 have e1:resRoot b K ks= .sl (some ⟨b,0,none⟩) 1 1 70 19 (cellsKs [rootT K ks]):: .sl none 0 0 3 1 []:: .sl none 0 0 5 1 []:: .sl none 0 0 3 1 []::resG K ks:=by
  unfold resRoot
  rw[resG,resKs_one,rootT,resT_mk];rfl
 rw[e1] at hs
 exact hs.drop 4
def doL(w h next:Int)(D:List Lay)(e:Ed):Int×Int×List Lay:=
 if e.kind<1∨e.kind>9 then(41,0,[]) else if (stepL w h next D e).1≠0 then((stepL w h next D e).1,0,[]) else(0,nextL next e,(stepL w h next D e).2)
def kindsA:Array Value:=#[Value.func (.func 38) #[] #[],Value.func (.func 39) #[] #[],Value.func (.func 40) #[] #[],Value.func (.func 41) #[] #[],Value.func (.func 42) #[] #[],Value.func (.func 43) #[] #[],Value.func (.func 44) #[] #[],Value.func (.func 45) #[] #[],Value.func (.func 46) #[] #[]]
theorem kinds_get{k:Int}(h:1≤k∧k≤9):kindsA[(k-1).toNat]?=some (.func (.func (kindFn k)) #[] #[]):=by
 obtain⟨h1,h2⟩:=h
 obtain⟨n,rfl⟩: ∃n:Nat,k=n:=⟨k.toNat,by omega⟩
 obtain⟨m,rfl⟩: ∃m:Nat,n=m+1:=⟨n-1,by omega⟩
 rw[show(((m+1:Nat):Int)-1).toNat=m from by omega]
 have:m<9:=by omega
 obtain rfl|rfl|rfl|rfl|rfl|rfl|rfl|rfl|rfl:m=0∨m=1∨m=2∨m=3∨m=4∨m=5∨m=6∨m=7∨m=8:=by omega
 all_goals rfl
theorem c21{e:Ed}{s:EdS}{K:Sl3}{ks:List T}{w h next:Int}(hg:grp H K ks)(hokl:okKs (layKs ks))(hc:cntKs (layKs ks)≤1000000000)(hnx:0≤next∧next≤1000000000000000)(hsz:e.kind=7→sizedB w h=true)(hed:EdOk H e s)
 (hras: ∀fr u ks',flK [] [] e.id (layKs ks)=some (fr::u,ks')→okRas fr.f)
 (hbad: ∀H',(doL w h next (layKs ks) e).1≠0→Ext H H'→R (.tuple #[.agg (docA 0 0 0 .nil),.int .i64 (doL w h next (layKs ks) e).1]) H')
 (hok: ∀K' ks' H',(doL w h next (layKs ks) e).1=0→layKs ks'=(doL w h next (layKs ks) e).2.2→St H H' (resG K' ks')→R (.tuple #[.agg (docA w h (doL w h next (layKs ks) e).2.1 K'),.int .i64 0]) H'):
 CallsH Tryz.prog 21 #[.agg (docA w h next K),.agg (edL e s).toArray] H R:=by
 have hlk:=len_cnt (layKs ks)
 rw[layKs_len] at hlk
 refine Tryz.s21 ?_
 unfold Tryz.S21
 refine(St.nil H).alc fun b3 H4 hs4=>hs4.alc fun b5 H6 hs6=>hs6.alc fun b7 H8 hs8=>?_
 intro J9 hJ9
 have main9: ∀(db:Nat) (K':Sl3) (ks':List T) (H11:Heap),layKs ks'=layKs ks→St H H11 (.cell db (docA w h next K') 26:: .cell b7 (docA 0 0 0 .nil) 26:: .cell b5 (edL e s).toArray 44::(resG K' ks'))→J9 [.pointer (some ⟨db,0,none⟩)] H11:=by
  intro db K' ks' H11 hlay hs11
  refine hJ9 _ _ ?_
  intro J12 hJ12
  have main12: ∀(wb rb:Nat) (H14:Heap),St H H14 (.cell wb (workL rb db e s).toArray 100:: .cell db (docA w h next K') 26:: .cell b7 (docA 0 0 0 .nil) 26:: .cell b5 (edL e s).toArray 44::(resRoot rb K' ks'))→J12 [.pointer (some ⟨wb,0,none⟩)] H14:=by
   intro wb rb H14 hs14
   refine hJ12 _ _ ?_
   refine hs14.alc fun b15 H16 hs16=>?_
   intro J17 hJ17
   have bad: ∀{v:Int} {n:Int} {x:List Lay} {H1:Heap} {τ:List Rs},doL w h next (layKs ks) e=(v,n,x)→v≠0→ ∀(i:Nat),τ[i]?=some (.cell b7 (docA 0 0 0 .nil) 26)→St H H1 τ→
    (#[Value.int .i64 0,Value.int .i64 0,Value.int .i64 0,Value.slice none 0 0].size=4∧stAt H1 ⟨b7,0,none⟩ (Array.toList #[Value.int .i64 0,Value.int .i64 0,Value.int .i64 0,Value.slice none 0 0]) fun H_36=> ∃res37:Array Value,res37.size=4∧rowIn H_36 ⟨b7,0,none⟩ res37∧R (Value.tuple #[Value.agg res37,Value.int .i64 v]) H_36):=fun{v n x H1 τ} hd hv i hi hs=>
    ⟨rfl,hs.putAll i hi rfl (docA_one 0 0 0 .nil) fun H2 hs2=>⟨docA 0 0 0 .nil,rfl,rowIn_whole (hs2.block i (by rw[List.getElem?_set_self (List.getElem?_eq_some_iff.1 hi).1];rfl)),by
     have:=hbad H2 (by rw[hd];exact hv) hs2.ext
     rw[hd] at this;exact this⟩⟩
   refine⟨_,hs16.get 4 rfl (j:=0) rfl,br_dec (fun hk=>bad (by unfold doL;rw[if_pos (.inl hk)]) (by decide) 3 rfl hs16) fun hk1=>⟨_,hs16.get 4 rfl (j:=0) rfl,br_dec (fun hk=>bad (by unfold doL;rw[if_pos (.inr hk)]) (by decide) 3 rfl hs16) fun hk2=>hJ17 _ ?_⟩⟩
   have hk1: ¬e.kind<1:=hk1
   have hk2: ¬e.kind>9:=hk2
   have hD:doL w h next (layKs ks) e=(if (stepL w h next (layKs ks) e).1≠0 then((stepL w h next (layKs ks) e).1,0,[]) else(0,nextL next e,(stepL w h next (layKs ks) e).2)):=by
    unfold doL;rw[if_neg (by omega)]
   refine⟨_,hs16.get 4 rfl (j:=0) rfl,_,rfl,?_⟩
   show 0≤(IntKind.wrap .i64 (e.kind-(1:Int)))∧_
   rw[wrap_id (n:=e.kind-1) (by omega) (by omega)]
   refine⟨by omega,by omega,kindFn e.kind,#[],#[],?_,_,rfl,rowIn_whole (hs16.block 1 rfl),?_⟩
   ·rw[Nat.mul_one,add_none,Nat.zero_add]
    exact hs16.get 0 rfl (kinds_get ⟨by omega,by omega⟩)
   show CallsH Tryz.prog (kindFn e.kind) #[.agg (workL rb db e s).toArray] H16 _
   have hs17:St H H16 (resRoot rb K' ks'++(.cell db (docA w h next K') 26:: .cell b7 (docA 0 0 0 .nil) 26:: .cell wb (workL rb db e s).toArray 100::[])):=by
    have h1:=St.del (St.tail hs16) 3
    exact h1.perm (permC fun _ x=>by
     show List.count x (.cell wb (workL rb db e s).toArray 100:: .cell db (docA w h next K') 26:: .cell b7 (docA 0 0 0 .nil) 26::resRoot rb K' ks')=_
     simp only[List.count_append,List.count_cons,List.count_nil];ac_rfl)
   refine edit_call ⟨by omega,by omega⟩ hs17 (by rw[hlay];exact hc) hnx hsz ⟨hed.rd,hed.shape,hed.params⟩ (by rw[hlay];exact hras) (fun H24 hne hs24=>⟨_,rfl,br_ne (fun _=>?_) fun hh=>absurd hh hne⟩) fun Kn ksn H24 h0 hl hs24=>⟨_,rfl,br_ne (fun hh=>absurd rfl hh) fun _=>?_⟩
   ·rw[hlay] at hne ⊢
    exact bad (by rw[hD,if_pos hne]) hne 0 rfl hs24
   ·rw[hlay] at h0 hl
    rw[if_neg (by rw[h0];simp)] at hD
    obtain⟨hcell,hs25⟩:=un_root hs24
    have hs26:St H H24 (.cell wb (workL rb db e s).toArray 100:: .cell db (docA w h (nextL next e) K') 26:: .cell b7 (docA 0 0 0 .nil) 26::(resG Kn ksn)):=hs25.perm (permC fun _ x=>by
     simp only[List.count_append,List.count_cons,List.count_nil];ac_rfl)
    refine⟨_,hs26.get 0 rfl (j:=0) rfl,_,rfl,_,_,_,hcell,?_⟩
    refine hs26.put 1 rfl (j:=3) (Nat.le_of_ble_eq_true rfl) rfl fun H31 hs31=>⟨docA w h (nextL next e) Kn,rfl,rowIn_whole (hs31.block 1 rfl),rfl,?_⟩
    refine hs31.putAll 2 rfl rfl (docA_one w h (nextL next e) Kn) fun H33 hs33=>⟨docA w h (nextL next e) Kn,rfl,rowIn_whole (hs33.block 2 rfl),?_⟩
    have:=hok Kn ksn H33 (by rw[hD]) (by rw[hD];exact hl) (hs33.drop 3)
    rw[hD] at this
    exact this
  have hb5: ∀{H1:Heap},Ext H11 H1→rowIn H1 ⟨b5,0,none⟩ (edL e s).toArray:=fun he=>rowAt_ext he (rowIn_whole (hs11.block 2 rfl))
  refine⟨(edL e s).toArray,rfl,hb5 (Ext.refl _),?_,?_⟩
  ·refine c37 (hs11.block 0 rfl) fun rb H43 hp43=>⟨_,rfl,.inl hp43.ext,rfl,by decide,?_⟩
   have hs43:=hs11.call hp43
   refine hs43.alcE fun b45 H46 he46 hs46=>⟨.inl he46,rfl,hs46.putAll 0 rfl rfl (workL_one rb db e s) fun H47 hs47=>main12 b45 rb H47 ?_⟩
   have h1:St H H47 (.cell rb (cellsT (rootT K' [])).toArray 70::(resG K' ks'++(.cell b45 (workL rb db e s).toArray 100:: .cell db (docA w h next K') 26:: .cell b7 (docA 0 0 0 .nil) 26:: .cell b5 (edL e s).toArray 44::[]))):=hs47.perm (permC fun _ x=>by
    show List.count x (.cell b45 (workL rb db e s).toArray 100:: .cell rb (cellsT (rootT K' [])).toArray 70:: .cell db (docA w h next K') 26:: .cell b7 (docA 0 0 0 .nil) 26:: .cell b5 (edL e s).toArray 44::(resG K' ks'))=_
    simp only[List.count_append,List.count_cons,List.count_nil];ac_rfl)
   exact(mk_root h1).perm (permC fun _ x=>by simp only[List.count_append,List.count_cons,List.count_nil];ac_rfl)
  ·refine hs11.alcE fun b50 H51 he51 hs51=>⟨.inl he51,?_⟩
   refine c37 (hs51.block 1 rfl) fun rb H53 hp53=>⟨_,rfl,.inl hp53.ext,rfl,by decide,rfl,?_⟩
   have hs53:=hs51.call hp53
   refine hs53.putAll 1 rfl rfl (workL_one rb db e s) fun H55 hs55=>main12 b50 rb H55 ?_
   have h1:St H H55 (.cell rb (cellsT (rootT K' [])).toArray 70::(resG K' ks'++(.cell b50 (workL rb db e s).toArray 100:: .cell db (docA w h next K') 26:: .cell b7 (docA 0 0 0 .nil) 26:: .cell b5 (edL e s).toArray 44::[]))):=hs55.perm (permC fun _ x=>by
    show List.count x (.cell rb (cellsT (rootT K' [])).toArray 70:: .cell b50 (workL rb db e s).toArray 100:: .cell db (docA w h next K') 26:: .cell b7 (docA 0 0 0 .nil) 26:: .cell b5 (edL e s).toArray 44::(resG K' ks'))=_
    simp only[List.count_append,List.count_cons,List.count_nil];ac_rfl)
   exact(mk_root h1).perm (permC fun _ x=>by simp only[List.count_append,List.count_cons,List.count_nil];ac_rfl)
 refine⟨_,hs8.get 2 rfl (j:=0) rfl,_,hs8.get 2 rfl (j:=1) rfl,_,hs8.get 2 rfl (j:=2) rfl,_,_,_,hs8.get 2 rfl (j:=3) rfl,?_,?_⟩
 ·refine c36 (K:=K) (hg.ext hs8.ext) hokl (by omega) fun K' ks' H63 hlay hp63=>⟨_,_,_,rfl,.inl hp63.ext,?_⟩
  have hs63:=hs8.callR hp63
  refine hs63.alcE fun b65 H66 he66 hs66=>⟨.inl he66,rfl,hs66.putAll 0 rfl rfl (docA_one w h next K') fun H67 hs67=>main9 b65 K' ks' H67 hlay ?_⟩
  exact(St.del hs67 3)
 ·refine hs8.alcE fun b74 H75 he75 hs75=>⟨.inl he75,?_⟩
  refine c36 (K:=K) (hg.ext hs75.ext) hokl (by omega) fun K' ks' H77 hlay hp77=>⟨_,_,_,rfl,.inl hp77.ext,rfl,?_⟩
  have hs77:=hs75.callR hp77
  refine hs77.putAll 0 rfl rfl (docA_one w h next K') fun H79 hs79=>main9 b74 K' ks' H79 hlay ?_
  exact(St.del hs79 3)
end Go.Proofs
namespace Go.Proofs
open Go.Sh
theorem gD_left{α:Type}(a b:List α)(d:α)(i:Nat)(h:i<a.length):(a++b).getD i d=a.getD i d:=by simp[List.getD_eq_getElem?_getD,List.getElem?_append_left h]
theorem gD_right{α:Type}(a b:List α)(d:α)(i:Nat)(h:a.length≤i):(a++b).getD i d=b.getD (i-a.length) d:=by simp[List.getD_eq_getElem?_getD,List.getElem?_append_right h]
theorem gD_none{α:Type}(a:List α)(d:α){i:Nat}(h:a.length≤i):a.getD i d=d:=by simp[List.getD_eq_getElem?_getD,List.getElem?_eq_none h]
def bpos(hi:Bool)(i:Nat):Nat:=if hi then 7-i%8 else i%8
def bitB(hi:Bool)(B:List Int)(i:Nat):Int:=B.getD (i/8) 0/2^bpos hi i%2
theorem bpos_lt(hi:Bool)(i:Nat):bpos hi i<8:=by unfold bpos;split<;>omega
theorem bpos_ne{hi:Bool}{i j:Nat}(h:i/8=j/8)(hne:i≠j):bpos hi i≠bpos hi j:=by unfold bpos;split<;>omega
theorem pow_cast(n:Nat):((2^n:Nat):Int)=(2:Int)^n:=by simp
theorem two_pow_pos(n:Nat):(0:Int)<2^n:=Int.pow_pos (by omega)
theorem ofInt_nat{n:Nat}{x:Int}(h0:0≤x)(h1:x<2^n):(BitVec.ofInt n x).toNat=x.toNat:=by
 rw[BitVec.toNat_ofInt]
 congr 1
 rw[pow_cast];exact Int.emod_eq_of_lt h0 h1
theorem or_sum{a b:Int}{k:Nat}(a0:0≤a)(ak:a<2^k)(b0:0≤b)(hs:a+b*2^k<9223372036854775808):orI .i64 a (b*2^k)=a+b*2^k:=by
 have hp:=two_pow_pos k
 have hb:0≤b*2^k:=Int.mul_nonneg b0 (Int.le_of_lt hp)
 have e64:(2:Int)^64=18446744073709551616:=by decide
 unfold orI
 rw[show IntKind.bits .i64=64 from rfl,BitVec.toNat_or,ofInt_nat a0 (by omega),ofInt_nat hb (by omega)]
 have h1:(b*2^k).toNat=2^k*b.toNat:=by
  obtain⟨n,rfl⟩:=Int.eq_ofNat_of_zero_le b0
  rw[←pow_cast,←Int.natCast_mul,Int.toNat_natCast,Int.toNat_natCast,Nat.mul_comm]
 have h2:a.toNat<2^k:=by
  have:=pow_cast k;omega
 rw[h1,Nat.or_comm,←Nat.two_pow_add_eq_or_of_lt h2,←h1]
 rw[wrap_id (by omega) (by omega)]
 omega
theorem or_sum'{a b:Int}{k:Nat}(a0:0≤a)(ak:a<2^k)(b0:0≤b)(hs:a+b*2^k<9223372036854775808):orI .i64 (b*2^k) a=a+b*2^k:=by
 rw[←or_sum a0 ak b0 hs]
 unfold orI
 rw[BitVec.or_comm]
theorem shl_of{x:Int}{k:Nat}(h0:0≤x)(hk:k≤62)(hs:x*2^k<9223372036854775808):shlI .i64 x k=x*2^k:=by
 unfold shlI
 rw[show min (k:Int).toNat (IntKind.bits .i64)=k from by rw[Int.toNat_natCast];exact Nat.min_eq_left (by show k≤64;omega)]
 have:=Int.mul_nonneg h0 (Int.le_of_lt (two_pow_pos k))
 exact wrap_id (by omega) (by omega)
theorem or_byte: ∀(x:Fin 256) (j:Fin 8) (b:Fin 2),x.val/2^j.val%2=0→orI .u8 (x.val:Int) (shlI .u8 (b.val:Int) (j.val:Int))=((x.val+b.val*2^j.val:Nat):Int)∧x.val+b.val*2^j.val<256:=by decide+kernel
theorem bit_set: ∀(x:Fin 256) (j:Fin 8) (b:Fin 2) (i:Fin 8),x.val/2^j.val%2=0→(x.val+b.val*2^j.val)/2^i.val%2=if i=j then b.val else x.val/2^i.val%2:=by decide+kernel
structure WOk(hi:Bool)(ws B:List Int):Prop where
 len:B.length=(ws.length+7)/8
 rng: ∀x∈B,0≤x∧x<256
 bit: ∀i:Nat,bitB hi B i=ws.getD i 0
theorem WOk.nil(hi:Bool):WOk hi [] []:=⟨rfl,by simp,fun i=>by simp[bitB]⟩
theorem WOk.put{hi:Bool}{ws B:List Int}{b:Int}(h:WOk hi ws B)(hb:b=0∨b=1){C:List Int}(hC:C=if ws.length%8=0 then B++[0] else B):
 ∃x,C[ws.length/8]?=some x∧0≤x∧x<256∧WOk hi (ws++[b]) (C.set (ws.length/8) (orI .u8 x (shlI .u8 b (bpos hi ws.length)))):=by
 have hl:=h.len
 have hlen:C.length=ws.length/8+1:=by
  rw[hC];split
  ·simp;omega
  ·omega
 have hr: ∀x∈C,0≤x∧x<256:=by
  rw[hC];split
  ·intro x hx
   rcases List.mem_append.1 hx with hx|hx
   ·exact h.rng x hx
   ·simp at hx;subst hx;omega
  ·exact h.rng
 have hbit: ∀i:Nat,bitB hi C i=ws.getD i 0:=fun i=>by
  rw[←h.bit i,hC]
  split
  ·unfold bitB
   by_cases hi':i/8<B.length
   ·rw[gD_left _ _ _ _ hi']
   ·rw[gD_none B _ (by omega)]
    by_cases he:i/8=B.length
    ·rw[gD_right _ _ _ _ (by omega),he,Nat.sub_self];rfl
    ·rw[gD_none _ _ (by simp;omega)]
  ·rfl
 have hx:C[ws.length/8]?=some (C.getD (ws.length/8) 0):=by
  rw[List.getD_eq_getElem?_getD,List.getElem?_eq_getElem (by omega)];rfl
 generalize hxe:C.getD (ws.length/8) 0=x at hx
 have hxr:=hr x (List.mem_of_getElem? hx)
 refine⟨x,hx,hxr.1,hxr.2,?_⟩
 obtain⟨n,rfl⟩:=Int.eq_ofNat_of_zero_le hxr.1
 have hn:n<256:=by omega
 obtain⟨c,hc,rfl⟩: ∃c:Nat,c<2∧b=(c:Int):=by
  rcases hb with rfl|rfl
  ·exact⟨0,by omega,rfl⟩
  ·exact⟨1,by omega,rfl⟩
 have hz:n/2^bpos hi ws.length%2=0:=by
  have h1:=hbit ws.length
  unfold bitB at h1
  rw[hxe,gD_none _ _ (Nat.le_refl _),←pow_cast] at h1
  omega
 obtain⟨ho,ho2⟩:=or_byte ⟨n,hn⟩ ⟨bpos hi ws.length,bpos_lt hi _⟩ ⟨c,hc⟩ hz
 simp only at ho ho2
 rw[ho]
 refine⟨by rw[List.length_set,hlen,List.length_append,List.length_singleton];omega,fun y hy=>?_,fun i=>?_⟩
 ·rcases List.mem_or_eq_of_mem_set hy with hy|rfl
  ·exact hr y hy
  ·exact⟨Int.natCast_nonneg _,Int.ofNat_lt.2 ho2⟩
 ·by_cases he:i/8=ws.length/8
  ·have hs:=bit_set ⟨n,hn⟩ ⟨bpos hi ws.length,bpos_lt hi _⟩ ⟨c,hc⟩ ⟨bpos hi i,bpos_lt hi _⟩ hz
   simp only[Fin.mk.injEq] at hs
   have hg:(C.set (ws.length/8) ((n+c*2^bpos hi ws.length:Nat):Int)).getD (i/8) 0=((n+c*2^bpos hi ws.length:Nat):Int):=by
    rw[he,List.getD_eq_getElem?_getD,List.getElem?_set_self (by omega)];rfl
   unfold bitB
   rw[hg,←pow_cast]
   by_cases hil:i=ws.length
   ·subst hil
    rw[if_pos rfl] at hs
    rw[gD_right _ _ _ _ (Nat.le_refl _),Nat.sub_self]
    show _=(c:Int)
    omega
   ·rw[if_neg (bpos_ne he hil)] at hs
    have h1:=hbit i
    unfold bitB at h1
    rw[he,hxe,←pow_cast] at h1
    have h2:(ws++[(c:Int)]).getD i 0=ws.getD i 0:=by
     by_cases hlt:i<ws.length
     ·rw[gD_left _ _ _ _ hlt]
     ·rw[gD_none _ _ (by simp;omega),gD_none _ _ (by omega)]
    rw[h2,←h1]
    omega
  ·have hg:(C.set (ws.length/8) ((n+c*2^bpos hi ws.length:Nat):Int)).getD (i/8) 0=C.getD (i/8) 0:=by
    rw[List.getD_eq_getElem?_getD,List.getElem?_set_ne (Ne.symm he),←List.getD_eq_getElem?_getD]
   have h2:(ws++[(c:Int)]).getD i 0=ws.getD i 0:=by
    by_cases hlt:i<ws.length
    ·rw[gD_left _ _ _ _ hlt]
    ·rw[gD_none _ _ (by simp;omega),gD_none _ _ (by omega)]
   rw[h2,←hbit i]
   unfold bitB
   rw[hg]
end Go.Proofs
namespace Go.Proofs
open Go.Sh
def mulP(a b:Int):Int:=(a*b+127)/255
def bareP(c a:Int):Int:=if a=0 then 0 else min 255 ((255*c+a/2)/a)
def screenP(x y:Int):Int:=x+y-mulP x y
def hardP(x y:Int):Int:=if y<128 then mulP x (2*y) else screenP x (2*y-255)
def blP(mode x y:Int):Int:=
 if mode=1 then mulP x y else if mode=2 then screenP x y else if mode=3 then hardP y x else if mode=4 then min x y else if mode=5 then max x y
 else if mode=6 then(if x=0 then 0 else if y=255 then 255 else min 255 (255*x/(255-y)))
 else if mode=7 then(if x=255 then 255 else if y=0 then 0 else 255-min 255 (255*(255-x)/y))
 else if mode=8 then hardP x y else if mode=9 then max (x-y) (y-x) else if mode=10 then x+y-2*mulP x y
 else if mode=11 then min 255 (max 0 (mulP x x+2*mulP x y-2*mulP (mulP x x) y)) else y
structure C4 where
 r:Int
 g:Int
 b:Int
 a:Int
def C4.l(c:C4):List Int:=[c.r,c.g,c.b,c.a]
def spl(v:Int):C4:=⟨v/16777216%256,v/65536%256,v/256%256,v%256⟩
theorem splitL_spl(v:Int):splitL v=(spl v).l:=rfl
def joinP(c:C4):Int:=c.r*16777216+c.g*65536+c.b*256+c.a
def fadeP(c:C4)(f:Int):C4:=⟨mulP c.r f,mulP c.g f,mulP c.b f,mulP c.a f⟩
def mixP(mode sa da si di:Int):Int:=min (sa+da-mulP sa da) (mulP si (255-da)+mulP di (255-sa)+mulP (mulP sa da) (blP mode (bareP di da) (bareP si sa)))
def blendP(mode:Int)(s d:C4):C4:=⟨mixP mode s.a d.a s.r d.r,mixP mode s.a d.a s.g d.g,mixP mode s.a d.a s.b d.b,s.a+d.a-mulP s.a d.a⟩
def mapP1(t:List Int)(c a:Int):Int:=mulP (t.getD (bareP c a).toNat 0) a
def mapP(t:List Int)(c:C4):C4:=⟨mapP1 t c.r c.a,mapP1 t c.g c.a,mapP1 t c.b c.a,c.a⟩
def adjP1(t:List Int)(f c a:Int):Int:=min a (mulP (mapP1 t c a) f+mulP c (255-f))
def adjP(t:List Int)(f:Int)(c:C4):C4:=⟨adjP1 t f c.r c.a,adjP1 t f c.g c.a,adjP1 t f c.b c.a,c.a⟩
def byte(x:Int):Prop:=0≤x∧x≤255
structure OkC(c:C4):Prop where
 r:0≤c.r∧c.r≤c.a
 g:0≤c.g∧c.g≤c.a
 b:0≤c.b∧c.b≤c.a
 a:c.a≤255
theorem pixelB_iff{v:Int}:pixelB v=true↔(0≤v∧v<4294967296)∧OkC (spl v):=by
 unfold pixelB
 rw[decide_eq_true_iff]
 constructor
 ·intro h
  exact⟨⟨h.1,h.2.1⟩,⟨⟨by simp only[spl];omega,h.2.2.1⟩,⟨by simp only[spl];omega,h.2.2.2.1⟩,⟨by simp only[spl];omega,h.2.2.2.2⟩,by simp only[spl];omega⟩⟩
 ·intro h
  exact⟨h.1.1,h.1.2,h.2.r.2,h.2.g.2,h.2.b.2⟩
theorem C4.ext'{c d:C4}(h1:c.r=d.r)(h2:c.g=d.g)(h3:c.b=d.b)(h4:c.a=d.a):c=d:=by
 cases c;cases d;simp at h1 h2 h3 h4;subst h1 h2 h3 h4;rfl
theorem spl_join{c:C4}(h1:byte c.r)(h2:byte c.g)(h3:byte c.b)(h4:byte c.a):spl (joinP c)=c:=by
 unfold byte at h1 h2 h3 h4
 refine C4.ext' ?_ ?_ ?_ ?_<;>simp only[spl,joinP]<;>omega
theorem OkC.bytes{c:C4}(h:OkC c):byte c.r∧byte c.g∧byte c.b∧byte c.a:=by
 have h1:=h.r;have h2:=h.g;have h3:=h.b;have h4:=h.a
 unfold byte;omega
theorem ok_join{c:C4}(h:OkC c):pixelB (joinP c)=true:=by
 obtain⟨h1,h2,h3,h4⟩:=h.bytes
 rw[pixelB_iff,spl_join h1 h2 h3 h4]
 unfold byte at h1 h2 h3 h4
 exact⟨by simp only[joinP];omega,h⟩
theorem pixZ0:pixelB 0=true:=by decide
theorem spl_byte(v:Int):byte (spl v).r∧byte (spl v).g∧byte (spl v).b∧byte (spl v).a:=by simp only[spl,byte];omega
theorem mul_sq{a b:Int}(ha:byte a)(hb:byte b):0≤a*b∧a*b≤a*255∧a*b≤255*b:=by
 unfold byte at ha hb
 exact⟨Int.mul_nonneg ha.1 hb.1,Int.mul_le_mul_of_nonneg_left hb.2 ha.1,Int.mul_le_mul_of_nonneg_right ha.2 hb.1⟩
theorem mulP_bd{a b:Int}(ha:byte a)(hb:byte b):0≤mulP a b∧mulP a b≤a∧mulP a b≤b:=by
 obtain⟨h1,h2,h3⟩:=mul_sq ha hb
 unfold mulP
 omega
theorem mulP_byte{a b:Int}(ha:byte a)(hb:byte b):byte (mulP a b):=by
 have:=mulP_bd ha hb;unfold byte at*;omega
theorem mulP_mono{a a' b:Int}(h:a≤a')(hb:0≤b):mulP a b≤mulP a' b:=by
 have:=Int.mul_le_mul_of_nonneg_right h hb
 unfold mulP
 omega
theorem mulP_comm(a b:Int):mulP a b=mulP b a:=by unfold mulP;rw[Int.mul_comm]
theorem mulP_255(a:Int):mulP a 255=a:=by unfold mulP;omega
theorem mulP_0(a:Int):mulP a 0=0:=by unfold mulP;omega
theorem mul0P(a:Int):mulP 0 a=0:=by rw[mulP_comm];exact mulP_0 a
theorem mulP_two{a b:Int}(ha:byte a)(hb:0≤b∧b≤511):0≤mulP a b∧mulP a b≤511:=by
 unfold byte at ha
 have h1:=Int.mul_nonneg ha.1 hb.1
 have h2:=Int.mul_le_mul_of_nonneg_right ha.2 hb.1
 unfold mulP
 omega
theorem bareP_byte{c a:Int}(hc:0≤c)(ha:0≤a):byte (bareP c a):=by
 unfold bareP byte
 split
 ·omega
 ·have:0≤(255*c+a/2)/a:=Int.ediv_nonneg (by omega) ha
  omega
theorem screenP_bd{x y:Int}(hx:byte x)(hy:byte y):0≤screenP x y∧screenP x y≤510:=by
 have:=mulP_bd hx hy
 unfold screenP byte at*;omega
theorem hardP_bd{x y:Int}(hx:byte x)(hy:byte y):0≤hardP x y∧hardP x y≤510:=by
 unfold hardP
 split
 ·have:=mulP_bd hx (b:=2*y) (by unfold byte at*;omega)
  unfold byte at*;omega
 ·exact screenP_bd hx (by unfold byte at*;omega)
theorem blP_bd(mode:Int){x y:Int}(hx:byte x)(hy:byte y):0≤blP mode x y∧blP mode x y≤510:=by
 have h1:=mulP_bd hx hy
 have hx':=hx
 have hy':=hy
 unfold byte at hx' hy'
 unfold blP
 by_cases h1':mode=1
 ·rw[if_pos h1'];omega
 rw[if_neg h1']
 by_cases h2:mode=2
 ·rw[if_pos h2];exact screenP_bd hx hy
 rw[if_neg h2]
 by_cases h3:mode=3
 ·rw[if_pos h3];exact hardP_bd hy hx
 rw[if_neg h3]
 by_cases h4:mode=4
 ·rw[if_pos h4];omega
 rw[if_neg h4]
 by_cases h5:mode=5
 ·rw[if_pos h5];omega
 rw[if_neg h5]
 by_cases h6:mode=6
 ·rw[if_pos h6]
  by_cases hx0:x=0
  ·rw[if_pos hx0];omega
  rw[if_neg hx0]
  by_cases hy0:y=255
  ·rw[if_pos hy0];omega
  rw[if_neg hy0]
  have:0≤255*x/(255-y):=Int.ediv_nonneg (by omega) (by omega)
  generalize 255*x/(255-y)=q at this
  omega
 rw[if_neg h6]
 by_cases h7:mode=7
 ·rw[if_pos h7]
  by_cases hx0:x=255
  ·rw[if_pos hx0];omega
  rw[if_neg hx0]
  by_cases hy0:y=0
  ·rw[if_pos hy0];omega
  rw[if_neg hy0]
  have:0≤255*(255-x)/y:=Int.ediv_nonneg (by omega) (by omega)
  generalize 255*(255-x)/y=q at this
  omega
 rw[if_neg h7]
 by_cases h8:mode=8
 ·rw[if_pos h8];exact hardP_bd hx hy
 rw[if_neg h8]
 by_cases h9:mode=9
 ·rw[if_pos h9];omega
 rw[if_neg h9]
 by_cases h10:mode=10
 ·rw[if_pos h10];omega
 rw[if_neg h10]
 by_cases h11:mode=11
 ·rw[if_pos h11]
  generalize mulP x x+2*mulP x y-2*mulP (mulP x x) y=q
  omega
 rw[if_neg h11]
 omega
theorem over_bd{s d:Int}(hs:byte s)(hd:byte d):s≤s+d-mulP s d∧d≤s+d-mulP s d∧s+d-mulP s d≤255:=by
 have h1:=mulP_bd hs hd
 refine⟨by omega,by omega,?_⟩
 unfold byte at hs hd
 have h2:=Int.mul_nonneg (show 0≤255-s by omega) (show 0≤255-d by omega)
 have h3:(255-s)*(255-d)=65025-255*s-255*d+s*d:=by
  rw[Int.sub_mul,Int.mul_sub,Int.mul_sub];omega
 unfold mulP
 omega
theorem mixP_bd(mode:Int){sa da si di:Int}(hsa:byte sa)(hda:byte da)(hsi:0≤si∧si≤255)(hdi:0≤di∧di≤255):0≤mixP mode sa da si di∧mixP mode sa da si di≤sa+da-mulP sa da:=by
 have h1:=over_bd hsa hda
 have h2:=mulP_bd (a:=si) (b:=255-da) hsi (by unfold byte at*;omega)
 have h3:=mulP_bd (a:=di) (b:=255-sa) hdi (by unfold byte at*;omega)
 have h4:=mulP_two (mulP_byte hsa hda) (b:=blP mode (bareP di da) (bareP si sa)) (by
  have:=blP_bd mode (bareP_byte hdi.1 hda.1) (bareP_byte hsi.1 hsa.1);omega)
 unfold mixP byte at*
 omega
theorem blendP_ok(mode:Int){s d:C4}(hs:OkC s)(hd:OkC d):OkC (blendP mode s d):=by
 obtain⟨s1,s2,s3,s4⟩:=hs.bytes
 obtain⟨d1,d2,d3,d4⟩:=hd.bytes
 exact⟨mixP_bd mode s4 d4 s1 d1,mixP_bd mode s4 d4 s2 d2,mixP_bd mode s4 d4 s3 d3,(over_bd s4 d4).2.2⟩
theorem fadeP_ok{c:C4}{f:Int}(hc:OkC c)(hf:byte f):OkC (fadeP c f):=by
 obtain⟨s1,s2,s3,s4⟩:=hc.bytes
 exact⟨⟨(mulP_bd s1 hf).1,mulP_mono hc.r.2 hf.1⟩,⟨(mulP_bd s2 hf).1,mulP_mono hc.g.2 hf.1⟩,⟨(mulP_bd s3 hf).1,mulP_mono hc.b.2 hf.1⟩,by
  have:=mulP_bd s4 hf;have:=hc.a;show mulP c.a f≤255;omega⟩
def TabOk8(t:List Int):Prop:= ∀i,byte (t.getD i 0)
theorem mapP1_bd{t:List Int}{c a:Int}(ht:TabOk8 t)(ha:byte a):0≤mapP1 t c a∧mapP1 t c a≤a:=by
 have:=mulP_bd (ht (bareP c a).toNat) ha
 unfold mapP1;omega
theorem adjP1_bd{t:List Int}{f c a:Int}(ht:TabOk8 t)(hf:byte f)(hc:byte c)(ha:byte a):0≤adjP1 t f c a∧adjP1 t f c a≤a:=by
 have h1:=mapP1_bd (c:=c) ht ha
 have h2:=mulP_bd (a:=mapP1 t c a) (b:=f) (by unfold byte at*;omega) hf
 have h3:=mulP_bd (a:=c) (b:=255-f) hc (by unfold byte at*;omega)
 unfold adjP1 byte at*
 omega
theorem adjP_ok{t:List Int}{f:Int}{c:C4}(ht:TabOk8 t)(hf:byte f)(hc:OkC c):OkC (adjP t f c):=by
 obtain⟨s1,s2,s3,s4⟩:=hc.bytes
 exact⟨adjP1_bd ht hf s1 s4,adjP1_bd ht hf s2 s4,adjP1_bd ht hf s3 s4,hc.a⟩
end Go.Proofs
namespace Go.Proofs
open Go.Sh
variable {H0 H:Heap} {σ:List Rs} {R:Value→Heap→Prop}
theorem c129{a b:Int}(h:0≤a*b∧a*b≤1000000000000)(hR:R (.int .i64 (mulP a b)) H):CallsH Tryz.prog 129 #[.int .i64 a,.int .i64 b] H R:=by
 refine Tryz.s129 ⟨by decide,?_⟩
 rw[wrap_id (n:=a*b) (by omega) (by omega),wrap_id (n:=a*b+127) (by omega) (by omega),Int.tdiv_eq_ediv_of_nonneg (by omega),wrap_id (by omega) (by omega)]
 exact hR
theorem mul_call{a b:Int}(ha:0≤a∧a≤1000000)(hb:0≤b∧b≤1000000)(hR:R (.int .i64 (mulP a b)) H):CallsH Tryz.prog 129 #[.int .i64 a,.int .i64 b] H R:=by
 have h1:=Int.mul_nonneg ha.1 hb.1
 have h2:=Int.mul_le_mul_of_nonneg_left hb.2 ha.1
 exact c129 ⟨h1,by omega⟩ hR
theorem c133{c a:Int}(hc:0≤c∧c≤1000000)(ha:0≤a∧a≤1000000)(hR:R (.int .i64 (bareP c a)) H):CallsH Tryz.prog 133 #[.int .i64 c,.int .i64 a] H R:=by
 refine Tryz.s133 (br_eq (fun h0=>?_) fun h0=>⟨by decide,h0,?_⟩)
 ·rw[show bareP c a=0 from by unfold bareP;rw[if_pos h0]] at hR;exact hR
 ·have hq:0≤(255*c+a/2)/a:=Int.ediv_nonneg (by omega) ha.1
  have hq2:(255*c+a/2)/a≤255*c+a/2:=Int.ediv_le_self _ (by omega)
  rw[Int.tdiv_eq_ediv_of_nonneg ha.1,wrap_id (n:=a/2) (by omega) (by omega),wrap_id (n:=255*c) (by omega) (by omega),wrap_id (n:=255*c+a/2) (by omega) (by omega),Int.tdiv_eq_ediv_of_nonneg (by omega),wrap_id (by omega) (by omega)]
  rw[show bareP c a=min 255 ((255*c+a/2)/a) from by unfold bareP;rw[if_neg h0]] at hR
  exact hR
theorem shlN{x:Int}{k:Int}{n:Nat}(hk:k=n)(h0:0≤x∧x<256)(hn:n≤24):shlI .i64 x k=x*2^n:=by
 subst hk
 refine shl_of h0.1 (by omega) ?_
 have h1:(2:Int)^n≤2^24:=by
  have:=Nat.pow_le_pow_right (n:=2) (by decide) hn
  have e:((2^n:Nat):Int)≤((2^24:Nat):Int):=by exact_mod_cast this
  simpa using e
 have h2:=Int.mul_le_mul_of_nonneg_left h1 h0.1
 have e24:(2:Int)^24=16777216:=by decide
 omega
theorem join_eq{c:C4}(h1:byte c.r)(h2:byte c.g)(h3:byte c.b)(h4:byte c.a):orI .i64 (orI .i64 (orI .i64 (shlI .i64 c.r (24:Int)) (shlI .i64 c.g (16:Int))) (shlI .i64 c.b (8:Int))) c.a=joinP c:=by
 unfold byte at h1 h2 h3 h4
 have e24:(2:Int)^24=16777216:=by decide
 have e16:(2:Int)^16=65536:=by decide
 have e8:(2:Int)^8=256:=by decide
 rw[shlN (k:=24) (n:=24) rfl (by omega) (by omega),shlN (k:=16) (n:=16) rfl (by omega) (by omega),shlN (k:=8) (n:=8) rfl (by omega) (by omega)]
 rw[or_sum' (a:=c.g*2^16) (b:=c.r) (k:=24) (by omega) (by omega) (by omega) (by omega)]
 rw[show c.g*2^16+c.r*2^24=(c.g+c.r*256)*2^16 from by omega]
 rw[or_sum' (a:=c.b*2^8) (b:=c.g+c.r*256) (k:=16) (by omega) (by omega) (by omega) (by omega)]
 rw[show c.b*2^8+(c.g+c.r*256)*2^16=(c.b+c.g*256+c.r*65536)*2^8 from by omega]
 rw[or_sum' (a:=c.a) (b:=c.b+c.g*256+c.r*65536) (k:=8) (by omega) (by omega) (by omega) (by omega)]
 unfold joinP
 omega
theorem c115{c:C4}(h1:byte c.r)(h2:byte c.g)(h3:byte c.b)(h4:byte c.a)(hR: ∀H',Ext H H'→R (.int .i64 (joinP c)) H'):CallsH Tryz.prog 115 #[.agg (ints c.l).toArray] H R:=by
 refine Tryz.s115 ?_
 unfold Tryz.S115
 refine(St.nil H).alc fun b2 H3 hs3=>⟨by decide,by decide,c.r,hs3.rdA 0 (j:=0) rfl rfl,by decide,by decide,by decide,c.g,hs3.rdA 0 (j:=1) rfl rfl,by decide,by decide,by decide,c.b,hs3.rdA 0 (j:=2) rfl rfl,by decide,by decide,by decide,c.a,hs3.rdA 0 (j:=3) rfl rfl,?_⟩
 rw[join_eq h1 h2 h3 h4]
 exact hR H3 hs3.ext
theorem c137{x y:Int}(hx:byte x)(hy:byte y)(hR:R (.int .i64 (screenP x y)) H):CallsH Tryz.prog 137 #[.int .i64 x,.int .i64 y] H R:=by
 have hb:=mulP_bd hx hy
 unfold byte at hx hy
 refine Tryz.s137 (mul_call (by omega) (by omega) ⟨_,rfl,?_⟩)
 rw[wrap_id (n:=x+y) (by omega) (by omega),wrap_id (by omega) (by omega)]
 exact hR
theorem c138{x y:Int}(hx:byte x)(hy:byte y)(hR:R (.int .i64 (hardP x y)) H):CallsH Tryz.prog 138 #[.int .i64 x,.int .i64 y] H R:=by
 have hx':=hx
 have hy':=hy
 unfold byte at hx' hy'
 refine Tryz.s138 (br_dec (fun h=>?_) fun h=>?_)
 ·rw[wrap_id (n:=2*y) (by omega) (by omega)]
  rw[show hardP x y=mulP x (2*y) from by unfold hardP;rw[if_pos h]] at hR
  exact mul_call (by omega) (by omega) ⟨_,rfl,hR⟩
 ·rw[wrap_id (n:=2*y) (by omega) (by omega),wrap_id (n:=2*y-255) (by omega) (by omega)]
  rw[show hardP x y=screenP x (2*y-255) from by unfold hardP;rw[if_neg h]] at hR
  exact c137 hx (by unfold byte;omega) ⟨_,rfl,hR⟩
theorem c132{mode x y:Int}(hx:byte x)(hy:byte y)(hR:R (.int .i64 (blP mode x y)) H):CallsH Tryz.prog 132 #[.int .i64 mode,.int .i64 x,.int .i64 y] H R:=by
 have hb:=mulP_bd hx hy
 have hx':=hx
 have hy':=hy
 unfold byte at hx' hy'
 unfold blP at hR
 refine Tryz.s132 (br_eq (fun h1=>?_) fun h1=>br_eq (fun h2=>?_) fun h2=>br_eq (fun h3=>?_) fun h3=>br_eq (fun h4=>?_) fun h4=>br_eq (fun h5=>?_) fun h5=>br_eq (fun h6=>?_) fun h6=>br_eq (fun h7=>?_) fun h7=>br_eq (fun h8=>?_) fun h8=>br_eq (fun h9=>?_) fun h9=>br_eq (fun h10=>?_) fun h10=>br_eq (fun h11=>?_) fun h11=>?_)
 ·rw[if_pos h1] at hR
  exact mul_call (by omega) (by omega) ⟨_,rfl,hR⟩
 ·rw[if_neg h1,if_pos h2] at hR
  exact c137 hx hy ⟨_,rfl,hR⟩
 ·rw[if_neg h1,if_neg h2,if_pos h3] at hR
  exact c138 hy hx ⟨_,rfl,hR⟩
 ·rw[if_neg h1,if_neg h2,if_neg h3,if_pos h4] at hR
  exact hR
 ·rw[if_neg h1,if_neg h2,if_neg h3,if_neg h4,if_pos h5] at hR
  exact hR
 ·rw[if_neg h1,if_neg h2,if_neg h3,if_neg h4,if_neg h5,if_pos h6] at hR
  refine br_eq (fun g1=>?_) fun g1=>br_eq (fun g2=>?_) fun g2=>?_
  ·rw[if_pos g1] at hR;exact hR
  ·rw[if_neg g1,if_pos g2] at hR;exact hR
  ·rw[if_neg g1,if_neg g2] at hR
   have q1:0≤255*x/(255-y):=Int.ediv_nonneg (by omega) (by omega)
   have q2:255*x/(255-y)≤255*x:=Int.ediv_le_self _ (by omega)
   rw[wrap_id (n:=255-y) (by omega) (by omega),wrap_id (n:=255*x) (by omega) (by omega),Int.tdiv_eq_ediv_of_nonneg (by omega),wrap_id (n:=255*x/(255-y)) (by omega) (by omega)]
   exact⟨by omega,hR⟩
 ·rw[if_neg h1,if_neg h2,if_neg h3,if_neg h4,if_neg h5,if_neg h6,if_pos h7] at hR
  refine br_eq (fun g1=>?_) fun g1=>br_eq (fun g2=>?_) fun g2=>⟨g2,?_⟩
  ·rw[if_pos g1] at hR;exact hR
  ·rw[if_neg g1,if_pos g2] at hR;exact hR
  ·rw[if_neg g1,if_neg g2] at hR
   have q1:0≤255*(255-x)/y:=Int.ediv_nonneg (by omega) (by omega)
   have q2:255*(255-x)/y≤255*(255-x):=Int.ediv_le_self _ (by omega)
   rw[wrap_id (n:=255-x) (by omega) (by omega),wrap_id (n:=255*(255-x)) (by omega) (by omega),Int.tdiv_eq_ediv_of_nonneg (by omega),wrap_id (n:=255*(255-x)/y) (by omega) (by omega),wrap_id (by omega) (by omega)]
   exact hR
 ·rw[if_neg h1,if_neg h2,if_neg h3,if_neg h4,if_neg h5,if_neg h6,if_neg h7,if_pos h8] at hR
  exact c138 hx hy ⟨_,rfl,hR⟩
 ·rw[if_neg h1,if_neg h2,if_neg h3,if_neg h4,if_neg h5,if_neg h6,if_neg h7,if_neg h8,if_pos h9] at hR
  rw[wrap_id (n:=x-y) (by omega) (by omega),wrap_id (n:=y-x) (by omega) (by omega)]
  exact hR
 ·rw[if_neg h1,if_neg h2,if_neg h3,if_neg h4,if_neg h5,if_neg h6,if_neg h7,if_neg h8,if_neg h9,if_pos h10] at hR
  refine mul_call (by omega) (by omega) ⟨_,rfl,?_⟩
  rw[wrap_id (n:=x+y) (by omega) (by omega),wrap_id (n:=2*mulP x y) (by omega) (by omega),wrap_id (by omega) (by omega)]
  exact hR
 ·rw[if_neg h1,if_neg h2,if_neg h3,if_neg h4,if_neg h5,if_neg h6,if_neg h7,if_neg h8,if_neg h9,if_neg h10,if_pos h11] at hR
  have hxx:=mulP_bd hx hx
  have hxxy:=mulP_bd (mulP_byte hx hx) hy
  refine mul_call (by omega) (by omega) ⟨_,rfl,mul_call (by omega) (by omega) ⟨_,rfl,mul_call (by omega) (by omega) ⟨_,rfl,mul_call (by omega) (by omega) ⟨_,rfl,?_⟩⟩⟩⟩
  rw[wrap_id (n:=2*mulP x y) (by omega) (by omega),wrap_id (n:=mulP x x+2*mulP x y) (by omega) (by omega),wrap_id (n:=2*mulP (mulP x x) y) (by omega) (by omega),wrap_id (by omega) (by omega)]
  exact hR
 ·rw[if_neg h1,if_neg h2,if_neg h3,if_neg h4,if_neg h5,if_neg h6,if_neg h7,if_neg h8,if_neg h9,if_neg h10,if_neg h11] at hR
  exact hR
theorem c117{c:C4}{f:Int}(h1:byte c.r)(h2:byte c.g)(h3:byte c.b)(h4:byte c.a)(hf:byte f)(hR: ∀H',Ext H H'→R (.agg (ints (fadeP c f).l).toArray) H'):CallsH Tryz.prog 117 #[.agg (ints c.l).toArray,.int .i64 f] H R:=by
 unfold byte at h1 h2 h3 h4 hf
 refine Tryz.s117 ?_
 unfold Tryz.S117
 refine(St.nil H).alc fun b3 H4 hs4=>hs4.alc fun b5 H6 hs6=>⟨_,rfl,rowIn_whole (hs6.block 1 rfl),?_⟩
 intro X hX
 refine hX _ _ (br_y (by decide) ⟨by decide,by decide,c.r,rfl,mul_call (by omega) (by omega) ⟨_,rfl,by decide,by decide,hs6.putA 1 (j:=0) rfl (Nat.le_of_ble_eq_true rfl) fun H7 hs7=>?_⟩⟩)
 refine hX _ _ (br_y (by decide) ⟨by decide,by decide,c.g,rfl,mul_call (by omega) (by omega) ⟨_,rfl,by decide,by decide,hs7.putA 1 (j:=1) rfl (Nat.le_of_ble_eq_true rfl) fun H8 hs8=>?_⟩⟩)
 refine hX _ _ (br_y (by decide) ⟨by decide,by decide,c.b,rfl,mul_call (by omega) (by omega) ⟨_,rfl,by decide,by decide,hs8.putA 1 (j:=2) rfl (Nat.le_of_ble_eq_true rfl) fun H9 hs9=>?_⟩⟩)
 refine hX _ _ (br_y (by decide) ⟨by decide,by decide,c.a,rfl,mul_call (by omega) (by omega) ⟨_,rfl,by decide,by decide,hs9.putA 1 (j:=3) rfl (Nat.le_of_ble_eq_true rfl) fun H10 hs10=>?_⟩⟩)
 refine hX _ _ (br_n (by decide) ⟨_,rfl,rowIn_whole (hs10.block 1 rfl),rfl,hs10.putAllA 0 (l:=(fadeP c f).l) rfl rfl fun H11 hs11=>⟨_,rfl,rowIn_whole (hs11.block 0 rfl),hR H11 hs11.ext⟩⟩)
end Go.Proofs
namespace Go.Proofs
open Go.Sh
variable {H0 H:Heap} {σ:List Rs} {R:Value→Heap→Prop}
theorem c128{p:Option Addr}{cp:Nat}{t:List Int}{c:C4}(ht:IS H p 256 (ints t))(hok:TabOk8 t)(h1:byte c.r)(h2:byte c.g)(h3:byte c.b)(h4:byte c.a)(hR: ∀H',Ext H H'→R (.agg (ints (mapP t c).l).toArray) H'):CallsH Tryz.prog 128 #[.slice p 256 cp,.agg (ints c.l).toArray] H R:=by
 have b1:=bareP_byte h1.1 h4.1
 have b2:=bareP_byte h2.1 h4.1
 have b3:=bareP_byte h3.1 h4.1
 have t1:=hok (bareP c.r c.a).toNat
 have t2:=hok (bareP c.g c.a).toNat
 have t3:=hok (bareP c.b c.a).toNat
 unfold byte at h1 h2 h3 h4 b1 b2 b3 t1 t2 t3
 refine Tryz.s128 ?_
 unfold Tryz.S128
 refine(St.nil H).alc fun ba H4 hs4=>hs4.alc fun bb H6 hs6=>?_
 intro X hX
 refine hX _ _ (br_y (by decide) ⟨by decide,by decide,c.r,hs6.rdA 1 (j:=0) rfl rfl,by decide,by decide,c.a,hs6.rdA 1 (j:=3) rfl rfl,by decide,by decide,c.a,hs6.rdA 1 (j:=3) rfl rfl,c133 (by omega) (by omega) ⟨_,rfl,.inl (Ext.refl _),rdG (ht.ext hs6.ext) b1.1 (by omega) (mul_call (by omega) (by omega) ⟨_,rfl,by decide,by decide,hs6.putA 1 (j:=0) rfl (Nat.le_of_ble_eq_true rfl) fun H7 hs7=>?_⟩)⟩⟩)
 refine hX _ _ (br_y (by decide) ⟨by decide,by decide,c.g,hs7.rdA 1 (j:=1) rfl rfl,by decide,by decide,c.a,hs7.rdA 1 (j:=3) rfl rfl,by decide,by decide,c.a,hs7.rdA 1 (j:=3) rfl rfl,c133 (by omega) (by omega) ⟨_,rfl,.inl (Ext.refl _),rdG (ht.ext hs7.ext) b2.1 (by omega) (mul_call (by omega) (by omega) ⟨_,rfl,by decide,by decide,hs7.putA 1 (j:=1) rfl (Nat.le_of_ble_eq_true rfl) fun H8 hs8=>?_⟩)⟩⟩)
 refine hX _ _ (br_y (by decide) ⟨by decide,by decide,c.b,hs8.rdA 1 (j:=2) rfl rfl,by decide,by decide,c.a,hs8.rdA 1 (j:=3) rfl rfl,by decide,by decide,c.a,hs8.rdA 1 (j:=3) rfl rfl,c133 (by omega) (by omega) ⟨_,rfl,.inl (Ext.refl _),rdG (ht.ext hs8.ext) b3.1 (by omega) (mul_call (by omega) (by omega) ⟨_,rfl,by decide,by decide,hs8.putA 1 (j:=2) rfl (Nat.le_of_ble_eq_true rfl) fun H9 hs9=>?_⟩)⟩⟩)
 exact hX _ _ (br_n (by decide) ⟨_,rfl,rowIn_whole (hs9.block 1 rfl),rfl,hs9.putAllA 0 (l:=(mapP t c).l) rfl rfl fun H11 hs11=>⟨_,rfl,rowIn_whole (hs11.block 0 rfl),hR H11 hs11.ext⟩⟩)
theorem c116{mode:Int}{s d:C4}(hs:OkC s)(hd:OkC d)(hR: ∀H',Ext H H'→R (.agg (ints (blendP mode s d).l).toArray) H'):CallsH Tryz.prog 116 #[.int .i64 mode,.agg (ints s.l).toArray,.agg (ints d.l).toArray] H R:=by
 obtain⟨s1,s2,s3,s4⟩:=hs.bytes
 obtain⟨d1,d2,d3,d4⟩:=hd.bytes
 have ov:=over_bd s4 d4
 have mv:=mulP_byte s4 d4
 have w1:=blP_bd mode (bareP_byte d1.1 d4.1) (bareP_byte s1.1 s4.1)
 have w2:=blP_bd mode (bareP_byte d2.1 d4.1) (bareP_byte s2.1 s4.1)
 have w3:=blP_bd mode (bareP_byte d3.1 d4.1) (bareP_byte s3.1 s4.1)
 -- one colour
 have one: ∀{si di:Int},byte si→byte di→ ∀{K:Int→Prop},K (mixP mode s.a d.a si di)→K (min (IntKind.wrap .i64 (IntKind.wrap .i64 (s.a+d.a)-mulP s.a d.a)) (IntKind.wrap .i64 (IntKind.wrap .i64 (mulP si (255-d.a)+mulP di (255-s.a))+mulP (mulP s.a d.a) (blP mode (bareP di d.a) (bareP si s.a))))):=by
  intro si di hsi hdi K hK
  have q1:=mulP_bd (a:=si) (b:=255-d.a) hsi (by unfold byte at*;omega)
  have q2:=mulP_bd (a:=di) (b:=255-s.a) hdi (by unfold byte at*;omega)
  have q3:=mulP_two mv (b:=blP mode (bareP di d.a) (bareP si s.a)) (by have:=blP_bd mode (bareP_byte hdi.1 d4.1) (bareP_byte hsi.1 s4.1);omega)
  unfold byte at*
  rw[wrap_id (n:=s.a+d.a) (by omega) (by omega),wrap_id (n:=s.a+d.a-mulP s.a d.a) (by omega) (by omega),wrap_id (n:=mulP si (255-d.a)+mulP di (255-s.a)) (by omega) (by omega),wrap_id (by omega) (by omega)]
  exact hK
 have w255s:IntKind.wrap .i64 (255-s.a)=255-s.a:=by unfold byte at*;exact wrap_id (by omega) (by omega)
 have w255d:IntKind.wrap .i64 (255-d.a)=255-d.a:=by unfold byte at*;exact wrap_id (by omega) (by omega)
 have hsum:IntKind.wrap .i64 (IntKind.wrap .i64 (s.a+d.a)-mulP s.a d.a)=s.a+d.a-mulP s.a d.a:=by
  unfold byte at*
  rw[wrap_id (n:=s.a+d.a) (by omega) (by omega),wrap_id (by omega) (by omega)]
 refine Tryz.s116 ?_
 unfold Tryz.S116
 refine(St.nil H).alc fun b4 H5 hs5=>hs5.alc fun b6 H7 hs7=>hs7.alc fun b8 H9 hs9=>⟨by decide,by decide,s.a,hs9.rdA 2 (j:=3) rfl rfl,by decide,by decide,d.a,hs9.rdA 1 (j:=3) rfl rfl,?_⟩
 have bm: ∀{x:Int},byte x→0≤x∧x≤1000000:=fun h=>⟨h.1,by have:=h.2;omega⟩
 refine mul_call (bm s4) (bm d4) ⟨_,rfl,by decide,by decide,s.a,hs9.rdA 2 (j:=3) rfl rfl,by decide,by decide,d.a,hs9.rdA 1 (j:=3) rfl rfl,hs9.alc fun b17 H18 hs18=>⟨rfl,?_⟩⟩
 refine hs18.putAllA 0 (l:=[0,0,0,IntKind.wrap .i64 (IntKind.wrap .i64 (s.a+d.a)-mulP s.a d.a)]) rfl rfl fun H19 hs19=>?_
 have hc: ∀{x:Int},byte x→byte (255-x):=fun h=>by unfold byte at*;omega
 intro X hX
 rw[hsum] at hs19
 have fin: ∀{si di:Int},byte si→byte di→min (s.a+d.a-mulP s.a d.a) (IntKind.wrap .i64 (IntKind.wrap .i64 (mulP si (255-d.a)+mulP di (255-s.a))+mulP (mulP s.a d.a) (blP mode (bareP di d.a) (bareP si s.a))))=mixP mode s.a d.a si di:=by
  intro si di hsi hdi
  have:=one hsi hdi (K:=fun x=>x=mixP mode s.a d.a si di) rfl
  rw[hsum] at this;exact this
 refine hX _ _ (br_y (by decide) ⟨by decide,by decide,d.r,hs19.rdA 2 (j:=0) rfl rfl,by decide,by decide,d.a,hs19.rdA 2 (j:=3) rfl rfl,by decide,by decide,s.r,hs19.rdA 3 (j:=0) rfl rfl,by decide,by decide,s.a,hs19.rdA 3 (j:=3) rfl rfl,c133 (bm d1) (bm d4) ⟨_,rfl,.inl (Ext.refl _),c133 (bm s1) (bm s4) ⟨_,rfl,c132 (bareP_byte d1.1 d4.1) (bareP_byte s1.1 s4.1) ⟨_,rfl,by decide,by decide,s.a+d.a-mulP s.a d.a,hs19.rdA 0 (j:=3) rfl rfl,by decide,by decide,s.r,hs19.rdA 3 (j:=0) rfl rfl,by decide,by decide,d.a,hs19.rdA 2 (j:=3) rfl rfl,by decide,by decide,d.r,hs19.rdA 2 (j:=0) rfl rfl,by decide,by decide,s.a,hs19.rdA 3 (j:=3) rfl rfl,?_⟩⟩⟩⟩)
 rw[w255d,w255s]
 refine mul_call (bm s1) (bm (hc d4)) ⟨_,rfl,.inl (Ext.refl _),mul_call (bm d1) (bm (hc s4)) ⟨_,rfl,.inl (Ext.refl _),mul_call (bm mv) ⟨w1.1,by omega⟩ ⟨_,rfl,.inl (Ext.refl _),by decide,by decide,?_⟩⟩⟩
 rw[fin s1 d1]
 refine hs19.putA 0 (j:=0) rfl (Nat.le_of_ble_eq_true rfl) fun H20 hs20=>?_
 refine hX _ _ (br_y (by decide) ⟨by decide,by decide,d.g,hs20.rdA 2 (j:=1) rfl rfl,by decide,by decide,d.a,hs20.rdA 2 (j:=3) rfl rfl,by decide,by decide,s.g,hs20.rdA 3 (j:=1) rfl rfl,by decide,by decide,s.a,hs20.rdA 3 (j:=3) rfl rfl,c133 (bm d2) (bm d4) ⟨_,rfl,.inl (Ext.refl _),c133 (bm s2) (bm s4) ⟨_,rfl,c132 (bareP_byte d2.1 d4.1) (bareP_byte s2.1 s4.1) ⟨_,rfl,by decide,by decide,s.a+d.a-mulP s.a d.a,hs20.rdA 0 (j:=3) rfl rfl,by decide,by decide,s.g,hs20.rdA 3 (j:=1) rfl rfl,by decide,by decide,d.a,hs20.rdA 2 (j:=3) rfl rfl,by decide,by decide,d.g,hs20.rdA 2 (j:=1) rfl rfl,by decide,by decide,s.a,hs20.rdA 3 (j:=3) rfl rfl,?_⟩⟩⟩⟩)
 rw[w255d,w255s]
 refine mul_call (bm s2) (bm (hc d4)) ⟨_,rfl,.inl (Ext.refl _),mul_call (bm d2) (bm (hc s4)) ⟨_,rfl,.inl (Ext.refl _),mul_call (bm mv) ⟨w2.1,by omega⟩ ⟨_,rfl,.inl (Ext.refl _),by decide,by decide,?_⟩⟩⟩
 rw[fin s2 d2]
 refine hs20.putA 0 (j:=1) rfl (Nat.le_of_ble_eq_true rfl) fun H21 hs21=>?_
 refine hX _ _ (br_y (by decide) ⟨by decide,by decide,d.b,hs21.rdA 2 (j:=2) rfl rfl,by decide,by decide,d.a,hs21.rdA 2 (j:=3) rfl rfl,by decide,by decide,s.b,hs21.rdA 3 (j:=2) rfl rfl,by decide,by decide,s.a,hs21.rdA 3 (j:=3) rfl rfl,c133 (bm d3) (bm d4) ⟨_,rfl,.inl (Ext.refl _),c133 (bm s3) (bm s4) ⟨_,rfl,c132 (bareP_byte d3.1 d4.1) (bareP_byte s3.1 s4.1) ⟨_,rfl,by decide,by decide,s.a+d.a-mulP s.a d.a,hs21.rdA 0 (j:=3) rfl rfl,by decide,by decide,s.b,hs21.rdA 3 (j:=2) rfl rfl,by decide,by decide,d.a,hs21.rdA 2 (j:=3) rfl rfl,by decide,by decide,d.b,hs21.rdA 2 (j:=2) rfl rfl,by decide,by decide,s.a,hs21.rdA 3 (j:=3) rfl rfl,?_⟩⟩⟩⟩)
 rw[w255d,w255s]
 refine mul_call (bm s3) (bm (hc d4)) ⟨_,rfl,.inl (Ext.refl _),mul_call (bm d3) (bm (hc s4)) ⟨_,rfl,.inl (Ext.refl _),mul_call (bm mv) ⟨w3.1,by omega⟩ ⟨_,rfl,.inl (Ext.refl _),by decide,by decide,?_⟩⟩⟩
 rw[fin s3 d3]
 refine hs21.putA 0 (j:=2) rfl (Nat.le_of_ble_eq_true rfl) fun H22 hs22=>?_
 exact hX _ _ (br_n (by decide) ⟨_,rfl,rowIn_whole (hs22.block 0 rfl),rfl,hs22.putAllA 1 (l:=(blendP mode s d).l) rfl rfl fun H11 hs11=>⟨_,rfl,rowIn_whole (hs11.block 1 rfl),hR H11 hs11.ext⟩⟩)
end Go.Proofs
namespace Go.Proofs
open Go.Sh
variable {H0 H:Heap} {σ:List Rs} {R:Value→Heap→Prop}
def segV(ps:List Int)(v:Int)(j:Nat):Int:=ps.getD (j+1) 0+((ps.getD (j+3) 0-ps.getD (j+1) 0)*(v-ps.getD j 0)).tdiv (ps.getD (j+2) 0-ps.getD j 0)
def crvG(ps:List Int)(v:Int):Nat→Nat→Int
 |0,_=>ps.getD (ps.length-1) 0
 |n+1,j=>if j+2<ps.length then(if v<ps.getD (j+2) 0 then segV ps v j else crvG ps v n (j+2)) else ps.getD (ps.length-1) 0
def crvV(ps:List Int)(v:Int):Int:=if v≤ps.getD 0 0 then ps.getD 1 0 else crvG ps v 16 0
def lvlV(ps:List Int)(v:Int):Int:=min 255 ((255*max 0 (v-ps.getD 0 0)+(ps.getD 1 0-ps.getD 0 0)/2)/(ps.getD 1 0-ps.getD 0 0))
def tabV(kind:Int)(ps:List Int)(v:Int):Int:=if kind=1 then crvV ps v else if kind=0 then lvlV ps v else if kind=2 then 255-v else if v≥ps.getD 0 0 then 255 else 0
def tabL(kind:Int)(ps:List Int):List Int:=(List.range 256).map fun v=>tabV kind ps (v:Nat)
theorem tabL_len(kind:Int)(ps:List Int):(tabL kind ps).length=256:=by simp[tabL]
theorem tabL_at{kind:Int}{ps:List Int}{k:Nat}(hk:k<256):(tabL kind ps).getD k 0=tabV kind ps (k:Nat):=tab_getD hk
theorem tdiv_between{d t w:Int}(ht:0≤t∧t≤w)(hw:0<w):(0≤d→0≤(d*t).tdiv w∧(d*t).tdiv w≤d)∧(d≤0→d≤(d*t).tdiv w∧(d*t).tdiv w≤0):=by
 have pos: ∀e:Int,0≤e→0≤(e*t).tdiv w∧(e*t).tdiv w≤e:=fun e he=>by
  have h0:0≤e*t:=Int.mul_nonneg he ht.1
  have h1:e*t≤e*w:=Int.mul_le_mul_of_nonneg_left ht.2 he
  rw[Int.tdiv_eq_ediv_of_nonneg h0]
  refine⟨Int.ediv_nonneg h0 (by omega),?_⟩
  have:=Int.ediv_le_ediv hw h1
  rwa [Int.mul_ediv_cancel _ (by omega)] at this
 refine⟨pos d,fun hd=>?_⟩
 have h:=pos (-d) (by omega)
 rw[Int.neg_mul,Int.neg_tdiv] at h
 omega
theorem segV_byte{ps:List Int}(hok:CrvOk ps){v:Int}{j:Nat}(he:j%2=0)(hj:j+2<ps.length)(h1:ps.getD j 0≤v)(h2:v<ps.getD (j+2) 0):byte (segV ps v j):=by
 have q1:=hok.rng (j+1)
 have q3:=hok.rng (j+3)
 have hb:=tdiv_between (d:=ps.getD (j+3) 0-ps.getD (j+1) 0) (t:=v-ps.getD j 0) (w:=ps.getD (j+2) 0-ps.getD j 0) ⟨by omega,by omega⟩ (by omega)
 unfold segV byte
 rcases Int.le_total 0 (ps.getD (j+3) 0-ps.getD (j+1) 0) with h|h
 ·have:=hb.1 h;omega
 ·have:=hb.2 h;omega
theorem crvG_byte{ps:List Int}(hok:CrvOk ps){v:Int}: ∀(n j:Nat),j%2=0→ps.getD j 0≤v→byte (crvG ps v n j)
 |0,j,_,_=>by have:=hok.rng (ps.length-1);unfold crvG byte;exact this
 |n+1,j,he,h1=>by
  unfold crvG
  split
  ·rename_i hj
   split
   ·rename_i h2;exact segV_byte hok he hj h1 h2
   ·rename_i h2;exact crvG_byte hok n (j+2) (by omega) (by omega)
  ·have:=hok.rng (ps.length-1);unfold byte;exact this
theorem crvV_byte{ps:List Int}(hok:CrvOk ps)(v:Int):byte (crvV ps v):=by
 unfold crvV
 split
 ·have:=hok.rng 1;unfold byte;exact this
 ·rename_i h;exact crvG_byte hok 16 0 rfl (by omega)
theorem tabV_byte{kind:Int}{ps:List Int}(h:tabB kind ps=true){v:Int}(hv:byte v):byte (tabV kind ps v):=by
 unfold tabV
 by_cases k1:kind=1
 ·rw[if_pos k1];subst k1;exact crvV_byte (tabB_crv h) v
 rw[if_neg k1]
 by_cases k0:kind=0
 ·rw[if_pos k0]
  have hk:=tabB_kind h
  unfold kindP at hk
  rw[if_pos k0] at hk
  have hk2:=(of_decide_eq_true hk).2
  have:0≤(255*max 0 (v-ps.getD 0 0)+(ps.getD 1 0-ps.getD 0 0)/2)/(ps.getD 1 0-ps.getD 0 0):=Int.ediv_nonneg (by omega) (by omega)
  unfold lvlV byte
  omega
 rw[if_neg k0]
 unfold byte at*
 split
 ·omega
 ·split<;>omega
theorem tabL_ok{kind:Int}{ps:List Int}(h:tabB kind ps=true):TabOk8 (tabL kind ps):=fun i=>by
 by_cases hi:i<256
 ·rw[tabL_at hi];exact tabV_byte h (by unfold byte;omega)
 ·rw[List.getD_eq_getElem?_getD,List.getElem?_eq_none (by rw[tabL_len];omega)];unfold byte;decide
theorem crvG_end{ps:List Int}(hok:CrvOk ps){v:Int}(h:ps.getD (ps.length-2) 0≤v): ∀(n j:Nat),j%2=0→crvG ps v n j=ps.getD (ps.length-1) 0
 |0,j,_=>rfl
 |n+1,j,he=>by
  obtain⟨l1,l2,l3⟩:=hok.len
  unfold crvG
  split
  ·rename_i hj
   have mono: ∀m i,i%2=0→i+2*m+2=ps.length→ps.getD i 0≤ps.getD (ps.length-2) 0:=by
    intro m
    induction m with
    |zero=>intro i _ hi;rw[show ps.length-2=i from by omega];exact Int.le_refl _
    |succ m ih=>
     intro i hi2 hi
     have:=ih (i+2) (by omega) (by omega)
     have h2:=hok.inc (i+2) (by omega) (by omega) (by omega)
     rw[show i+2-2=i from by omega] at h2
     omega
   have:=mono ((ps.length-(j+2)-2)/2) (j+2) (by omega) (by omega)
   rw[if_neg (by omega)]
   exact crvG_end hok h n (j+2) (by omega)
  ·rfl
theorem fill_put{L:List Int}{k:Nat}{v:Int}(hk:k<L.length)(hv:v=L.getD k 0):(fillA L k).set k v=fillA L (k+1):=by rw[hv];exact fillA_set hk
theorem crv_call{p:Option Addr}{n c:Nat}{ps:List Int}(h:IS H p n (ints ps))(hok:CrvOk ps)(hR: ∀b H',St H H' [.cell b (ints (tabL 1 ps)).toArray 3]→R (.slice (some ⟨b,0,none⟩) 256 256) H'):CallsH Tryz.prog 109 #[.slice p n c] H R:=by
 refine Tryz.s109 ?_
 unfold Tryz.S109
 have hlen:=h.length
 obtain⟨l1,l2,l3⟩:=hok.len
 refine⟨by decide,by decide,by decide,by decide,?_⟩
 rw[repsA256,wrap_id (n:=(n:Int)-2) (by omega) (by omega),wrap_id (n:=(n:Int)-1) (by omega) (by omega)]
 refine(St.nil H).alc fun b2 H3 hs3=>?_
 intro X hX
 have go: ∀k,k≤256→ ∀H1,St H H1 [.cell b2 (ints (fillA (tabL 1 ps) k)).toArray 3]→X [.int .i64 (k:Nat)] H1:=by
  refine upto fun k hk ih H1 hs1=>hX _ _ (br_dec (fun hlt=>?_) fun hge=>?_)
  ·have hk':k<256:=by have:(k:Int)<256:=hlt;omega
   have h1:=h.ext hs1.ext
   have put: ∀(v:Int),v=crvV ps (k:Nat)→ ∃a11:Addr,(some ⟨b2,0,none⟩)=some a11∧0≤(k:Int)∧(k:Int)<(((Int.toNat (256:Int)):Nat):Int)∧stAt H1 (Addr.add a11 (Int.toNat (k:Int)*1)) [Value.int .i64 v] fun H_12=>X [Value.int .i64 (IntKind.wrap .i64 ((k:Int)+(1:Int)))] H_12:=fun v hv=>by
    refine⟨_,rfl,by omega,hlt,?_⟩
    rw[show Int.toNat (k:Int)*1=k from Nat.mul_one k,add_none,Nat.zero_add,wrap_id (by omega) (by omega)]
    refine hs1.putA 0 rfl (by rw[fillA_len (by rw[tabL_len];omega),tabL_len];exact hk') fun H2 hs2=>ih hk' H2 ?_
    have e:=fill_put (L:=tabL 1 ps) (k:=k) (v:=v) (by rw[tabL_len];exact hk') (by rw[tabL_at hk',hv];unfold tabV;rw[if_pos rfl])
    have hs2:St H H2 [.cell b2 (ints ((fillA (tabL 1 ps) k).set k v)).toArray 3]:=hs2
    rw[e] at hs2
    exact hs2
   refine rdG (i:=0) h1 (by omega) (by omega) (br_dec (fun hv0=>rdG (i:=1) h1 (by omega) (by omega) (put _ (by unfold crvV;rw[if_pos (show(k:Int)≤ps.getD 0 0 from hv0)];rfl))) fun hv0=>?_)
   have hv0: ¬(k:Int)≤ps.getD 0 0:=hv0
   refine rdG (i:=(n:Int)-2) h1 (by omega) (by omega) (br_dec (fun hv1=>rdG (i:=(n:Int)-1) h1 (by omega) (by omega) (put _ ?_)) fun hv1=>?_)
   ·rw[show Int.toNat ((n:Int)-2)=ps.length-2 from by omega] at hv1
    rw[show Int.toNat ((n:Int)-1)=ps.length-1 from by omega]
    unfold crvV
    rw[if_neg hv0,crvG_end hok hv1 16 0 rfl]
   rw[show Int.toNat ((n:Int)-2)=n-2 from by omega] at hv1
   intro X2 hX2
   have go2: ∀j,j≤16→2*j+2≤n→ps.getD (2*j) 0≤(k:Int)→crvV ps (k:Nat)=crvG ps (k:Nat) (16-j) (2*j)→X2 [.int .i64 ((2*j:Nat):Int)] H1:=by
    refine upto fun j hj ih2 hjn hpj hcv=>hX2 _ _ ?_
    have hne:2*j+2≠n:=fun hh=>by
     have:2*j=n-2:=by omega
     rw[this] at hpj;omega
    have hj4:2*j+4≤n:=by omega
    rw[show 16-j=(16-(j+1))+1 from by omega] at hcv
    unfold crvG at hcv
    rw[if_pos (by omega)] at hcv
    rw[wrap_id (n:=((2*j:Nat):Int)+2) (by omega) (by omega),wrap_id (n:=((2*j:Nat):Int)+1) (by omega) (by omega),wrap_id (n:=((2*j:Nat):Int)+3) (by omega) (by omega)]
    refine rdG (i:=((2*j:Nat):Int)+2) h1 (by omega) (by omega) ?_
    rw[show Int.toNat (((2*j:Nat):Int)+2)=2*j+2 from by omega]
    refine br_dec (fun hle=>?_) fun hgt=>?_
    ·rw[if_neg (by omega)] at hcv
     have:=ih2 (by omega) (by omega) (by rw[show 2*(j+1)=2*j+2 from by omega];exact hle) (by rw[hcv,show 2*(j+1)=2*j+2 from by omega])
     rw[show((2*(j+1):Nat):Int)=((2*j:Nat):Int)+2 from by omega] at this
     exact this
    ·rw[if_pos (by omega)] at hcv
     refine rdG (i:=((2*j:Nat):Int)+1) h1 (by omega) (by omega) (rdG (i:=((2*j:Nat):Int)+3) h1 (by omega) (by omega) (rdG (i:=((2*j:Nat):Int)+1) h1 (by omega) (by omega) (rdG (i:=((2*j:Nat):Int)) h1 (by omega) (by omega) (rdG (i:=((2*j:Nat):Int)+2) h1 (by omega) (by omega) (rdG (i:=((2*j:Nat):Int)) h1 (by omega) (by omega) ⟨?_,put _ ?_⟩)))))
     ·have hi:=hok.inc (2*j+2) (by omega) (by omega) (by omega)
      rw[show 2*j+2-2=2*j from by omega] at hi
      rw[show Int.toNat (((2*j:Nat):Int)+2)=2*j+2 from by omega,Int.toNat_natCast]
      have r1:=hok.rng (2*j+2)
      have r2:=hok.rng (2*j)
      rw[wrap_id (by omega) (by omega)]
      omega
     ·rw[hcv,show Int.toNat (((2*j:Nat):Int)+2)=2*j+2 from by omega,Int.toNat_natCast,show Int.toNat (((2*j:Nat):Int)+1)=2*j+1 from by omega,show Int.toNat (((2*j:Nat):Int)+3)=2*j+3 from by omega]
      have r0:=hok.rng (2*j)
      have r1:=hok.rng (2*j+1)
      have r2:=hok.rng (2*j+2)
      have r3:=hok.rng (2*j+3)
      have hb:=segV_byte hok (v:=(k:Nat)) (j:=2*j) (by omega) (by omega) hpj (by omega)
      unfold segV byte at hb
      unfold segV
      generalize ps.getD (2*j) 0=a at*
      generalize ps.getD (2*j+1) 0=b at*
      generalize ps.getD (2*j+2) 0=cc at*
      generalize ps.getD (2*j+3) 0=d at*
      have hm: -65025≤(d-b)*((k:Int)-a)∧(d-b)*((k:Int)-a)≤65025:=mul_bd (x:=d-b) (y:=(k:Int)-a) (A:=255) (B:=255) (by omega) (by omega)
      rw[wrap_id (n:=d-b) (by omega) (by omega),wrap_id (n:=(k:Int)-a) (by omega) (by omega),wrap_id (n:=cc-a) (by omega) (by omega),wrap_id (n:=(d-b)*((k:Int)-a)) (by omega) (by omega)]
      generalize Int.tdiv ((d-b)*((k:Int)-a)) (cc-a)=q at hb ⊢
      rw[wrap_id (n:=q) (by omega) (by omega),wrap_id (by omega) (by omega)]
   exact go2 0 (by omega) (by omega) (by rw[Nat.mul_zero];omega) (by unfold crvV;rw[if_neg hv0])
  ·have hk6: ¬(k:Int)<256:=hge
   have:k=256:=by omega
   subst this
   have e:fillA (tabL 1 ps) 256=tabL 1 ps:=by have:=fillA_all (tabL 1 ps);rw[tabL_len] at this;exact this
   rw[e] at hs1
   exact hR b2 H1 hs1
 refine go 0 (by omega) H3 ?_
 rw[fillA_zero,tabL_len]
 exact hs3
theorem tab_call{kind:Int}{p:Option Addr}{n c:Nat}{ps:List Int}(h:IS H p n (ints ps))(hn:n≤1000000000000)(hb:tabB kind ps=true)
 (hR: ∀b H',St H H' [.cell b (ints (tabL kind ps)).toArray 3]→R (.tuple #[.slice (some ⟨b,0,none⟩) 256 256,.bool true]) H'):CallsH Tryz.prog 79 #[.int .i64 kind,.slice p n c] H R:=by
 refine Tryz.s79 ?_
 unfold Tryz.S79
 have hlen:=h.length
 refine c108 h hn ⟨_,rfl,br_not (fun hf=>by rw[hb] at hf;cases hf) fun _=>br_eq (fun hk1=>?_) fun hk1=>?_⟩
 ·subst hk1
  exact crv_call h (tabB_crv hb) fun b H' he=>⟨_,_,_,rfl,hR b H' he⟩
 refine⟨by decide,by decide,by decide,by decide,?_⟩
 rw[repsA256]
 refine(St.nil H).alc fun b9 H10 hs10=>?_
 intro X hX
 have hrng:=tabB_rng hb
 have hkind:=tabB_kind hb
 unfold kindP at hkind
 have go: ∀k,k≤256→ ∀H1,St H H1 [.cell b9 (ints (fillA (tabL kind ps) k)).toArray 3]→X [.int .i64 (k:Nat)] H1:=by
  refine upto fun k hk ih H1 hs1=>hX _ _ (br_dec (fun hlt=>?_) fun hge=>?_)
  ·have hk':k<256:=by have:(k:Int)<256:=hlt;omega
   have g1:=h.ext hs1.ext
   intro J hJ
   have same:(tabL kind ps).getD k 0=0→J [] H1:=fun hz=>hJ _ (by
    rw[wrap_id (by omega) (by omega)]
    refine ih hk' H1 ?_
    have e:=fillA_set (L:=tabL kind ps) (s:=k) (by rw[tabL_len];exact hk')
    rw[hz,fillA_set0 (by rw[tabL_len];exact hk')] at e
    rw[←e];exact hs1)
   have put: ∀(v:Int),v=tabV kind ps (k:Nat)→ ∃a11:Addr,(some ⟨b9,0,none⟩)=some a11∧0≤(k:Int)∧(k:Int)<(((Int.toNat (256:Int)):Nat):Int)∧stAt H1 (Addr.add a11 (Int.toNat (k:Int)*1)) [Value.int .i64 v] fun H_12=>J [] H_12:=fun v hv=>by
    refine⟨_,rfl,by omega,hlt,?_⟩
    rw[show Int.toNat (k:Int)*1=k from Nat.mul_one k,add_none,Nat.zero_add]
    refine hs1.putA 0 rfl (by rw[fillA_len (by rw[tabL_len];omega),tabL_len];exact hk') fun H2 hs2=>hJ _ ?_
    rw[wrap_id (by omega) (by omega)]
    refine ih hk' H2 ?_
    have e:=fill_put (L:=tabL kind ps) (k:=k) (v:=v) (by rw[tabL_len];exact hk') (by rw[tabL_at hk',hv])
    have hs2:St H H2 [.cell b9 (ints ((fillA (tabL kind ps) k).set k v)).toArray 3]:=hs2
    rw[e] at hs2
    exact hs2
   refine br_eq (fun k0=>?_) fun k0=>br_eq (fun k2=>put _ ?_) fun k2=>br_eq (fun k3=>?_) fun k3=>?_
   ·rw[if_pos k0] at hkind
    have hk2:=of_decide_eq_true hkind
    have r1:=hrng 1
    have r0:=hrng 0
    refine rdG (i:=1) g1 (by omega) (by omega) (rdG (i:=0) g1 (by omega) (by omega) (rdG (i:=0) g1 (by omega) (by omega) ⟨by decide,?_,put _ ?_⟩))
    ·show IntKind.wrap .i64 (ps.getD 1 0-ps.getD 0 0)≠0
     rw[wrap_id (by omega) (by omega)]
     omega
    ·show _=tabV kind ps (k:Nat)
     unfold tabV
     rw[if_neg hk1,if_pos k0]
     unfold lvlV
     show min 255 (IntKind.wrap .i64 (Int.tdiv (IntKind.wrap .i64 ((IntKind.wrap .i64 (255*max 0 (IntKind.wrap .i64 ((k:Int)-ps.getD 0 0))))+(IntKind.wrap .i64 (Int.tdiv (IntKind.wrap .i64 (ps.getD 1 0-ps.getD 0 0)) 2)))) (IntKind.wrap .i64 (ps.getD 1 0-ps.getD 0 0))))=_
     generalize ps.getD 0 0=a at*
     generalize ps.getD 1 0=b at*
     have hd:0≤(b-a)/2∧(b-a)/2≤255:=by omega
     rw[wrap_id (n:=(k:Int)-a) (by omega) (by omega),wrap_id (n:=b-a) (by omega) (by omega),Int.tdiv_eq_ediv_of_nonneg (a:=b-a) (by omega),wrap_id (n:=(b-a)/2) (by omega) (by omega),wrap_id (n:=255*max 0 ((k:Int)-a)) (by omega) (by omega),wrap_id (n:=255*max 0 ((k:Int)-a)+(b-a)/2) (by omega) (by omega),Int.tdiv_eq_ediv_of_nonneg (by omega)]
     have q1:0≤(255*max 0 ((k:Int)-a)+(b-a)/2)/(b-a):=Int.ediv_nonneg (by omega) (by omega)
     have q2:(255*max 0 ((k:Int)-a)+(b-a)/2)/(b-a)≤255*max 0 ((k:Int)-a)+(b-a)/2:=Int.ediv_le_self _ (by omega)
     rw[wrap_id (by omega) (by omega)]
   ·unfold tabV
    rw[if_neg hk1,if_neg k0,if_pos k2,wrap_id (by omega) (by omega)]
   ·rw[if_neg k0,if_neg hk1,if_neg k2,if_pos k3] at hkind
    have hk2:=of_decide_eq_true hkind
    have hv:tabV kind ps (k:Nat)=if (k:Int)≥ps.getD 0 0 then 255 else 0:=by
     unfold tabV
     rw[if_neg hk1,if_neg k0,if_neg k2]
    refine rdG (i:=0) g1 (by omega) (by omega) (br_dec (fun hge=>put _ ?_) fun hge=>same ?_)
    ·rw[hv,if_pos (show(k:Int)≥ps.getD 0 0 from hge)]
    ·rw[tabL_at hk',hv,if_neg (show ¬(k:Int)≥ps.getD 0 0 from hge)]
   ·rw[if_neg k0,if_neg hk1,if_neg k2,if_neg k3] at hkind
    cases hkind
  ·have hk6: ¬(k:Int)<256:=hge
   have:k=256:=by omega
   subst this
   have e:fillA (tabL kind ps) 256=tabL kind ps:=by have:=fillA_all (tabL kind ps);rw[tabL_len] at this;exact this
   rw[e] at hs1
   exact hR b9 H1 hs1
 refine go 0 (by omega) H10 ?_
 rw[fillA_zero,tabL_len]
 exact hs10
end Go.Proofs
