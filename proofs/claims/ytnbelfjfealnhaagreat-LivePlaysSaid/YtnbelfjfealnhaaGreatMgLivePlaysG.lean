/-
  OWN WORK. Several texts in one: TsBegun, TtC, TtD, TtE, TtF, TtG, TtH, TtI, TtJ, TtK, TtL, ShV, TtM, RnK.
-/
import Derived.Test.YtnbelfjfealnhaaGreatMgLivePlaysF
import Derived.Test.YtnbelfjfealnhaaGreatMgLivePlaysB

set_option linter.unusedVariables false
set_option linter.unusedSimpArgs false
set_option maxRecDepth 10000
namespace Go.Proofs
open Go.Sh
variable {H0 H:Heap} {σ:List Rs} {R:Value→Heap→Prop}
def layRs(B:Array Value)(l:Lay):Rs:= .ex fun(t:T)=> .pu (B=(cellsT t).toArray∧layT t=l) (starAll (resT t))
theorem _root_.Go.Sh.St.lay(hs:St H0 H σ)(i:Nat){B:Array Value}{l:Lay}(hi:σ[i]?=some (layRs B l)):LayR H B l:=by
 obtain⟨t,h1⟩:=St.unex (hs.front i hi)
 obtain⟨⟨h2,h3⟩,h4⟩:=St.fact h1
 exact⟨t,h2,St.rdT t (St.unpackAll _ h4),h3⟩
theorem LayR.size{H:Heap}{B:Array Value}{l:Lay}(h:LayR H B l):B.size=19:=by obtain⟨t,rfl,_⟩:=h;simp[cellsT_len]
theorem LayR.one{H:Heap}{B:Array Value}{l:Lay}(h:LayR H B l): ∀v∈B.toList,v.oneCell'=true:=by obtain⟨t,rfl,_⟩:=h;simpa using cellsT_one t
theorem find_st{A:Array Value}{D:DocL}{id:Int}(hs:St H0 H σ)(hd:DocR H A D)(hi:Inv D)
 (h0:findL D.ks id=none→ ∀H',St H0 H' (layRs (cellsL zeroF Sl3.nil.v Sl3.nil.v Sl3.nil.v Sl3.nil.v).toArray (.mk zeroF [])::σ)→R (.tuple #[.agg (cellsL zeroF Sl3.nil.v Sl3.nil.v Sl3.nil.v Sl3.nil.v).toArray,.bool false]) H')
 (h1: ∀l,findL D.ks id=some l→ ∀B H',LayR H' B l→St H0 H' (layRs B l::σ)→R (.tuple #[.agg B,.bool true]) H'):CallsH Tryz.prog 32 #[.agg A,.int .i64 id] H R:=by
 have hc:=hi.cnt
 refine c32 hd (by omega) hi.ok (fun l hl=>?_) (fun hn H' he=>h0 hn H' ?_) fun l hl t' H' hlay hst=>?_
 ·unfold findL at hl
  rcases fl_cases id D.ks with hn|⟨fr,u,ks,hf,hid,hp⟩
  ·rw[hn] at hl;cases hl
  ·rw[hf] at hl
   cases hl
   have hg:=hi.good
   rw[←hp] at hg
   refine Inv.okL hi.size _ (g_node hg).2.2.1 ?_
   have:cntKs D.ks=cntUp (fr::u)+cntKs ks:=by rw[←hp,cnt_plug]
   rw[cntL]
   rw[cntUp] at this
   omega
 ·refine St.inex (f:=fun(t:T)=> .pu ((cellsL zeroF Sl3.nil.v Sl3.nil.v Sl3.nil.v Sl3.nil.v).toArray=(cellsT t).toArray∧layT t= .mk zeroF []) (starAll (resT t))) (.mk zeroF .nil .nil .nil .nil []) (St.with ⟨rfl,rfl⟩ (St.packAll _ ?_))
  rw[resT_mk]
  exact((((hs.step he).nilSl 70 19).nilSl 3 1).nilSl 5 1).nilSl 3 1
 ·rw[List.append_nil] at hst
  have hs2:St H0 H' (layRs (cellsT t').toArray l::σ):=St.inex (f:=fun(t:T)=> .pu ((cellsT t').toArray=(cellsT t).toArray∧layT t=l) (starAll (resT t))) t' (St.with ⟨rfl,hlay⟩ (St.packAll _ (hs.call hst)))
  exact h1 l hl _ H' (hs2.lay 0 rfl) hs2
theorem c22{w h:Int}(hR:R (.bool (sizedB w h)) H):CallsH Tryz.prog 22 #[.int .i64 w,.int .i64 h] H R:=by
 have bad: ¬(1≤w∧1≤h∧w≤32768∧h≤32768∧w*h≤4194304)→R (.bool false) H:=fun hn=>by
  rw[show sizedB w h=false from decide_eq_false hn] at hR;exact hR
 refine Tryz.s22 (br_dec (fun h1=>br_dec (fun h2=>br_dec (fun h3=>br_dec (fun h4=>?_) fun hn=>bad (by omega)) fun hn=>bad (by omega)) fun hn=>bad (by omega)) fun hn=>bad (by omega))
 rw[wrap_area h1 h2 h3 h4]
 rw[show sizedB w h=decide (w*h≤4194304) from decide_eq_decide.2 ⟨fun hh=>hh.2.2.2.2,fun hh=>⟨h1,h2,h3,h4,hh⟩⟩] at hR
 exact hR
theorem c7{w h:Int}(hR1:sizedB w h=true→ ∀H',Ext H H'→R (.tuple #[.agg (docA w h 1 .nil),.int .i64 0]) H')(hR2:sizedB w h=false→ ∀H',Ext H H'→R (.tuple #[.agg (docA 0 0 0 .nil),.int .i64 31]) H'):CallsH Tryz.prog 7 #[.int .i64 w,.int .i64 h] H R:=by
 refine Tryz.s7 ?_
 unfold Tryz.S7
 refine(St.nil H).alc fun b3 H4 hs4=>c22 ⟨_,rfl,br_not (fun hf=>?_) fun ht=>?_⟩
 ·exact⟨rfl,hs4.putAll 0 rfl rfl (docA_one 0 0 0 .nil) fun H8 hs8=>⟨docA 0 0 0 .nil,rfl,rowIn_whole (hs8.block 0 rfl),hR2 hf H8 hs8.ext⟩⟩
 ·exact⟨rfl,hs4.putAll 0 rfl rfl (docA_one w h 1 .nil) fun H8 hs8=>⟨docA w h 1 .nil,rfl,rowIn_whole (hs8.block 0 rfl),hR1 ht H8 hs8.ext⟩⟩
def begunA(w h:Int):Array Value:=if sizedB w h=true then docA w h 1 .nil else docA 0 0 0 .nil
def newE(w h:Int):Int:=if sizedB w h=true then 0 else 31
theorem new_call{w h:Int}(hR: ∀H',Ext H H'→R (.tuple #[.agg (begunA w h),.int .i64 (newE w h)]) H'):CallsH Tryz.prog 6 #[.int .i64 w,.int .i64 h] H R:=by
 refine c6 (fun hsz H8 he8=>?_) fun hsz H8 he8=>?_
 ·have:=hR H8 he8;unfold begunA newE at this;rw[hsz] at this;exact this
 ·have:=hR H8 he8;unfold begunA newE at this;rw[hsz] at this;exact this
theorem rnew_call{w h:Int}(hR: ∀H',Ext H H'→R (.tuple #[.agg (begunA w h),.int .i64 (newE w h)]) H'):CallsH Tryz.prog 7 #[.int .i64 w,.int .i64 h] H R:=by
 refine c7 (fun hsz H8 he8=>?_) fun hsz H8 he8=>?_
 ·have:=hR H8 he8;unfold begunA newE at this;rw[hsz] at this;exact this
 ·have:=hR H8 he8;unfold begunA newE at this;rw[hsz] at this;exact this
end Go.Proofs
namespace Go.Proofs
open Go.Sh
variable {H0 H:Heap} {σ:List Rs} {R:Value→Heap→Prop}
structure RT where
 f:LayF
 to:Int
 P:Sl3
 M:Sl3
 A:Sl3
def RT.rw(r:RT):Rw:=⟨r.f,r.to⟩
abbrev rwS(rs:List RT):List Rw:=rs.map RT.rw
theorem rwS_len(rs:List RT):(rwS rs).length=rs.length:=List.length_map _
def cellsR(r:RT):List Value:=
 [.int .i64 r.f.id,.int .i64 r.f.kind,.int .i64 r.to,.bool r.f.hidden,.int .i64 r.f.opacity,.int .i64 r.f.mode,.int .i64 r.f.w,.int .i64 r.f.h,r.P.v,r.M.v,
  .int .i64 r.f.map.a,.int .i64 r.f.map.b,.int .i64 r.f.map.c,.int .i64 r.f.map.d,.int .i64 r.f.map.e,.int .i64 r.f.map.f,.bool r.f.smooth,.int .i64 r.f.table,r.A.v]
def cellsRs(rs:List RT):List Value:=(rs.map cellsR).flatten
theorem cellsR_len(r:RT):(cellsR r).length=19:=rfl
theorem cellsR_one(r:RT): ∀v∈cellsR r,v.oneCell'=true:=by
 intro v hv
 simp only[cellsR,List.mem_cons,List.not_mem_nil,or_false] at hv
 rcases hv with rfl|rfl|rfl|rfl|rfl|rfl|rfl|rfl|rfl|rfl|rfl|rfl|rfl|rfl|rfl|rfl|rfl|rfl|rfl<;>rfl
theorem cellsRs_len(rs:List RT):(cellsRs rs).length=rs.length*19:=by
 induction rs with
 |nil=>rfl
 |cons r rs ih=>rw[cellsRs,List.map_cons,List.flatten_cons,List.length_append,cellsR_len];rw[cellsRs] at ih;rw[ih,List.length_cons];omega
theorem cellsRs_app(a b:List RT):cellsRs (a++b)=cellsRs a++cellsRs b:=by simp[cellsRs]
theorem cellsRs_one'(r:RT):cellsRs [r]=cellsR r:=by simp[cellsRs]
theorem cellsRs_cons(r:RT)(rs:List RT):cellsRs (r::rs)=cellsR r++cellsRs rs:=by simp[cellsRs]
theorem cellsRs_one(rs:List RT): ∀v∈cellsRs rs,v.oneCell'=true:=fun v hv=>by
 obtain⟨l,hl,hv⟩:=List.mem_flatten.1 hv
 obtain⟨r,_,rfl⟩:=List.mem_map.1 hl
 exact cellsR_one r v hv
theorem cellsRs_get{rs:List RT}: ∀{i:Nat} {r:RT},rs[i]?=some r→ ∀{j:Nat} {v:Value},(cellsR r)[j]?=some v→(cellsRs rs)[i*19+j]?=some v:=by
 induction rs with
 |nil=>intro i r h;simp at h
 |cons a rs ih=>
  intro i r h j v hv
  rw[cellsRs_cons]
  cases i with
  |zero=>
   simp at h;subst h
   have:=(List.getElem?_eq_some_iff.1 hv).1
   rw[Nat.zero_mul,Nat.zero_add,List.getElem?_append_left this];exact hv
  |succ i=>
   rw[List.getElem?_cons_succ] at h
   rw[List.getElem?_append_right (by rw[cellsR_len];omega),cellsR_len,show(i+1)*19+j-19=i*19+j from by omega]
   exact ih h hv
structure rdR(H:Heap)(r:RT):Prop where
 p:IS H r.P.p r.P.l (ints r.f.p)
 mask:IS H r.M.p r.M.l (kints .u8 r.f.mask)
 params:IS H r.A.p r.A.l (ints r.f.params)
theorem rdR.ext{H H':Heap}{r:RT}(h:rdR H r)(he:Ext H H'):rdR H' r:=⟨h.p.ext he,h.mask.ext he,h.params.ext he⟩
structure RL(H:Heap)(K:Sl3)(rs:List RT):Prop where
 sl:RS H K.p K.l 82 19 (cellsRs rs)
 cap:K.l≤K.c
 few:rs.length≤1000000
structure RD(H:Heap)(K:Sl3)(rs:List RT):Prop where
 l:RL H K rs
 rd: ∀r∈rs,rdR H r
theorem RL.ext{H H':Heap}{K:Sl3}{rs:List RT}(h:RL H K rs)(he:Ext H H'):RL H' K rs:=⟨h.sl.ext he,h.cap,h.few⟩
theorem RD.ext{H H':Heap}{K:Sl3}{rs:List RT}(h:RD H K rs)(he:Ext H H'):RD H' K rs:=⟨h.l.ext he,fun r hr=>(h.rd r hr).ext he⟩
theorem RL.len{H:Heap}{K:Sl3}{rs:List RT}(h:RL H K rs):K.l=rs.length:=by
 have:=h.sl.len;rw[cellsRs_len] at this;omega
theorem RL.row{H:Heap}{K:Sl3}{rs:List RT}(h:RL H K rs){i:Nat}{r:RT}(hr:rs[i]?=some r): ∃blk,K.p=some ⟨blk,0,none⟩∧rowIn H ⟨blk,i*19,none⟩ (cellsR r).toArray:=by
 have hi:=(List.getElem?_eq_some_iff.1 hr).1
 exact h.sl.row (by rw[h.len];exact hi) (by decide) fun j v hv=>cellsRs_get hr (by simpa using hv)
theorem RL.nil(H:Heap):RL H .nil []:=⟨RS.nil H none _ 19,Nat.le_refl _,by simp⟩
theorem rowR{H:Heap}{b i:Nat}{r:RT}(h:rowIn H ⟨b,i*19,none⟩ (cellsR r).toArray){j:Nat}{v:Value}(hv:(cellsR r)[j]?=some v):Sh.cell H (Addr.add (Addr.add ⟨b,0,none⟩ (i*19)) j)=some v:=by
 have:=h j v (by simpa using hv)
 rw[add_none] at this
 rw[add_none,Nat.zero_add,add_none];exact this
theorem rowR0{H:Heap}{b i:Nat}{cs:Array Value}(h:rowIn H ⟨b,i*19,none⟩ cs):rowIn H (Addr.add ⟨b,0,none⟩ (i*19)) cs:=by rw[add_none,Nat.zero_add];exact h
def findI(id:Int):Nat→List Rw→Int
 |_,[]=> -1
 |b,r::L=>if r.f.id=id then b else findI id (b+1) L
theorem findI_none{id:Int}: ∀{L:List Rw} {b:Nat},id∉idsR L→findI id b L= -1
 |[],b,_=>rfl
 |r::L,b,h=>by
  rw[idsR,List.map_cons,List.mem_cons,not_or] at h
  rw[findI,if_neg fun he=>h.1 he.symm,findI_none h.2]
theorem findI_some: ∀{L:List Rw} {b i:Nat} {r:Rw},(idsR L).Nodup→L[i]?=some r→findI r.f.id b L=((b+i:Nat):Int)
 |[],b,i,r,_,h=>by simp at h
 |a::L,b,i,r,hn,h=>by
  rw[idsR,List.map_cons,List.nodup_cons] at hn
  cases i with
  |zero=>simp at h;subst h;rw[findI,if_pos rfl];rfl
  |succ i=>
   rw[List.getElem?_cons_succ] at h
   have hne:a.f.id≠r.f.id:=fun he=>hn.1 (he▸List.mem_map.2 ⟨r,List.mem_of_getElem? h,rfl⟩)
   rw[findI,if_neg hne,findI_some hn.2 h]
   congr 1;omega
theorem docA_3(w h next:Int)(K:Sl3):(docA w h next K)[3]?=some (.slice K.p K.l K.c):=rfl
theorem rws_get{rs:List RT}{i:Nat}{r:RT}(h:rs[i]?=some r):(rwS rs)[i]?=some r.rw:=by rw[rwS,List.getElem?_map,h];rfl
theorem c27{w h next id:Int}{K:Sl3}{rs:List RT}(hl:RL H K rs)(hR: ∀H',Ext H H'→R (.int .i64 (findI id 0 (rwS rs))) H'):CallsH Tryz.prog 27 #[.agg (docA w h next K),.int .i64 id] H R:=by
 refine Tryz.s27 ?_
 unfold Tryz.S27
 refine(St.nil H).alc fun b3 H4 hs4=>?_
 intro X hX
 have hlen:=hl.len
 have hfew:=hl.few
 have go: ∀k,k≤rs.length→findI id 0 (rwS rs)=findI id k ((rwS rs).drop k)→X [.int .i64 (k:Nat)] H4:=by
  refine upto fun k hk ih he=>hX _ _ ⟨_,_,_,hs4.get 0 rfl (docA_3 w h next K),br_dec (fun hlt=>?_) fun hge=>?_⟩
  ·have hk':k<rs.length:=by omega
   have hr:=List.getElem?_eq_getElem hk'
   obtain⟨blk,hp,hrow⟩:=(hl.ext hs4.ext).row hr
   have hd:(rwS rs).drop k=rs[k].rw::(rwS rs).drop (k+1):=by
    rw[List.drop_eq_getElem_cons (by rw[rwS,List.length_map];exact hk')];simp
   rw[hd,findI] at he
   refine⟨_,_,_,hs4.get 0 rfl (docA_3 w h next K),_,hp,by omega,hlt,rs[k].f.id,rowR hrow rfl,br_eq (fun hid=>?_) fun hid=>?_⟩
   ·rw[if_pos (show rs[k].rw.f.id=id from hid)] at he
    have:=hR H4 hs4.ext
    rw[he] at this;exact this
   ·rw[if_neg (show ¬rs[k].rw.f.id=id from hid)] at he
    rw[wrap_id (by omega) (by omega)]
    exact ih hk' he
  ·have:k=rs.length:=by omega
   subst this
   rw[List.drop_of_length_le (by rw[rwS,List.length_map];exact Nat.le_refl _)] at he
   have:=hR H4 hs4.ext
   rw[he] at this;exact this
 exact go 0 (by omega) rfl
def kidsZ(g:Int)(L:List Rw):List Int:=(kidsI g 0 L).map fun(i:Nat)=>(i:Int)
theorem kidsZ_len(g:Int)(L:List Rw):(kidsZ g L).length=(ofG g L).length:=by rw[kidsZ,List.length_map,kidsI_len]
theorem kidsZ_take{g:Int}{L:List Rw}{k:Nat}{r:Rw}(h:L[k]?=some r):kidsZ g (L.take (k+1))=kidsZ g (L.take k)++(if r.to=g then[(k:Int)] else[]):=by
 have hlt:=(List.getElem?_eq_some_iff.1 h).1
 rw[take_succ h,kidsZ,kidsI_app,List.map_append,kidsI,List.length_take,Nat.min_eq_left (by omega),Nat.zero_add]
 split<;>rfl
theorem kidsZ_le(g:Int)(L:List Rw):(kidsZ g L).length≤L.length:=by rw[kidsZ_len];unfold ofG;exact List.length_filter_le _ _
theorem c48{w h next to:Int}{K:Sl3}{rs:List RT}(hl:RL H K rs)(hR: ∀(q:Sl3) H',St H H' [.sl q.p q.l q.c 3 1 (ints (kidsZ to (rwS rs)))]→R q.v H'):CallsH Tryz.prog 48 #[.agg (docA w h next K),.int .i64 to] H R:=by
 refine Tryz.s48 ?_
 unfold Tryz.S48
 refine(St.nil H).alc fun b3 H4 hs4=>?_
 intro X hX
 have hlen:=hl.len
 have hfew:=hl.few
 have go: ∀k,k≤rs.length→ ∀(q:Sl3) H1,St H H1 [.sl q.p q.l q.c 3 1 (ints (kidsZ to ((rwS rs).take k))),.cell b3 (docA w h next K) 32]→X [.slice q.p q.l q.c,.int .i64 (k:Nat)] H1:=by
  refine upto fun k hk ih q H1 hs1=>hX _ _ _ _ _ ⟨_,_,_,hs1.get 1 rfl (docA_3 w h next K),br_dec (fun hlt=>?_) fun hge=>?_⟩
  ·have hk':k<rs.length:=by omega
   have hr:=List.getElem?_eq_getElem hk'
   obtain⟨blk,hp,hrow⟩:=(hl.ext hs1.ext).row hr
   have hkt:=kidsZ_take (g:=to) (rws_get hr)
   have hql:q.l=(kidsZ to ((rwS rs).take k)).length:=by
    have:=(hs1.is 0 rfl).len;rw[ints_len] at this;exact this.symm
   have hle:=kidsZ_le to ((rwS rs).take k)
   rw[List.length_take] at hle
   refine⟨_,_,_,hs1.get 1 rfl (docA_3 w h next K),_,hp,by omega,hlt,rs[k].to,rowR hrow rfl,br_eq (fun hto=>?_) fun hto=>?_⟩
   ·refine hs1.alc fun b13 H14 hs14=>hs14.appC 1 0 rfl rfl rfl (by simp[Value.oneCell']) (by decide) rfl (by omega) (by omega) fun p' c' H16 hs16=>?_
    rw[wrap_id (by omega) (by omega)]
    refine ih hk' ⟨p',q.l+1,c'⟩ H16 ?_
    rw[hkt,if_pos (show rs[k].rw.to=to from hto),ints_append]
    exact hs16.tail
   ·rw[wrap_id (by omega) (by omega)]
    refine ih hk' q H1 ?_
    rw[hkt,if_neg (show ¬rs[k].rw.to=to from hto),List.append_nil]
    exact hs1
  ·have:k=rs.length:=by omega
   subst this
   rw[List.take_of_length_le (by rw[rwS,List.length_map];exact Nat.le_refl _)] at hs1
   exact hR q H1 (hs1.take 1)
 exact go 0 (by omega) .nil H4 (hs4.nilSl _ _)
theorem c58{w h next id:Int}{K:Sl3}{rs:List RT}(hl:RL H K rs)(hn:(idsR (rwS rs)).Nodup){c:List Int}(hp:Path (rwS rs) id c)(hc:c.length≤1000000)(hR: ∀H',Ext H H'→R (.int .i64 c.length) H'):CallsH Tryz.prog 58 #[.agg (docA w h next K),.int .i64 id] H R:=by
 refine Tryz.s58 ?_
 unfold Tryz.S58
 refine(St.nil H).alc fun b3 H4 hs4=>?_
 intro X hX
 have hlen:=hl.len
 have go: ∀{i:Int} {l:List Int},Path (rwS rs) i l→ ∀(n:Nat) H1,n+l.length=c.length→St H H1 [.cell b3 (docA w h next K) 32]→X [.int .i64 i,.int .i64 (n:Nat)] H1:=by
  intro i l hp
  induction hp with
  |nil=>
   intro n H1 hnl hs1
   refine hX _ _ _ (br_ne (fun h=>absurd rfl h) fun _=>?_)
   rw[show n=c.length from by simpa using hnl]
   exact hR H1 hs1.ext
  | @cons r l hr h0 _ ih=>
   intro n H1 hnl hs1
   rw[List.length_cons] at hnl
   obtain⟨x,hx,rfl⟩:=List.mem_map.1 hr
   obtain⟨k,hk⟩:=List.getElem?_of_mem hx
   have hkl:=(List.getElem?_eq_some_iff.1 hk).1
   have hf:findI x.rw.f.id 0 (rwS rs)=((0+k:Nat):Int):=findI_some hn (rws_get hk)
   rw[Nat.zero_add] at hf
   refine hX _ _ _ (br_ne (fun _=>?_) fun h=>absurd h h0)
   refine⟨_,_,_,hs1.get 0 rfl (docA_3 w h next K),docA w h next K,rfl,rowIn_whole (hs1.block 0 rfl),c27 (hl.ext hs1.ext) fun H2 he2=>?_⟩
   obtain⟨blk,hpk,hrow⟩:=(hl.ext (hs1.ext.trans he2)).row hk
   rw[hf]
   refine⟨_,rfl,.inl he2,_,hpk,by omega,by omega,x.to,rowR hrow rfl,?_⟩
   rw[wrap_id (by omega) (by omega)]
   exact ih (n+1) H2 (by omega) (hs1.step he2)
 exact go hp 0 H4 (by omega) hs4
theorem c59{w h next id of:Int}{K:Sl3}{rs:List RT}(hl:RL H K rs)(hn:(idsR (rwS rs)).Nodup){c:List Int}(hp:Path (rwS rs) id c)(hR: ∀H',Ext H H'→R (.bool (decide (of∈c))) H'):CallsH Tryz.prog 59 #[.agg (docA w h next K),.int .i64 id,.int .i64 of] H R:=by
 refine Tryz.s59 ?_
 unfold Tryz.S59
 refine(St.nil H).alc fun b3 H4 hs4=>?_
 intro X hX
 have hlen:=hl.len
 have go: ∀{i:Int} {l:List Int},Path (rwS rs) i l→ ∀H1,decide (of∈l)=decide (of∈c)→St H H1 [.cell b3 (docA w h next K) 32]→X [.int .i64 i] H1:=by
  intro i l hp
  induction hp with
  |nil=>
   intro H1 hnl hs1
   refine hX _ _ (br_ne (fun h=>absurd rfl h) fun _=>?_)
   have:=hR H1 hs1.ext
   rw[←hnl] at this;exact this
  | @cons r l hr h0 _ ih=>
   intro H1 hnl hs1
   obtain⟨x,hx,rfl⟩:=List.mem_map.1 hr
   obtain⟨k,hk⟩:=List.getElem?_of_mem hx
   have hkl:=(List.getElem?_eq_some_iff.1 hk).1
   have hf:findI x.rw.f.id 0 (rwS rs)=((0+k:Nat):Int):=findI_some hn (rws_get hk)
   rw[Nat.zero_add] at hf
   refine hX _ _ (br_ne (fun _=>br_eq (fun he=>?_) fun hne=>?_) fun h=>absurd h h0)
   ·have:=hR H1 hs1.ext
    rw[←hnl,show decide (of∈x.rw.f.id::l)=true from decide_eq_true (by rw[he];exact List.mem_cons_self)] at this
    exact this
   ·refine⟨_,_,_,hs1.get 0 rfl (docA_3 w h next K),docA w h next K,rfl,rowIn_whole (hs1.block 0 rfl),c27 (hl.ext hs1.ext) fun H2 he2=>?_⟩
    obtain⟨blk,hpk,hrow⟩:=(hl.ext (hs1.ext.trans he2)).row hk
    rw[hf]
    refine⟨_,rfl,.inl he2,_,hpk,by omega,by omega,x.to,rowR hrow rfl,?_⟩
    refine ih H2 ?_ (hs1.step he2)
    rw[←hnl]
    exact decide_eq_decide.2 ⟨fun h=>List.mem_cons_of_mem _ h,fun h=>(List.mem_cons.1 h).resolve_left fun he=>hne he.symm⟩
 exact go hp H4 rfl hs4
theorem c60{w h next:Int}{K:Sl3}{rs:List RT}{B:Nat}(hl:RL H K rs)(hn:(idsR (rwS rs)).Nodup)(hB:B≤1000000)(h1: ∀r∈rwS rs,∃c,Path (rwS rs) r.f.id c∧c.length≤B)(h2:(rs=[]∧B=0)∨ ∃r∈rwS rs,∃c,Path (rwS rs) r.f.id c∧c.length=B)
 (hR: ∀H',Ext H H'→R (.int .i64 B) H'):CallsH Tryz.prog 60 #[.agg (docA w h next K)] H R:=by
 refine Tryz.s60 ?_
 unfold Tryz.S60
 refine(St.nil H).alc fun b3 H4 hs4=>?_
 intro X hX
 have hlen:=hl.len
 have hfew:=hl.few
 have go: ∀k,k≤rs.length→ ∀(m:Nat) H1,m≤B→(∀r∈(rwS rs).take k,∀c,Path (rwS rs) r.f.id c→c.length≤m)→St H H1 [.cell b3 (docA w h next K) 32]→X [.int .i64 (m:Nat),.int .i64 (k:Nat)] H1:=by
  refine upto fun k hk ih m H1 hm hall hs1=>hX _ _ _ ⟨_,_,_,hs1.get 0 rfl (docA_3 w h next K),br_dec (fun hlt=>?_) fun hge=>?_⟩
  ·have hk':k<rs.length:=by omega
   have hr:=List.getElem?_eq_getElem hk'
   obtain⟨blk,hp,hrow⟩:=(hl.ext hs1.ext).row hr
   obtain⟨c,hpc,hcl⟩:=h1 rs[k].rw (List.mem_of_getElem? (rws_get hr))
   refine⟨docA w h next K,rfl,rowIn_whole (hs1.block 0 rfl),_,_,_,hs1.get 0 rfl (docA_3 w h next K),_,hp,by omega,hlt,rs[k].f.id,rowR hrow rfl,c58 (hl.ext hs1.ext) hn hpc (by omega) fun H2 he2=>⟨_,rfl,br_dec (fun hgt=>?_) fun hle=>?_⟩⟩
   ·rw[wrap_id (n:=(k:Int)+1) (by omega) (by omega)]
    refine ih hk' c.length H2 hcl (fun r hrm c' hc'=>?_) (hs1.step he2)
    rw[take_succ (rws_get hr)] at hrm
    rcases List.mem_append.1 hrm with hrm|hrm
    ·have:=hall r hrm c' hc';omega
    ·rw[List.mem_singleton] at hrm;subst hrm;rw[hc'.uniq hn hpc];exact Nat.le_refl _
   ·rw[wrap_id (n:=(k:Int)+1) (by omega) (by omega)]
    refine ih hk' m H2 hm (fun r hrm c' hc'=>?_) (hs1.step he2)
    rw[take_succ (rws_get hr)] at hrm
    rcases List.mem_append.1 hrm with hrm|hrm
    ·exact hall r hrm c' hc'
    ·rw[List.mem_singleton] at hrm;subst hrm;rw[hc'.uniq hn hpc];omega
  ·have hkl:k=rs.length:=by omega
   subst hkl
   rw[List.take_of_length_le (by rw[rwS,List.length_map];exact Nat.le_refl _)] at hall
   have:m=B:=by
    rcases h2 with ⟨_,h0⟩|⟨r,hrm,c,hpc,hcl⟩
    ·omega
    ·have:=hall r hrm c hpc;omega
   subst this
   exact hR H1 hs1.ext
 exact go 0 (by omega) 0 H4 (by omega) (fun r hr=>by simp at hr) hs4
theorem rel_find{D:List Lay}{rs:List RT}(hr:Rel D (rwS rs))(hi:Ids D)(id:Int):(flK [] [] id D=none∧findI id 0 (rwS rs)= -1)∨
 ∃fr u ks k r,flK [] [] id D=some (fr::u,ks)∧fr.f.id=id∧plugL (fr::u) ks=D∧rs[k]?=some r∧r.f=fr.f∧r.to=gid u∧findI id 0 (rwS rs)=(k:Nat):=by
 rcases fl_cases id D with hn|⟨fr,u,ks,hf,hid,hp⟩
 ·left
  refine⟨hn,findI_none fun hm=>?_⟩
  exact(flK_none D [] []).1 hn (hr.ids.mem_iff.1 hm)
 ·right
  have hm:(⟨fr.f,gid u⟩:Rw)∈rwS rs:=hr.mem.2 (hp▸at_mem)
  obtain⟨r,hrm,he⟩:=List.mem_map.1 hm
  obtain⟨k,hk⟩:=List.getElem?_of_mem hrm
  have hf2:=findI_some (b:=0) (hr.nodup hi) (rws_get hk)
  rw[Nat.zero_add] at hf2
  have e1:r.f=fr.f:=congrArg Rw.f he
  have e2:r.to=gid u:=congrArg Rw.to he
  refine⟨fr,u,ks,k,r,hf,hid,hp,hk,e1,e2,?_⟩
  rw[←hid,←e1];exact hf2
theorem c56{w h next to:Int}{K:Sl3}{rs:List RT}{D:List Lay}(hl:RL H K rs)(hr:Rel D (rwS rs))(hi:Ids D)(hR: ∀H',Ext H H'→R (.int .i64 (homeL D to).1) H'):CallsH Tryz.prog 56 #[.agg (docA w h next K),.int .i64 to] H R:=by
 refine Tryz.s56 ?_
 unfold Tryz.S56
 refine(St.nil H).alc fun b3 H4 hs4=>?_
 have hlen:=hl.len
 refine br_eq (fun h0=>?_) fun h0=>?_
 ·have:=hR H4 hs4.ext
  rw[show(homeL D to).1=0 from by unfold homeL;rw[if_pos h0]] at this;exact this
 ·refine⟨docA w h next K,rfl,rowIn_whole (hs4.block 0 rfl),c27 (hl.ext hs4.ext) fun H7 he7=>⟨_,rfl,?_⟩⟩
  have hs7:=hs4.step he7
  rcases rel_find hr hi to with ⟨hn,hf⟩|⟨fr,u,ks,k,r,hf,hid,hp,hk,e1,e2,hfk⟩
  ·rw[hf]
   refine br_dec (fun _=>?_) fun h=>by omega
   have:=hR H7 hs7.ext
   rw[show(homeL D to).1=40 from by unfold homeL;rw[if_neg h0,hn]] at this;exact this
  ·rw[hfk]
   have hkl:=(List.getElem?_eq_some_iff.1 hk).1
   obtain⟨blk,hpk,hrow⟩:=(hl.ext hs7.ext).row hk
   refine br_dec (fun h=>by omega) fun _=>⟨_,_,_,hs7.get 0 rfl (docA_3 w h next K),_,hpk,by omega,by omega,r.f.kind,rowR hrow rfl,br_ne (fun hne=>?_) fun he=>?_⟩
   ·have:=hR H7 hs7.ext
    rw[show(homeL D to).1=41 from by unfold homeL;rw[if_neg h0,hf];simp only;rw[if_neg (e1▸hne)]] at this;exact this
   ·have:=hR H7 hs7.ext
    rw[show(homeL D to).1=0 from by unfold homeL;rw[if_neg h0,hf];simp only;rw[if_pos (e1▸he)]] at this;exact this
end Go.Proofs
namespace Go.Proofs
open Go.Sh
variable {H0 H:Heap} {σ:List Rs} {R:Value→Heap→Prop}
theorem rowOf_nil(H:Heap)(p:Option Addr):Go.Sh.rowOf H p 0 #[]:=by
 cases p with
 |none=>rfl
 |some a=>exact⟨rfl,fun j v hv=>by simp at hv⟩
theorem _root_.Go.Sh.RS.cutRow{H:Heap}{p:Option Addr}{l c k:Nat}{el:TypeId}{fs:List Value}(h:RS H p l el k fs){lo hi:Nat}(h1:lo≤hi)(h2:hi≤l)(h3:l≤c):
 Go.Sh.rowOf H (if c=lo then p else Option.map (fun x=>Addr.add x (lo*k)) p) ((hi-lo)*k) ((fs.drop (lo*k)).take ((hi-lo)*k)).toArray:=by
 by_cases he:hi=lo
 ·subst he
  rw[Nat.sub_self,Nat.zero_mul,List.take_zero]
  exact rowOf_nil _ _
 ·rcases h.at_ with h4|⟨blk,cs,h4,h5,h6⟩
  ·omega
  ·subst h4
   rw[if_neg (by omega)]
   have hm:lo*k+(hi-lo)*k≤fs.length:=by rw[h.len,←Nat.add_mul];exact Nat.mul_le_mul_right k (by omega)
   have:=h.rowPart (lo*k) ((hi-lo)*k) hm
   simp only[Option.map_some,add_none,Nat.zero_add]
   exact this
theorem cellsRs_take(rs:List RT)(i:Nat):cellsRs (rs.take i)=(cellsRs rs).take (i*19)∧cellsRs (rs.drop i)=(cellsRs rs).drop (i*19):=by
 have h:=cellsRs_app (rs.take i) (rs.drop i)
 rw[List.take_append_drop] at h
 rcases Nat.lt_or_ge i rs.length with hi|hi
 ·have hl:(cellsRs (rs.take i)).length=i*19:=by rw[cellsRs_len,List.length_take];congr 1;omega
  rw[h,←hl,List.take_left,List.drop_left]
  exact⟨rfl,rfl⟩
 ·have h19:(cellsRs rs).length≤i*19:=by rw[cellsRs_len];omega
  rw[List.take_of_length_le hi,List.drop_eq_nil_of_le hi,List.take_of_length_le h19,List.drop_eq_nil_of_le h19]
  exact⟨rfl,rfl⟩
theorem RL.cut{H:Heap}{K:Sl3}{rs:List RT}(h:RL H K rs){lo hi:Nat}(h1:lo≤hi)(h2:hi≤rs.length):
 Go.Sh.rowOf H (if K.c=lo then K.p else Option.map (fun x=>Addr.add x (lo*19)) K.p) ((hi-lo)*19) (cellsRs ((rs.drop lo).take (hi-lo))).toArray:=by
 have:=h.sl.cutRow (c:=K.c) h1 (h.len▸h2) h.cap
 rw[(cellsRs_take _ _).1,(cellsRs_take _ _).2]
 exact this
def insT(rs:List RT)(r:RT)(i:Nat):List RT:=rs.take (putAt (rwS rs) r.to i)++r::rs.drop (putAt (rwS rs) r.to i)
theorem insT_rw(rs:List RT)(r:RT)(i:Nat):rwS (insT rs r i)=insR (rwS rs) r.rw i:=by
 unfold insT insR
 rw[rwS,List.map_append,List.map_cons,List.map_take,List.map_drop];rfl
theorem insT_mem{rs:List RT}{r:RT}{i:Nat}{x:RT}(h:x∈insT rs r i):x=r∨x∈rs:=by
 unfold insT at h
 rcases List.mem_append.1 h with h|h
 ·exact .inr (List.mem_of_mem_take h)
 ·rcases List.mem_cons.1 h with h|h
  ·exact .inl h
  ·exact .inr (List.mem_of_mem_drop h)
theorem insT_len(rs:List RT)(r:RT)(i:Nat):(insT rs r i).length=rs.length+1:=by
 unfold insT
 have:=putAt_le (rwS rs) r.to i
 rw[rwS_len] at this
 rw[List.length_append,List.length_cons,List.length_take,List.length_drop]
 omega
theorem elemR(r:RT):(setL [Value.int .i64 0,Value.int .i64 0,Value.int .i64 0,Value.bool false,Value.int .i64 0,Value.int .i64 0,Value.int .i64 0,Value.int .i64 0,Value.slice none 0 0,Value.slice none 0 0,Value.int .i64 0,Value.int .i64 0,Value.int .i64 0,Value.int .i64 0,Value.int .i64 0,Value.int .i64 0,Value.bool false,Value.int .i64 0,Value.slice none 0 0] 0 (Array.toList (cellsR r).toArray)).toArray=(cellsR r).toArray:=by
 rw[setL_all (by rfl)]
theorem c57{w h next a:Int}{K:Sl3}{rs:List RT}{r:RT}(hl:RL H K rs)
 (hbad:atL a (ofG r.to (rwS rs)).length=none→ ∀H',Ext H H'→R (.tuple #[.agg (docA w h next K),.int .i64 43]) H')
 (hok: ∀i,atL a (ofG r.to (rwS rs)).length=some i→ ∀(q:Sl3) H',St H H' [.sl q.p q.l q.c 82 19 (cellsRs (insT rs r i))]→R (.tuple #[.agg (docA w h next q),.int .i64 0]) H'):
 CallsH Tryz.prog 57 #[.agg (docA w h next K),.agg (cellsR r).toArray,.int .i64 a] H R:=by
 refine Tryz.s57 ?_
 unfold Tryz.S57
 have hlen:=hl.len
 have hfew:=hl.few
 refine(St.nil H).alc fun b4 H5 hs5=>hs5.alc fun b6 H7 hs7=>hs7.alc fun b8 H9 hs9=>⟨docA w h next K,rfl,rowIn_whole (hs9.block 2 rfl),r.to,hs9.get 1 rfl (j:=2) rfl,c48 (hl.ext hs9.ext) fun q H13 hk=>⟨q.p,q.l,q.c,rfl,?_⟩⟩
 have hs13:=hs9.call hk
 have hq:=hs13.is 0 rfl
 have hql:q.l=(ofG r.to (rwS rs)).length:=by have:=hq.len;rw[ints_len,kidsZ_len] at this;exact this.symm
 have hle:=kidsZ_le r.to (rwS rs)
 rw[kidsZ_len,rwS_len] at hle
 generalize hn:(ofG r.to (rwS rs)).length=n at hbad hok hql hle
 have bad: ∀{H1:Heap},St H H1 ([.sl q.p q.l q.c 3 1 (ints (kidsZ r.to (rwS rs))),.cell b8 #[Value.int .i64 0,Value.int .i64 0,Value.int .i64 0,Value.slice none 0 0] 32,.cell b6 (cellsR r).toArray 82,.cell b4 (docA w h next K) 32])→atL a n=none→
  ∃v43:Array Value,v43.size=4∧rowIn H1 ⟨b4,0,none⟩ v43∧v43.size=4∧stAt H1 ⟨b8,0,none⟩ (Array.toList v43) fun H_44=> ∃res45:Array Value,res45.size=4∧rowIn H_44 ⟨b8,0,none⟩ res45∧R (Value.tuple #[Value.agg res45,Value.int .i64 (43:Int)]) H_44:=fun{H1} hs1 hno=>
  ⟨docA w h next K,rfl,rowIn_whole (hs1.block 3 rfl),rfl,hs1.putAll 1 rfl rfl (docA_one w h next K) fun H2 hs2=>⟨docA w h next K,rfl,rowIn_whole (hs2.block 1 rfl),hbad hno H2 hs2.ext⟩⟩
 intro J15 hJ15
 have main: ∀a':Int,(∀i,0≤a'→a'≤n→i=a'.toNat→atL a n=some i)→((a'<0∨a'>n)→atL a n=none)→J15 [.int .i64 a'] H13:=fun a' hin hout=>by
  refine hJ15 _ _ ?_
  intro J18 hJ18
  refine br_dec (fun h0=>bad hs13 (hout (.inl h0))) fun h0=>br_dec (fun h1=>bad hs13 (hout (.inr (by omega)))) fun h1=>hJ18 _ ⟨_,_,_,hs13.get 3 rfl (docA_3 w h next K),?_⟩
  have hat:=hin a'.toNat (by omega) (by omega) rfl
  intro J21 hJ21
  have put:J21 [.int .i64 (putAt (rwS rs) r.to a'.toNat:Nat)] H13:=by
   have hpl:=putAt_le (rwS rs) r.to a'.toNat
   rw[rwS_len] at hpl
   generalize hw:putAt (rwS rs) r.to a'.toNat=wn at hpl
   refine hJ21 _ _ (hs13.alc fun b24 H25 hs25=>?_)
   have hs25':=hs25.toSl 0 (l:=0) (k:=19) (fs:=[]) rfl rfl rfl (by simp)
   have hcut:=(hl.ext hs25'.ext).cut (lo:=0) (hi:=wn) (Nat.zero_le _) hpl
   refine⟨_,_,_,hs25.get 4 rfl (docA_3 w h next K),by omega,by have:=hl.cap;omega,?_⟩
   rw[Int.toNat_natCast]
   refine hs25'.appS 0 rfl hcut (by rw[cellsRs_len,List.length_take,List.drop_zero];congr 1;omega) (cellsRs_one _) (by decide) rfl (by omega) (by omega) fun p1 c1 H28 hs28=>⟨(cellsR r).toArray,rfl,rowIn_whole (hs28.block 3 rfl),rfl,by decide,?_⟩
   rw[elemR]
   refine hs28.alc fun b30 H31 hs31=>hs31.appC 1 0 rfl rfl rfl (by simpa using cellsR_one r) (by decide) rfl (by omega) (by omega) fun p2 c2 H33 hs33=>⟨_,_,_,hs33.get 5 rfl (docA_3 w h next K),by omega,by omega,?_⟩
   have hcut2:=(hl.ext hs33.ext).cut (lo:=wn) (hi:=rs.length) hpl (Nat.le_refl _)
   rw[←hlen] at hcut2
   refine hs33.appS 1 rfl hcut2 (by rw[cellsRs_len,List.length_take,List.length_drop];congr 1;omega) (cellsRs_one _) (by decide) rfl (by omega) (by omega) fun p3 c3 H36 hs36=>?_
   refine hs36.put 5 rfl (by show 3<4;decide) rfl fun H37 hs37=>⟨docA w h next ⟨p3,0+(wn-0)+1+(K.l-wn),c3⟩,rfl,rowIn_whole (hs37.block 5 rfl),rfl,hs37.putAll 3 rfl rfl (docA_one _ _ _ _) fun H39 hs39=>⟨docA w h next ⟨p3,0+(wn-0)+1+(K.l-wn),c3⟩,rfl,rowIn_whole (hs39.block 3 rfl),hok _ hat _ H39 ?_⟩⟩
   have:=(hs39.drop 1).take 1
   have e:([]++cellsRs (List.take (wn-0) (List.drop 0 rs))++(cellsR r).toArray.toList++cellsRs (List.take (K.l-wn) (List.drop wn rs)))=cellsRs (insT rs r a'.toNat):=by
    unfold insT
    have hall:List.take (K.l-wn) (List.drop wn rs)=List.drop wn rs:=List.take_of_length_le (by rw[List.length_drop];omega)
    rw[hw,cellsRs_app,cellsRs_cons,List.drop_zero,Nat.sub_zero,List.nil_append,hall]
    simp
   rw[←e]
   exact this
  refine br_dec (fun hlt=>?_) fun hge=>?_
  ·have hi:a'.toNat<(kidsI r.to 0 (rwS rs)).length:=by rw[kidsI_len,hn];omega
   have hki:=List.getElem?_eq_getElem hi
   have hpa:putAt (rwS rs) r.to a'.toNat=(kidsI r.to 0 (rwS rs))[a'.toNat]:=by unfold putAt;rw[hki];rfl
   rw[hpa] at put
   have hz:(kidsZ r.to (rwS rs))[a'.toNat]?=some (((kidsI r.to 0 (rwS rs))[a'.toNat]:Nat):Int):=by rw[kidsZ,List.getElem?_map,hki];rfl
   obtain⟨ad,hp,hc⟩:=hq.get _ _ (ints_get hz)
   exact⟨ad,hp,by omega,hlt,_,by rw[Nat.mul_one];exact hc,put⟩
  ·have hi:(kidsI r.to 0 (rwS rs)).length≤a'.toNat:=by rw[kidsI_len,hn];omega
   have hpa:putAt (rwS rs) r.to a'.toNat=rs.length:=by unfold putAt;rw[List.getElem?_eq_none hi,rwS_len];rfl
   rw[hpa,←hlen] at put
   exact put
 unfold atL at main
 refine br_eq (fun h1=>?_) fun h1=>?_
 ·rw[hql]
  refine main n (fun i _ _ hi=>?_) fun h=>by omega
  rw[if_pos h1,hi];rfl
 ·refine main a (fun i h2 h3 hi=>?_) fun h=>?_
  ·rw[if_neg h1,if_pos ⟨h2,h3⟩,hi]
  ·rw[if_neg h1,if_neg (by omega)]
theorem c28{w h next id:Int}{K:Sl3}{rs:List RT}(hl:RL H K rs)(hn:(idsR (rwS rs)).Nodup)(p:Rw→Bool)(hp: ∀r∈rwS rs,∃c,Path (rwS rs) r.f.id c∧decide (id∈c)=p r)
 (hR: ∀(q g:Sl3) H',St H H' [.sl q.p q.l q.c 82 19 (cellsRs (rs.filter fun r=> !p r.rw)),.sl g.p g.l g.c 82 19 (cellsRs (rs.filter fun r=>p r.rw))]→R (.tuple #[q.v,g.v]) H'):
 CallsH Tryz.prog 28 #[.agg (docA w h next K),.int .i64 id] H R:=by
 refine Tryz.s28 ?_
 unfold Tryz.S28
 refine(St.nil H).alc fun b3 H4 hs4=>?_
 intro X hX
 have hlen:=hl.len
 have hfew:=hl.few
 have go: ∀k,k≤rs.length→ ∀(q g:Sl3) H1,St H H1 [.sl q.p q.l q.c 82 19 (cellsRs ((rs.take k).filter fun r=> !p r.rw)),.sl g.p g.l g.c 82 19 (cellsRs ((rs.take k).filter fun r=>p r.rw)),.cell b3 (docA w h next K) 32]→X [.slice q.p q.l q.c,.slice g.p g.l g.c,.int .i64 (k:Nat)] H1:=by
  refine upto fun k hk ih q g H1 hs1=>hX _ _ _ _ _ _ _ _ ⟨_,_,_,hs1.get 2 rfl (docA_3 w h next K),br_dec (fun hlt=>?_) fun hge=>?_⟩
  ·have hk':k<rs.length:=by omega
   have hr:=List.getElem?_eq_getElem hk'
   obtain⟨blk,hpk,hrow⟩:=(hl.ext hs1.ext).row hr
   obtain⟨c,hpc,hin⟩:=hp rs[k].rw (List.mem_of_getElem? (rws_get hr))
   have hql:q.l=((rs.take k).filter fun r=> !p r.rw).length:=by have:=(hs1.rs 0 rfl).len;rw[cellsRs_len] at this;omega
   have hgl:g.l=((rs.take k).filter fun r=>p r.rw).length:=by have:=(hs1.rs 1 rfl).len;rw[cellsRs_len] at this;omega
   have hq2:=List.length_filter_le (fun r:RT=> !p r.rw) (rs.take k)
   have hg2:=List.length_filter_le (fun r:RT=>p r.rw) (rs.take k)
   rw[List.length_take] at hq2 hg2
   refine⟨docA w h next K,rfl,rowIn_whole (hs1.block 2 rfl),_,_,_,hs1.get 2 rfl (docA_3 w h next K),_,hpk,by omega,hlt,rs[k].f.id,rowR hrow rfl,c59 (hl.ext hs1.ext) hn hpc fun H2 he2=>⟨_,rfl,?_⟩⟩
   have hs2:=hs1.step he2
   obtain⟨blk2,hpk2,hrow2⟩:=(hl.ext hs2.ext).row hr
   rw[hin]
   have htk:=take_succ hr
   refine br_i (fun ht=>?_) fun hf=>?_
   ·refine⟨_,_,_,hs2.get 2 rfl (docA_3 w h next K),_,hpk2,by omega,hlt,(cellsR rs[k]).toArray,rfl,rowR0 hrow2,rfl,by decide,?_⟩
    rw[elemR]
    refine hs2.alc fun b21 H22 hs22=>hs22.appC 2 0 rfl rfl rfl (by simpa using cellsR_one rs[k]) (by decide) rfl (by omega) (by omega) fun p' c' H24 hs24=>?_
    rw[wrap_id (by omega) (by omega)]
    refine ih hk' q ⟨p',g.l+1,c'⟩ H24 ?_
    rw[htk,List.filter_append,List.filter_append,cellsRs_app,cellsRs_app]
    simp only[List.filter_cons,List.filter_nil,ht,Bool.not_true,Bool.false_eq_true,if_false,if_true]
    rw[show cellsRs []=[] from rfl,List.append_nil,cellsRs_one']
    exact hs24.tail
   ·refine⟨_,_,_,hs2.get 2 rfl (docA_3 w h next K),_,hpk2,by omega,hlt,(cellsR rs[k]).toArray,rfl,rowR0 hrow2,rfl,by decide,?_⟩
    rw[elemR]
    refine hs2.alc fun b28 H29 hs29=>hs29.appC 1 0 rfl rfl rfl (by simpa using cellsR_one rs[k]) (by decide) rfl (by omega) (by omega) fun p' c' H31 hs31=>?_
    rw[wrap_id (by omega) (by omega)]
    refine ih hk' ⟨p',q.l+1,c'⟩ g H31 ?_
    rw[htk,List.filter_append,List.filter_append,cellsRs_app,cellsRs_app]
    simp only[List.filter_cons,List.filter_nil,hf,Bool.not_false,Bool.false_eq_true,if_false,if_true]
    rw[show cellsRs []=[] from rfl,List.append_nil,cellsRs_one']
    exact hs31.tail
  ·have:k=rs.length:=by omega
   subst this
   rw[List.take_of_length_le (Nat.le_refl _)] at hs1
   exact hR q g H1 (hs1.take 2)
 exact go 0 (by omega) .nil .nil H4 ((hs4.nilSl _ _).nilSl _ _)
end Go.Proofs
namespace Go.Proofs
open Go.Sh
variable {H0 H:Heap} {σ:List Rs} {R:Value→Heap→Prop}
def partL(v:Int)(d:Int):Int:=(v/d).tmod 256
theorem partL_nn{v d:Int}(hv:0≤v)(hd:0<d):partL v d=v/d%256:=Int.tmod_eq_emod_of_nonneg (Int.ediv_nonneg hv (by omega))
def partD(c:Int):Int:=if c=0 then 16777216 else if c=1 then 65536 else if c=2 then 256 else 1
theorem c89{v c:Int}(hc:0≤c∧c≤3)(hR:R (.int .i64 (partL v (partD c))) H):CallsH Tryz.prog 89 #[.int .i64 v,.int .i64 c] H R:=by
 refine Tryz.s89 ?_
 unfold Tryz.S89
 obtain rfl|rfl|rfl|rfl:c=0∨c=1∨c=2∨c=3:=by omega
 ·refine⟨by decide,by decide,?_⟩
  rw[show(IntKind.wrap .i64 ((24:Int)-(IntKind.wrap .i64 ((8:Int)*0))))=24 from by decide,shr24];exact hR
 ·refine⟨by decide,by decide,?_⟩
  rw[show(IntKind.wrap .i64 ((24:Int)-(IntKind.wrap .i64 ((8:Int)*1))))=16 from by decide,shr16'];exact hR
 ·refine⟨by decide,by decide,?_⟩
  rw[show(IntKind.wrap .i64 ((24:Int)-(IntKind.wrap .i64 ((8:Int)*2))))=8 from by decide,shr8'];exact hR
 ·refine⟨by decide,by decide,?_⟩
  rw[show(IntKind.wrap .i64 ((24:Int)-(IntKind.wrap .i64 ((8:Int)*3))))=0 from by decide,shr0']
  have e:partL v (partD 3)=Int.tmod v 256:=by unfold partL partD;rw[if_neg (by decide),if_neg (by decide),if_neg (by decide),Int.ediv_one]
  rw[e] at hR;exact hR
theorem c90{v:Int}(hR:R (.bool (pixelB v)) H):CallsH Tryz.prog 90 #[.int .i64 v] H R:=by
 refine Tryz.s90 ?_
 unfold Tryz.S90
 intro X hX
 have bad:(0≤v→pixelB v=false)→R (.bool false) H:=fun h=>by
  by_cases hv:0≤v
  ·rw[h hv] at hR;exact hR
  ·rw[show pixelB v=false from decide_eq_false fun hh=>hv hh.1] at hR;exact hR
 have e3:0≤v→partL v (partD 3)=v%256:=fun hv=>by rw[partL_nn hv (by decide)];unfold partD;rw[if_neg (by decide),if_neg (by decide),if_neg (by decide),Int.ediv_one]
 have step: ∀k:Nat,k<3→(0≤v→pixelB v=true→partL v (partD k)≤partL v (partD 3))→(partL v (partD k)≤partL v (partD 3)→X [.int .i64 ((k:Int)+1)] H)→X [.int .i64 k] H:=fun k hk hp hn=>hX _ _ (br_y (by omega) (c89 (by omega) ⟨_,rfl,c89 (by decide) ⟨_,rfl,br_dec (fun hgt=>bad fun hv=>Bool.eq_false_iff.2 fun hb=>by have:=hp hv hb;omega) fun hle=>by
  rw[wrap_id (n:=(k:Int)+1) (by omega) (by omega)];exact hn (by omega)⟩⟩))
 have hpx: ∀{v},pixelB v=true→v/16777216%256≤v%256∧v/65536%256≤v%256∧v/256%256≤v%256:=fun h=>(of_decide_eq_true h).2.2
 refine step 0 (by decide) (fun hv hb=>?_) fun h0=>step 1 (by decide) (fun hv hb=>?_) fun h1=>step 2 (by decide) (fun hv hb=>?_) fun h2=>hX _ _ (br_n (by decide) (br_dec (fun hv=>?_) fun hv=>bad fun h=>absurd h hv))
 ·rw[e3 hv,partL_nn hv (by decide)];exact(hpx hb).1
 ·rw[e3 hv,partL_nn hv (by decide)];exact(hpx hb).2.1
 ·rw[e3 hv,partL_nn hv (by decide)];exact(hpx hb).2.2
 ·have hv:0≤v:=hv
  rw[e3 hv,partL_nn hv (by decide)] at h0 h1 h2
  have h0:v/16777216%256≤v%256:=h0
  have h1:v/65536%256≤v%256:=h1
  have h2:v/256%256≤v%256:=h2
  rw[show pixelB v=decide (v<4294967296) from decide_eq_decide.2 ⟨fun h=>h.2.1,fun h=>⟨hv,h,h0,h1,h2⟩⟩] at hR
  exact hR
theorem c119{p:Pt}(hR: ∀H',Ext H H'→R (.bool (ptB p)) H'):CallsH Tryz.prog 119 #[.agg (ptV p)] H R:=by
 refine Tryz.s119 ?_
 unfold Tryz.S119
 refine(St.nil H).alc fun b2 H3 hs3=>?_
 have bad: ¬(-1048576≤p.1∧p.1≤1048576∧ -1048576≤p.2∧p.2≤1048576)→R (.bool false) H3:=fun h=>by
  have:=hR H3 hs3.ext
  rw[show ptB p=false from decide_eq_false h] at this;exact this
 refine⟨_,hs3.get 0 rfl (j:=0) rfl,br_dec (fun h1=>⟨_,hs3.get 0 rfl (j:=0) rfl,br_dec (fun h2=>⟨_,hs3.get 0 rfl (j:=1) rfl,br_dec (fun h3=>⟨_,hs3.get 0 rfl (j:=1) rfl,?_⟩) fun h3=>bad fun h=>h3 h.2.2.1⟩) fun h2=>bad fun h=>h2 h.2.1⟩) fun h1=>bad fun h=>h1 h.1⟩
 have:=hR H3 hs3.ext
 rw[show ptB p=decide (p.2≤1048576) from decide_eq_decide.2 ⟨fun h=>h.2.2.2,fun h=>⟨h1,h2,h3,h⟩⟩] at this
 exact this
theorem c91{p:Option Addr}{n c:Nat}{l:List Pt}(h:IS2 H p n l)(hn:n≤1000000000)(hR: ∀H',Ext H H'→R (.bool (shapeB l)) H'):CallsH Tryz.prog 91 #[.slice p n c] H R:=by
 refine Tryz.s91 ?_
 unfold Tryz.S91
 have hlen:=h.len
 intro X hX
 have go: ∀k,k≤n→ ∀H1,Ext H H1→(l.take k).all ptB=true→X [.int .i64 (k:Nat)] H1:=by
  refine upto fun k hk ih H1 he hall=>hX _ _ (br_dec (fun hlt=>?_) fun hge=>?_)
  ·have hk':k<l.length:=by omega
   obtain⟨a,hp,hrow⟩:=(h.ext he).row hk'
   refine⟨a,hp,by omega,hlt,_,rfl,hrow,c119 fun H8 he8=>⟨_,rfl,br_not (fun hb=>?_) fun hb=>?_⟩⟩
   ·have:=hR H8 (he.trans he8)
    rw[show shapeB l=false from by
     unfold shapeB
     rw[show l.all ptB=false from Bool.eq_false_iff.2 fun hh=>by
      rw[nthP_eq hk'] at hb
      rw[List.all_eq_true.1 hh _ (List.getElem_mem hk')] at hb;cases hb]
     simp] at this
    exact this
   ·rw[wrap_id (by omega) (by omega)]
    refine ih (by omega) H8 (he.trans he8) ?_
    rw[take_succ (List.getElem?_eq_getElem hk'),List.all_append,hall,Bool.true_and,List.all_cons,List.all_nil,Bool.and_true,←nthP_eq hk'];exact hb
  ·have hkn:k=n:=by omega
   rw[List.take_of_length_le (by omega)] at hall
   have:=hR H1 he
   unfold shapeB at this
   rw[hall,Bool.and_true] at this
   refine br_dec (fun h3=>?_) fun h3=>?_
   ·rw[show decide (3≤l.length∧l.length≤256)=decide (((n:Nat):Int)≤256) from decide_eq_decide.2 (by omega)] at this;exact this
   ·rw[show decide (3≤l.length∧l.length≤256)=false from decide_eq_false (by omega)] at this;exact this
 exact go 0 (by omega) H (Ext.refl H) rfl
theorem c120{a b:Pt}{x y:Int}(ha:(-1048576≤a.1∧a.1≤1048576)∧(-1048576≤a.2∧a.2≤1048576))(hb:(-1048576≤b.1∧b.1≤1048576)∧(-1048576≤b.2∧b.2≤1048576))(hx:0≤x∧x≤100000)(hy:0≤y∧y≤100000)(hR: ∀H',Ext H H'→R (.bool (metB a b x y)) H'):
 CallsH Tryz.prog 120 #[.agg (ptV a),.agg (ptV b),.int .i64 x,.int .i64 y] H R:=by
 refine Tryz.s120 ?_
 unfold Tryz.S120
 refine(St.nil H).alc fun b5 H6 hs6=>hs6.alc fun b7 H8 hs8=>⟨_,hs8.get 1 rfl (j:=1) rfl,_,hs8.get 0 rfl (j:=1) rfl,?_⟩
 have w1: ∀z:Int,-10000000≤z∧z≤10000000→IntKind.wrap .i64 (2*z)=2*z:=fun z hz=>wrap_id (by omega) (by omega)
 have m1:IntKind.wrap .i64 (IntKind.wrap .i64 ((2:Int)*x)+(1:Int))=2*x+1:=by rw[w1 x (by omega),wrap_id (by omega) (by omega)]
 have m2:IntKind.wrap .i64 (IntKind.wrap .i64 ((2:Int)*y)+(1:Int))=2*y+1:=by rw[w1 y (by omega),wrap_id (by omega) (by omega)]
 rw[m1,m2,w1 a.2 (by omega),w1 b.2 (by omega)]
 have fin:=hR H8 hs8.ext
 unfold metB at fin
 refine br_i (fun ht=>?_) fun hf=>?_
 ·have:decide (2*a.2>2*y+1)=decide (2*b.2>2*y+1):=by simpa using ht
  rw[if_pos this] at fin;exact fin
 ·have: ¬(decide (2*a.2>2*y+1)=decide (2*b.2>2*y+1)):=by simpa using hf
  rw[if_neg this] at fin
  refine⟨_,hs8.get 0 rfl (j:=1) rfl,_,hs8.get 1 rfl (j:=1) rfl,_,hs8.get 0 rfl (j:=0) rfl,_,hs8.get 1 rfl (j:=0) rfl,_,hs8.get 1 rfl (j:=1) rfl,_,hs8.get 1 rfl (j:=0) rfl,?_⟩
  rw[w1 a.2 (by omega),w1 b.2 (by omega),w1 a.1 (by omega),w1 b.1 (by omega)]
  rw[wrap_id (n:=2*b.2-2*a.2) (by omega) (by omega),wrap_id (n:=2*b.1-2*a.1) (by omega) (by omega),wrap_id (n:=2*y+1-2*a.2) (by omega) (by omega),wrap_id (n:=2*a.1-(2*x+1)) (by omega) (by omega)]
  have b1:=mul_bd (x:=2*b.1-2*a.1) (y:=2*y+1-2*a.2) (A:=10000000) (B:=10000000) (by omega) (by omega)
  have b2:=mul_bd (x:=2*a.1-(2*x+1)) (y:=2*b.2-2*a.2) (A:=10000000) (B:=10000000) (by omega) (by omega)
  rw[wrap_id (n:=(2*b.1-2*a.1)*(2*y+1-2*a.2)) (by omega) (by omega),wrap_id (n:=(2*a.1-(2*x+1))*(2*b.2-2*a.2)) (by omega) (by omega),wrap_id (n:=(2*b.1-2*a.1)*(2*y+1-2*a.2)+_) (by omega) (by omega)]
  unfold nMet at fin
  refine br_dec (fun h=>?_) fun h=>?_
  ·rw[if_pos h] at fin;exact fin
  ·rw[if_neg h] at fin;exact fin
theorem c92{p:Option Addr}{n c:Nat}{l:List Pt}(h:IS2 H p n l)(hn2:n≤1000000)(hb:l.all ptB=true){x y:Int}(hx:0≤x∧x≤100000)(hy:0≤y∧y≤100000)(hR: ∀H',Ext H H'→R (.bool (withinB l x y)) H'):
 CallsH Tryz.prog 92 #[.slice p n c,.int .i64 x,.int .i64 y] H R:=by
 refine Tryz.s92 ?_
 unfold Tryz.S92
 have hlen:=h.len
 intro X hX
 have go: ∀k,k≤n→ ∀H1,Ext H H1→X [.bool (xorN k fun i=>metB (nthP l i) (nthP l (if i+1=l.length then 0 else i+1)) x y),.int .i64 (k:Nat)] H1:=by
  refine upto fun k hk ih H1 he=>hX _ _ _ (br_dec (fun hlt=>?_) fun hge=>?_)
  ·have hk':k<l.length:=by omega
   intro J8 hJ8
   have main: ∀j:Nat,j<n→j=(if k+1=l.length then 0 else k+1)→J8 [.int .i64 (j:Nat)] H1:=fun j hj hje=>by
    refine hJ8 _ _ ?_
    obtain⟨a1,hp1,hr1⟩:=(h.ext he).row hk'
    obtain⟨a2,hp2,hr2⟩:=(h.ext he).row (i:=j) (by omega)
    refine⟨a1,hp1,by omega,hlt,_,rfl,hr1,a2,hp2,by omega,by omega,_,rfl,hr2,c120 (pt_bd hb k) (pt_bd hb j) hx hy fun H16 he16=>⟨_,rfl,?_⟩⟩
    have hxs:xorN (k+1) (fun i=>metB (nthP l i) (nthP l (if i+1=l.length then 0 else i+1)) x y)=((xorN k fun i=>metB (nthP l i) (nthP l (if i+1=l.length then 0 else i+1)) x y) ^^ metB (nthP l k) (nthP l j) x y):=by rw[xorN,hje]
    have:=ih (by omega) H16 (he.trans he16)
    rw[hxs] at this
    rw[wrap_id (by omega) (by omega)]
    refine br_i (fun ht=>?_) fun hf=>?_
    ·rw[ht,Bool.xor_true] at this;exact this
    ·rw[hf,Bool.xor_false] at this;exact this
   rw[wrap_id (by omega) (by omega)]
   refine br_eq (fun he1=>?_) fun hne=>?_
   ·exact main 0 (by omega) (by rw[if_pos (by omega)])
   ·exact main (k+1) (by omega) (by rw[if_neg (by omega)])
  ·have:k=n:=by omega
   subst this
   have:=hR H1 he
   unfold withinB at this
   rw[hlen] at this ⊢
   exact this
 exact go 0 (by omega) H (Ext.refl H)
theorem c96{p:Option Addr}{n c:Nat}{ps:List Int}{v:Int}(h:IS H p n (ints ps))(hok:CrvOk ps)(hv:0≤v∧v≤255)(hR: ∀x:Int,R (.int .i64 x) H):CallsH Tryz.prog 96 #[.slice p n c,.int .i64 v] H R:=by
 refine Tryz.s96 ?_
 unfold Tryz.S96
 have hlen:=h.length
 obtain⟨l1,l2,l3⟩:=hok.len
 refine rdG (i:=0) h (by omega) (by omega) (br_dec (fun h1=>rdG (i:=1) h (by omega) (by omega) (hR _)) fun h1=>?_)
 intro X hX
 have go: ∀k,k≤n→2≤k→k%2=0→X [.int .i64 (k:Nat)] H:=by
  have: ∀m k,n-k≤m→k≤n→2≤k→k%2=0→X [.int .i64 (k:Nat)] H:=by
   intro m
   induction m with
   |zero=>
    intro k hm hk h2 he
    refine hX _ _ (br_n (by omega) ?_)
    rw[wrap_id (by omega) (by omega)]
    exact rdG (i:=(n:Int)-1) h (by omega) (by omega) (hR _)
   |succ m ih=>
    intro k hm hk h2 he
    refine hX _ _ (br_dec (fun hlt=>?_) fun hge=>?_)
    ·have hk':k<n:=by omega
     rw[wrap_id (n:=(k:Int)-1) (by omega) (by omega),wrap_id (n:=(k:Int)+1) (by omega) (by omega),wrap_id (n:=(k:Int)-2) (by omega) (by omega),wrap_id (n:=(k:Int)+2) (by omega) (by omega)]
     refine rdG (i:=(k:Int)) h (by omega) (by omega) (br_dec (fun hv=>?_) fun hv=>?_)
     ·refine rdG (i:=(k:Int)-1) h (by omega) (by omega) (rdG (i:=(k:Int)+1) h (by omega) (by omega) (rdG (i:=(k:Int)-1) h (by omega) (by omega) (rdG (i:=(k:Int)-2) h (by omega) (by omega) (rdG (i:=(k:Int)) h (by omega) (by omega) (rdG (i:=(k:Int)-2) h (by omega) (by omega) ⟨?_,hR _⟩)))))
      have:=hok.inc k h2 (by omega) he
      have r1:=hok.rng k
      have r2:=hok.rng (k-2)
      rw[Int.toNat_natCast,show Int.toNat ((k:Int)-2)=k-2 from by omega,wrap_id (by omega) (by omega)]
      omega
     ·exact ih (k+2) (by omega) (by omega) (by omega) (by omega)
    ·rw[wrap_id (by omega) (by omega)]
     exact rdG (i:=(n:Int)-1) h (by omega) (by omega) (hR _)
  exact fun k=>this (n-k) k (Nat.le_refl _)
 exact go 2 (by omega) (by omega) (by omega)
theorem tab_fill{b:Nat}{H1:Heap}{L:List Int}{k:Nat}{v:Int}{f:Heap→Prop}(hs:St H0 H1 (.cell b (ints L).toArray 3::σ))(hL:L.length=256)(hk:k<256)(hf: ∀H2 L2,L2.length=256→St H0 H2 (.cell b (ints L2).toArray 3::σ)→f H2):
 ∃a11:Addr,(some ⟨b,0,none⟩)=some a11∧0≤(k:Int)∧(k:Int)<(((Int.toNat (256:Int)):Nat):Int)∧stAt H1 (Addr.add a11 (Int.toNat (k:Int)*1)) [Value.int .i64 v] f:=by
 refine⟨_,rfl,by omega,by show(k:Int)<256;omega,?_⟩
 rw[show Int.toNat (k:Int)*1=k from Nat.mul_one k,add_none,Nat.zero_add]
 exact hs.putA 0 rfl (by omega) fun H2 hs2=>hf H2 (L.set k v) (by rw[List.length_set];exact hL) hs2
theorem c64{kind:Int}{p:Option Addr}{n c:Nat}{ps:List Int}(h:IS H p n (ints ps))(hn:n≤1000000000000)
 (hR: ∀(q:Sl3) H',Ext H H'→R (.tuple #[.slice q.p q.l q.c,.bool (tabB kind ps)]) H'):CallsH Tryz.prog 64 #[.int .i64 kind,.slice p n c] H R:=by
 refine Tryz.s64 ?_
 unfold Tryz.S64
 have hlen:=h.length
 have bad:tabB kind ps=false→ ∀{H':Heap},Ext H H'→R (.tuple #[.slice none 0 0,.bool false]) H':=fun hb H' he=>by
  have:=hR .nil H' he;rw[hb] at this;exact this
 have fin: ∀{t:Bool},tabB kind ps=t→ ∀{b:Nat} {H':Heap},Ext H H'→R (.tuple #[.slice (some ⟨b,0,none⟩) 256 256,.bool t]) H':=fun{t} hb b H' he=>by
  have:=hR ⟨some ⟨b,0,none⟩,256,256⟩ H' he;rw[hb] at this;exact this
 intro X hX
 have go: ∀k,k≤n→(List.range k).all (inP ps)=true→X [.int .i64 (k:Nat)] H:=by
  refine upto fun k hk ih h1=>hX _ _ (br_dec (fun hlt=>?_) fun hge=>?_)
  ·have hk':k<n:=by omega
   refine rdG (i:=(k:Int)) h (by omega) hlt (br_dec (fun h3=>bad (tabB_in (k:=k) (by omega) ?_) (Ext.refl H)) fun h3=>rdG (i:=(k:Int)) h (by omega) hlt (br_dec (fun h4=>bad (tabB_in (k:=k) (by omega) ?_) (Ext.refl H)) fun h4=>?_))
   ·exact decide_eq_false fun hh=>by have:=hh.1;rw[Int.toNat_natCast] at h3;omega
   ·exact decide_eq_false fun hh=>by have:=hh.2;rw[Int.toNat_natCast] at h4;omega
   ·rw[Int.toNat_natCast] at h3 h4
    rw[wrap_id (by omega) (by omega)]
    exact ih hk' (all_more h1 (decide_eq_true ⟨by omega,by omega⟩))
  ·have hkn:k=n:=by omega
   have hall:(List.range ps.length).all (inP ps)=true:=by rw[hlen,←hkn];exact h1
   have hrng: ∀i,0≤ps.getD i 0∧ps.getD i 0≤255:=fun i=>by
    by_cases hi:i<ps.length
    ·exact of_decide_eq_true (all_at hall hi)
    ·rw[List.getD_eq_getElem?_getD,List.getElem?_eq_none (by omega)];decide
   refine⟨by decide,by decide,by decide,by decide,?_⟩
   rw[repsA256]
   refine(St.nil H).alc fun b10 H11 hs11=>?_
   have g0:=h.ext hs11.ext
   have tb:kind≠1→tabB kind ps=kindP kind ps:=fun hk1=>tabB_of hall fun h=>absurd h hk1
   refine br_eq (fun k0=>?_) fun k0=>br_eq (fun k1=>?_) fun k1=>br_eq (fun k2=>?_) fun k2=>br_eq (fun k3=>?_) fun k3=>?_
   ·have tk:tabB kind ps=decide (ps.length=2∧ps.getD 0 0<ps.getD 1 0):=by rw[tb (by omega)];unfold kindP;rw[if_pos k0]
    intro J12 hJ12
    refine br_ne (fun hne=>bad (by rw[tk];exact decide_eq_false (by omega)) hs11.ext) fun he=>rdG (i:=0) g0 (by omega) (by omega) (rdG (i:=1) g0 (by omega) (by omega) (br_dec (fun hge=>bad (by rw[tk];exact decide_eq_false fun hh=>by have:=hh.2;have:ps.getD 0 0≥ps.getD 1 0:=hge;omega) hs11.ext) fun hlt=>hJ12 _ ?_))
    have hlt: ¬ps.getD 0 0≥ps.getD 1 0:=hlt
    intro X14 hX14
    have r0:=hrng 0
    have r1:=hrng 1
    have go2: ∀k,k≤256→ ∀H1 (L:List Int),L.length=256→St H H1 [.cell b10 (ints L).toArray 3]→X14 [.int .i64 (k:Nat)] H1:=by
     refine upto fun k hk ih H1 L hL hs1=>hX14 _ _ (br_dec (fun hlt=>?_) fun hge=>?_)
     ·have hk':k<256:=by have:(k:Int)<256:=hlt;omega
      have g1:=h.ext hs1.ext
      have nx: ∀H2 L2,L2.length=256→St H H2 [.cell b10 (ints L2).toArray 3]→X14 [.int .i64 (IntKind.wrap .i64 ((k:Int)+1))] H2:=fun H2 L2 h2 hs2=>by
       rw[wrap_id (by omega) (by omega)]
       exact ih hk' H2 L2 h2 hs2
      refine rdG (i:=1) g1 (by omega) (by omega) (br_dec (fun _=>tab_fill hs1 hL hk' nx) fun _=>rdG (i:=0) g1 (by omega) (by omega) (br_dec (fun _=>rdG (i:=0) g1 (by omega) (by omega) (rdG (i:=1) g1 (by omega) (by omega) (rdG (i:=0) g1 (by omega) (by omega) ⟨by decide,rdG (i:=1) g1 (by omega) (by omega) (rdG (i:=0) g1 (by omega) (by omega) ⟨?_,tab_fill hs1 hL hk' nx⟩)⟩))) fun _=>nx H1 L hL hs1))
      show IntKind.wrap .i64 (ps.getD 1 0-ps.getD 0 0)≠0
      rw[wrap_id (by omega) (by omega)];omega
     ·exact fin (by rw[tk];exact decide_eq_true ⟨by omega,by omega⟩) hs1.ext
    exact go2 0 (by omega) H11 _ (by simp) hs11
   ·subst k1
    have tk:tabB 1 ps=((List.range ps.length).all (incP ps)&&decide (2≤ps.length∧ps.length≤32∧ps.length%2=0)):=by unfold tabB;rw[hall];simp[kindP]
    intro J39 hJ39
    refine br_dec (fun hh=>bad (by rw[tk,Bool.and_eq_false_iff];right;exact decide_eq_false (by omega)) hs11.ext) fun l1=>br_dec (fun hh=>bad (by rw[tk,Bool.and_eq_false_iff];right;exact decide_eq_false (by omega)) hs11.ext) fun l2=>⟨by decide,br_eq (fun hh=>bad (by rw[tk,Bool.and_eq_false_iff];right;exact decide_eq_false (by rw[Int.tmod_eq_emod_of_nonneg (by omega)] at hh;omega)) hs11.ext) fun l3=>hJ39 _ ?_⟩
    rw[Int.tmod_eq_emod_of_nonneg (by omega)] at l3
    have hlen2:decide (2≤ps.length∧ps.length≤32∧ps.length%2=0)=true:=decide_eq_true (by omega)
    rw[hlen2,Bool.and_true] at tk
    intro X41 hX41
    have go3: ∀m k,n-k≤m→k≤n→2≤k→k%2=0→(List.range k).all (incP ps)=true→X41 [.int .i64 (k:Nat)] H11:=by
     have done:(List.range n).all (incP ps)=true→ ∀X48:List Value→Heap→Prop,(∀v49:Int,∀H_50:Heap,(br (decide ((v49:Int)<(256:Int)))
      (CallsH Tryz.prog 96 #[Value.slice p n c,Value.int .i64 v49] H_50 fun r51 H_52=> ∃r53:Int,r51=Value.int .i64 r53∧ ∃a54:Addr,(some ⟨b10,0,none⟩)=some a54∧0≤v49∧v49<(((Int.toNat (256:Int)):Nat):Int)∧stAt H_52 (Addr.add a54 (Int.toNat v49*1)) [Value.int .i64 r53] fun H_55=>X48 [Value.int .i64 (IntKind.wrap .i64 (v49+(1:Int)))] H_55)
      (R (Value.tuple #[Value.slice (some ⟨b10,0,none⟩) (Int.toNat (256:Int)) (Int.toNat (256:Int)),Value.bool true]) H_50))→X48 [Value.int .i64 v49] H_50)→X48 [Value.int .i64 (0:Int)] H11:=fun hinc X48 hX48=>by
      have htb:tabB 1 ps=true:=by rw[tk,hlen];exact hinc
      have go4: ∀k,k≤256→ ∀H1 (L:List Int),L.length=256→St H H1 [.cell b10 (ints L).toArray 3]→X48 [.int .i64 (k:Nat)] H1:=by
       refine upto fun k hk ih H1 L hL hs1=>hX48 _ _ (br_dec (fun hlt=>?_) fun hge=>fin htb hs1.ext)
       have hk':k<256:=by have:(k:Int)<256:=hlt;omega
       refine c96 (h.ext hs1.ext) (tabB_crv htb) (by omega) fun x=>⟨_,rfl,tab_fill hs1 hL hk' fun H2 L2 h2 hs2=>?_⟩
       rw[wrap_id (by omega) (by omega)]
       exact ih hk' H2 L2 h2 hs2
      exact go4 0 (by omega) H11 _ (by simp) hs11
     intro m
     induction m with
     |zero=>
      intro k hm hk h2 he hinc
      have hkn:k=n:=by omega
      subst hkn
      exact hX41 _ _ (br_n (by omega) (done hinc))
     |succ m ih3=>
      intro k hm hk h2 he hinc
      refine hX41 _ _ (br_dec (fun hlt=>?_) fun hge=>?_)
      ·have hk':k<n:=by omega
       rw[wrap_id (n:=(k:Int)-2) (by omega) (by omega),wrap_id (n:=(k:Int)+2) (by omega) (by omega)]
       refine rdG (i:=(k:Int)) g0 (by omega) (by omega) (rdG (i:=(k:Int)-2) g0 (by omega) (by omega) (br_dec (fun hle=>bad (tabB_inc (k:=k) (by omega) (decide_eq_false ?_)) hs11.ext) fun hgt=>?_))
       ·rw[Int.toNat_natCast,show Int.toNat ((k:Int)-2)=k-2 from by omega] at hle
        omega
       ·rw[Int.toNat_natCast,show Int.toNat ((k:Int)-2)=k-2 from by omega] at hgt
        refine ih3 (k+2) (by omega) (by omega) (by omega) (by omega) (all_more (all_more hinc (decide_eq_true (.inr (.inr (by omega))))) (decide_eq_true (.inl (by omega))))
      ·have hkn:k=n:=by omega
       subst hkn
       exact done hinc
    exact go3 n 2 (by omega) (by omega) (by omega) (by omega) (by rw[show List.range 2=[0,1] from rfl];simp[incP])
   ·have tk:tabB kind ps=decide (ps.length=0):=by rw[tb k1];unfold kindP;rw[if_neg k0,if_neg k1,if_pos k2]
    intro X56 hX56
    have go2: ∀k,k≤256→ ∀H1 (L:List Int),L.length=256→St H H1 [.cell b10 (ints L).toArray 3]→X56 [.int .i64 (k:Nat)] H1:=by
     refine upto fun k hk ih H1 L hL hs1=>hX56 _ _ (br_dec (fun hlt=>?_) fun hge=>?_)
     ·have hk':k<256:=by have:(k:Int)<256:=hlt;omega
      refine tab_fill hs1 hL hk' fun H2 L2 h2 hs2=>?_
      rw[wrap_id (by omega) (by omega)]
      exact ih hk' H2 L2 h2 hs2
     ·refine fin (t:=((n:Nat):Int)==0) ?_ hs1.ext
      rw[tk,Bool.eq_iff_iff,decide_eq_true_iff,beq_iff_eq];omega
    exact go2 0 (by omega) H11 _ (by simp) hs11
   ·have tk:tabB kind ps=decide (ps.length=1):=by rw[tb k1];unfold kindP;rw[if_neg k0,if_neg k1,if_neg k2,if_pos k3]
    refine br_ne (fun hne=>bad (by rw[tk];exact decide_eq_false (by omega)) hs11.ext) fun he=>rdG (i:=0) g0 (by omega) (by omega) ?_
    have r0:=hrng 0
    rw[show Int.toNat 0=0 from rfl]
    generalize ps.getD 0 0=q at r0
    obtain⟨m,rfl⟩: ∃m:Nat,q=m:=⟨q.toNat,by omega⟩
    intro X63 hX63
    have go2: ∀k,k≤256→ ∀H1 (L:List Int),L.length=256→St H H1 [.cell b10 (ints L).toArray 3]→X63 [.int .i64 (k:Nat)] H1:=by
     refine upto fun k hk ih H1 L hL hs1=>hX63 _ _ (br_dec (fun hlt=>?_) fun hge=>?_)
     ·have hk':k<256:=by have:(k:Int)<256:=hlt;omega
      refine tab_fill hs1 hL hk' fun H2 L2 h2 hs2=>?_
      rw[wrap_id (by omega) (by omega)]
      exact ih hk' H2 L2 h2 hs2
     ·exact fin (by rw[tk];exact decide_eq_true (by omega)) hs1.ext
    exact go2 m (by omega) H11 _ (by simp) hs11
   ·exact bad (by rw[tb k1];unfold kindP;rw[if_neg k0,if_neg k1,if_neg k2,if_neg k3]) hs11.ext
 exact go 0 (by omega) rfl
end Go.Proofs
namespace Go.Proofs
open Go.Sh
variable {H0 H:Heap} {σ:List Rs} {R:Value→Heap→Prop}
structure ChgR(g:Int×LayF)(H:Heap)(r:RT)(R:Value→Heap→Prop):Prop where
 bad:g.1≠0→ ∀H',Ext H H'→R (.tuple #[.agg (cellsR r).toArray,.int .i64 g.1]) H'
 ok:g.1=0→ ∀(r':RT) H' τ,r'.f=g.2→r'.to=r.to→St H H' τ→(∀H'' fps,rdR H'' r→Lie H'' τ fps→rdR H'' r')→R (.tuple #[.agg (cellsR r').toArray,.int .i64 0]) H'
theorem ChgR.err{g:Int×LayF}{r:RT}(hc:ChgR g H r R){v:Int}{x:LayF}(hg:g=(v,x))(hv:v≠0){H':Heap}(he:Ext H H'):R (.tuple #[.agg (cellsR r).toArray,.int .i64 v]) H':=by
 have:=hc.bad (by rw[hg];exact hv) H' he
 rw[hg] at this;exact this
theorem edL_10(e:Ed)(s:EdS):(edL e s).toArray[10]?=some (.slice s.P.p s.P.l s.P.c):=rfl
theorem edL_11(e:Ed)(s:EdS):(edL e s).toArray[11]?=some (.slice s.S.p s.S.l s.S.c):=rfl
theorem edL_18(e:Ed)(s:EdS):(edL e s).toArray[18]?=some (.slice s.A.p s.A.l s.A.c):=rfl
def paintUp(e:Ed)(W:Int)(p:List Int)(n:Nat):List Int:=(List.range p.length).map fun q=>if q<n∧insideB e W q=true then e.p.getD (idxP e W q).toNat 0 else p.getD q 0
theorem paintUp_len(e:Ed)(W:Int)(p:List Int)(n:Nat):(paintUp e W p n).length=p.length:=by simp[paintUp]
theorem range_getD{p:List Int}:(List.range p.length).map (fun q=>p.getD q 0)=p:=by
 refine List.ext_getElem? fun i=>?_
 rw[List.getElem?_map]
 by_cases hi:i<p.length
 ·rw[List.getElem?_range hi,Option.map_some,List.getD_eq_getElem?_getD,List.getElem?_eq_getElem hi];rfl
 ·rw[List.getElem?_eq_none (by simpa using hi),List.getElem?_eq_none (by omega)];rfl
theorem paintUp_zero(e:Ed)(W:Int)(p:List Int):paintUp e W p 0=p:=by
 unfold paintUp
 conv=>rhs;rw[←range_getD (p:=p)]
 refine List.map_congr_left fun q _=>?_
 rw[if_neg (by rintro⟨h,_⟩;omega)]
theorem paintUp_all(e:Ed)(W:Int)(p:List Int):paintUp e W p p.length=paintP e W p:=by
 unfold paintUp paintP
 refine List.map_congr_left fun q hq=>?_
 have:=List.mem_range.1 hq
 by_cases h:insideB e W q=true
 ·rw[if_pos ⟨this,h⟩,if_pos h]
 ·rw[if_neg (fun hh=>h hh.2),if_neg h]
theorem paintUp_in{e:Ed}{W:Int}{p:List Int}{n:Nat}(hn:n<p.length)(h:insideB e W n=true):(paintUp e W p n).set n (e.p.getD (idxP e W n).toNat 0)=paintUp e W p (n+1):=by
 refine List.ext_getElem? fun i=>?_
 rw[List.getElem?_set,paintUp_len]
 unfold paintUp
 rw[List.getElem?_map,List.getElem?_map]
 by_cases hi:n=i
 ·subst hi
  rw[if_pos rfl,if_pos hn,List.getElem?_range hn,Option.map_some,if_pos ⟨by omega,h⟩]
 ·rw[if_neg hi]
  by_cases hil:i<p.length
  ·rw[List.getElem?_range hil,Option.map_some,Option.map_some]
   by_cases hc:i<n∧insideB e W i=true
   ·rw[if_pos hc,if_pos ⟨by omega,hc.2⟩]
   ·rw[if_neg hc,if_neg fun hh=>hc ⟨by omega,hh.2⟩]
  ·rw[List.getElem?_eq_none (by simpa using hil)];rfl
theorem paintUp_out{e:Ed}{W:Int}{p:List Int}{n:Nat}(h:insideB e W n=false):paintUp e W p (n+1)=paintUp e W p n:=by
 unfold paintUp
 refine List.map_congr_left fun q hq=>?_
 by_cases hc:q<n∧insideB e W q=true
 ·rw[if_pos hc,if_pos ⟨by omega,hc.2⟩]
 ·rw[if_neg hc,if_neg fun hh=>hc ⟨by
   have:q≠n:=fun he=>by rw[he] at hh;rw[h] at hh;exact absurd hh.2 (by simp)
   omega,hh.2⟩]
theorem c61{w h next:Int}{K:Sl3}{r:RT}{e:Ed}{s:EdS}(hrd:rdR H r)(hras:okRas r.f)(hed:rdEd H e s)(hR:ChgR (paintF e r.f) H r R):
 CallsH Tryz.prog 61 #[.agg (docA w h next K),.agg (cellsR r).toArray,.agg (edL e s).toArray] H R:=by
 refine Tryz.s61 ?_
 unfold Tryz.S61
 refine(St.nil H).alc fun b4 H5 hs5=>hs5.alc fun b6 H7 hs7=>hs7.alc fun b8 H9 hs9=>hs9.alc fun b10 H11 hs11=>?_
 have bad: ∀{v:Int} {H1:Heap} {Z:Array Value},Z.size=19→paintF e r.f=(v,r.f)→v≠0→St H H1 [.cell b10 Z 82,.cell b8 (edL e s).toArray 61,.cell b6 (cellsR r).toArray 82,.cell b4 (docA w h next K) 32]→
  ∃v13:Array Value,v13.size=19∧rowIn H1 ⟨b6,0,none⟩ v13∧v13.size=19∧stAt H1 ⟨b10,0,none⟩ (Array.toList v13) fun H_14=> ∃res15:Array Value,res15.size=19∧rowIn H_14 ⟨b10,0,none⟩ res15∧R (Value.tuple #[Value.agg res15,Value.int .i64 v]) H_14:=fun{v H1 Z} hZ hg hv hs1=>
  ⟨(cellsR r).toArray,rfl,rowIn_whole (hs1.block 2 rfl),rfl,hs1.putAll 0 rfl (by rw[hZ];rfl) (by simpa using cellsR_one r) fun H2 hs2=>⟨(cellsR r).toArray,rfl,rowIn_whole (hs2.block 0 rfl),hR.err hg hv hs2.ext⟩⟩
 refine⟨r.f.kind,hs11.get 2 rfl (j:=1) rfl,br_ne (fun hk=>bad (v:=41) rfl (by unfold paintF;rw[if_pos hk]) (by decide) hs11) fun hk=>?_⟩
 have hF1: ∀x,paintF e r.f=x↔(if e.w<1∨e.h<1∨e.w>32768∨e.h>32768∨(e.p.length:Int)≠e.w*e.h then(25,r.f) else
  if e.p.any (fun v=> !pixelB v)=true then(25,r.f) else if e.x< -32768∨e.x>32768∨e.y< -32768∨e.y>32768 then(31,r.f) else(0,{r.f with p:=paintP e r.f.w r.f.p}))=x:=fun x=>by
  unfold paintF;rw[if_neg (fun h=>h hk)]
 have hplen:=hed.p.length
 intro J16 hJ16
 refine⟨e.w,hs11.get 1 rfl (j:=8) rfl,br_dec (fun c=>bad (v:=25) rfl ((hF1 _).2 (if_pos (.inl c))) (by decide) hs11) fun c1=>?_⟩
 refine⟨e.h,hs11.get 1 rfl (j:=9) rfl,br_dec (fun c=>bad (v:=25) rfl ((hF1 _).2 (if_pos (.inr (.inl c)))) (by decide) hs11) fun c2=>?_⟩
 refine⟨e.w,hs11.get 1 rfl (j:=8) rfl,br_dec (fun c=>bad (v:=25) rfl ((hF1 _).2 (if_pos (.inr (.inr (.inl c))))) (by decide) hs11) fun c3=>?_⟩
 refine⟨e.h,hs11.get 1 rfl (j:=9) rfl,br_dec (fun c=>bad (v:=25) rfl ((hF1 _).2 (if_pos (.inr (.inr (.inr (.inl c)))))) (by decide) hs11) fun c4=>?_⟩
 have hwh:IntKind.wrap .i64 (e.w*e.h)=e.w*e.h:=wrap_area (by omega) (by omega) (by omega) (by omega)
 have hbd:=mul_bd (x:=e.w) (y:=e.h) (A:=32768) (B:=32768) (by omega) (by omega)
 refine⟨_,_,_,hs11.get 1 rfl (edL_10 e s),e.w,hs11.get 1 rfl (j:=8) rfl,e.h,hs11.get 1 rfl (j:=9) rfl,?_⟩
 rw[hwh]
 refine br_ne (fun c=>bad (v:=25) rfl ((hF1 _).2 (if_pos (.inr (.inr (.inr (.inr (by rw[hplen];exact c))))))) (by decide) hs11) fun c5=>hJ16 _ ?_
 have hF2: ∀x,paintF e r.f=x↔(if e.p.any (fun v=> !pixelB v)=true then(25,r.f) else if e.x< -32768∨e.x>32768∨e.y< -32768∨e.y>32768 then(31,r.f) else(0,{r.f with p:=paintP e r.f.w r.f.p}))=x:=fun x=>by
  rw[hF1,if_neg (by rintro(h|h|h|h|h);exact c1 h;exact c2 h;exact c3 h;exact c4 h;rw[hplen] at h;exact h c5)]
 have c5:(s.P.l:Int)=e.w*e.h:=c5
 intro X18 hX18
 have hIS: ∀{H1:Heap},Ext H H1→IS H1 s.P.p s.P.l (ints e.p):=fun he=>hed.p.ext he
 have go: ∀k,k≤e.p.length→(e.p.take k).all pixelB=true→X18 [.int .i64 (k:Nat)] H11:=by
  refine upto fun k hk2 ih hall=>hX18 _ _ ⟨_,_,_,hs11.get 1 rfl (edL_10 e s),br_dec (fun hlt=>?_) fun hge=>?_⟩
  ·have hk':k<e.p.length:=by omega
   have hx:=List.getElem?_eq_getElem hk'
   refine⟨_,_,_,hs11.get 1 rfl (edL_10 e s),(hIS hs11.ext).rd (i:=(k:Int)) (x:=e.p[k]) (by omega) hlt (by rw[Int.toNat_natCast];exact hx) (c90 ⟨_,rfl,br_not (fun hb=>?_) fun hb=>?_⟩)⟩
   ·refine bad (v:=25) rfl ((hF2 _).2 (if_pos ?_)) (by decide) hs11
    exact List.any_eq_true.2 ⟨_,List.getElem_mem hk',by rw[hb];rfl⟩
   ·rw[wrap_id (by omega) (by omega)]
    refine ih hk' ?_
    rw[take_succ hx,List.all_append,hall,Bool.true_and,List.all_cons,List.all_nil,Bool.and_true];exact hb
  ·rw[List.take_of_length_le (by omega)] at hall
   have hF3: ∀x,paintF e r.f=x↔(if e.x< -32768∨e.x>32768∨e.y< -32768∨e.y>32768 then(31,r.f) else(0,{r.f with p:=paintP e r.f.w r.f.p}))=x:=fun x=>by
    rw[hF2,if_neg fun hh=>?_]
    obtain⟨v,hv,hb⟩:=List.any_eq_true.1 hh
    rw[List.all_eq_true.1 hall v hv] at hb;cases hb
   intro J31 hJ31
   refine⟨e.x,hs11.get 1 rfl (j:=6) rfl,br_dec (fun c=>bad (v:=31) rfl ((hF3 _).2 (if_pos (.inl c))) (by decide) hs11) fun d1=>?_⟩
   refine⟨e.x,hs11.get 1 rfl (j:=6) rfl,br_dec (fun c=>bad (v:=31) rfl ((hF3 _).2 (if_pos (.inr (.inl c)))) (by decide) hs11) fun d2=>?_⟩
   refine⟨e.y,hs11.get 1 rfl (j:=7) rfl,br_dec (fun c=>bad (v:=31) rfl ((hF3 _).2 (if_pos (.inr (.inr (.inl c))))) (by decide) hs11) fun d3=>?_⟩
   refine⟨e.y,hs11.get 1 rfl (j:=7) rfl,br_dec (fun c=>bad (v:=31) rfl ((hF3 _).2 (if_pos (.inr (.inr (.inr c))))) (by decide) hs11) fun d4=>hJ31 _ ?_⟩
   have hF4:paintF e r.f=(0,{r.f with p:=paintP e r.f.w r.f.p}):=(hF3 _).2 (if_neg (by omega))
   obtain⟨hsz,hpl⟩:=hras hk
   obtain⟨q1,q2,q3,q4,q5⟩:=of_decide_eq_true hsz
   have hrl:=hrd.p.length
   refine hs11.alc fun b33 H34 hs34=>⟨_,_,_,hs34.get 3 rfl (j:=8) rfl,?_⟩
   have hs34':=hs34.toSl 0 (l:=0) (k:=1) (fs:=[]) rfl rfl rfl (by simp)
   refine hs34'.appI 0 rfl (hrd.p.ext hs34'.ext) (ints_one _) rfl (by omega) (by omega) fun p' c' H37 hs37=>?_
   rw[Nat.zero_add] at hs37 ⊢
   rw[List.nil_append] at hs37
   have hlp:0<(ints r.f.p).length:=by
    rw[ints_len]
    have:0<r.f.w*r.f.h:=Int.mul_pos (by omega) (by omega)
    omega
   obtain⟨bp,rfl⟩:=hs37.slSome 0 rfl hlp
   refine hs37.put 3 rfl (by show 8<19;decide) rfl fun H38 hs38=>?_
   let r1:RT:=⟨r.f,r.to,⟨some ⟨bp,0,none⟩,r.P.l,c'⟩,r.M,r.A⟩
   have hs38:St H H38 [.sl (some ⟨bp,0,none⟩) r.P.l c' 3 1 (ints r.f.p),.cell b10 #[Value.int .i64 0,Value.int .i64 0,Value.int .i64 0,Value.bool false,Value.int .i64 0,Value.int .i64 0,Value.int .i64 0,Value.int .i64 0,Value.slice none 0 0,Value.slice none 0 0,Value.int .i64 0,Value.int .i64 0,Value.int .i64 0,Value.int .i64 0,Value.int .i64 0,Value.int .i64 0,Value.bool false,Value.int .i64 0,Value.slice none 0 0] 82,.cell b8 (edL e s).toArray 61,.cell b6 (cellsR r1).toArray 82,.cell b4 (docA w h next K) 32]:=hs38
   obtain⟨wn,hwn⟩: ∃wn:Nat,r.f.w=wn:=⟨r.f.w.toNat,by omega⟩
   obtain⟨hn,hhn⟩: ∃hn:Nat,r.f.h=hn:=⟨r.f.h.toNat,by omega⟩
   have hplN:r.f.p.length=hn*wn:=by
    have h1:((hn*wn:Nat):Int)=r.f.w*r.f.h:=by rw[hwn,hhn,Int.natCast_mul,Int.mul_comm]
    omega
   intro X39 hX39
   have goY: ∀y,y≤hn→ ∀H1,St H H1 [.sl (some ⟨bp,0,none⟩) r.P.l c' 3 1 (ints (paintUp e r.f.w r.f.p (y*wn))),.cell b10 #[Value.int .i64 0,Value.int .i64 0,Value.int .i64 0,Value.bool false,Value.int .i64 0,Value.int .i64 0,Value.int .i64 0,Value.int .i64 0,Value.slice none 0 0,Value.slice none 0 0,Value.int .i64 0,Value.int .i64 0,Value.int .i64 0,Value.int .i64 0,Value.int .i64 0,Value.int .i64 0,Value.bool false,Value.int .i64 0,Value.slice none 0 0] 82,.cell b8 (edL e s).toArray 61,.cell b6 (cellsR r1).toArray 82,.cell b4 (docA w h next K) 32]→X39 [.int .i64 (y:Nat)] H1:=by
    refine upto fun y hy ihY H1 hs1=>hX39 _ _ ⟨r.f.h,hs1.get 3 rfl (j:=7) rfl,br_dec (fun hlt=>?_) fun hge=>?_⟩
    ·have hy':y<hn:=by omega
     intro X43 hX43
     have goX: ∀x,x≤wn→ ∀H1,St H H1 [.sl (some ⟨bp,0,none⟩) r.P.l c' 3 1 (ints (paintUp e r.f.w r.f.p (y*wn+x))),.cell b10 #[Value.int .i64 0,Value.int .i64 0,Value.int .i64 0,Value.bool false,Value.int .i64 0,Value.int .i64 0,Value.int .i64 0,Value.int .i64 0,Value.slice none 0 0,Value.slice none 0 0,Value.int .i64 0,Value.int .i64 0,Value.int .i64 0,Value.int .i64 0,Value.int .i64 0,Value.int .i64 0,Value.bool false,Value.int .i64 0,Value.slice none 0 0] 82,.cell b8 (edL e s).toArray 61,.cell b6 (cellsR r1).toArray 82,.cell b4 (docA w h next K) 32]→X43 [.int .i64 (x:Nat)] H1:=by
      refine upto fun x hx ihX H1 hs1=>hX43 _ _ ⟨r.f.w,hs1.get 3 rfl (j:=6) rfl,br_dec (fun hltx=>?_) fun hgex=>?_⟩
      ·have hx':x<wn:=by omega
       have hq:y*wn+x<r.f.p.length:=by
        rw[hplN]
        have:(y+1)*wn≤hn*wn:=Nat.mul_le_mul_right wn hy'
        rw[Nat.add_mul] at this;omega
       have hdv:=div_uniq (n:=(((y*wn+x:Nat)):Int)) (w:=r.f.w) (a:=y) (b:=x) (by omega) (by omega) (by omega) (by rw[hwn];push_cast;rfl)
       have hin:insideB e r.f.w (y*wn+x)=decide (e.x≤(x:Int)∧(x:Int)<e.x+e.w∧e.y≤(y:Int)∧(y:Int)<e.y+e.h):=by unfold insideB;rw[hdv.1,hdv.2]
       have hix:idxP e r.f.w (y*wn+x)=((y:Int)-e.y)*e.w+((x:Int)-e.x):=by unfold idxP;rw[hdv.1,hdv.2]
       have hyw:(y:Int)*r.f.w=((y*wn:Nat):Int):=by rw[hwn];push_cast;rfl
       intro J47 hJ47
       have next: ∀H2,St H H2 [.sl (some ⟨bp,0,none⟩) r.P.l c' 3 1 (ints (paintUp e r.f.w r.f.p (y*wn+(x+1)))),.cell b10 #[Value.int .i64 0,Value.int .i64 0,Value.int .i64 0,Value.bool false,Value.int .i64 0,Value.int .i64 0,Value.int .i64 0,Value.int .i64 0,Value.slice none 0 0,Value.slice none 0 0,Value.int .i64 0,Value.int .i64 0,Value.int .i64 0,Value.int .i64 0,Value.int .i64 0,Value.int .i64 0,Value.bool false,Value.int .i64 0,Value.slice none 0 0] 82,.cell b8 (edL e s).toArray 61,.cell b6 (cellsR r1).toArray 82,.cell b4 (docA w h next K) 32]→J47 [] H2:=fun H2 hs2=>by
        refine hJ47 _ ?_
        rw[wrap_id (by omega) (by omega)]
        exact ihX hx' H2 hs2
       have skip: ¬(e.x≤(x:Int)∧(x:Int)<e.x+e.w∧e.y≤(y:Int)∧(y:Int)<e.y+e.h)→J47 [] H1:=fun hno=>next H1 (by
        rw[show y*wn+(x+1)=y*wn+x+1 from by omega,paintUp_out (by rw[hin];exact decide_eq_false hno)];exact hs1)
       refine⟨e.x,hs1.get 2 rfl (j:=6) rfl,br_dec (fun g1=>?_) fun g1=>skip (by omega)⟩
       refine⟨e.x,hs1.get 2 rfl (j:=6) rfl,e.w,hs1.get 2 rfl (j:=8) rfl,?_⟩
       rw[wrap_id (n:=e.x+e.w) (by omega) (by omega)]
       refine br_dec (fun g2=>?_) fun g2=>skip (by omega)
       refine⟨e.y,hs1.get 2 rfl (j:=7) rfl,br_dec (fun g3=>?_) fun g3=>skip (by omega)⟩
       refine⟨e.y,hs1.get 2 rfl (j:=7) rfl,e.h,hs1.get 2 rfl (j:=9) rfl,?_⟩
       rw[wrap_id (n:=e.y+e.h) (by omega) (by omega)]
       refine br_dec (fun g4=>?_) fun g4=>skip (by omega)
       refine⟨_,_,_,hs1.get 3 rfl (j:=8) rfl,r.f.w,hs1.get 3 rfl (j:=6) rfl,_,_,_,hs1.get 2 rfl (edL_10 e s),e.y,hs1.get 2 rfl (j:=7) rfl,e.w,hs1.get 2 rfl (j:=8) rfl,e.x,hs1.get 2 rfl (j:=6) rfl,?_⟩
       have hins:insideB e r.f.w (y*wn+x)=true:=by rw[hin];exact decide_eq_true ⟨by omega,by omega,by omega,by omega⟩
       have hrg:=idxP_rng hins
       rw[hix] at hrg
       have hb3:=mul_bd (x:=(y:Int)-e.y) (y:=e.w) (A:=100000) (B:=100000) (by omega) (by omega)
       rw[wrap_id (n:=(y:Int)-e.y) (by omega) (by omega),wrap_id (n:=((y:Int)-e.y)*e.w) (by omega) (by omega),wrap_id (n:=((y:Int)-e.y)*e.w+(x:Int)) (by omega) (by omega),wrap_id (n:=((y:Int)-e.y)*e.w+(x:Int)-e.x) (by omega) (by omega)]
       rw[show((y:Int)-e.y)*e.w+(x:Int)-e.x=idxP e r.f.w (y*wn+x) from by rw[hix];omega]
       rw[←hix] at hrg
       have hqi:((y*wn+x:Nat):Int)<9000000000:=by
        have h1:((r.f.p.length:Nat):Int)≤4194304:=by omega
        omega
       rw[hyw,wrap_id (n:=((y*wn:Nat):Int)) (by omega) (by omega),wrap_id (n:=((y*wn:Nat):Int)+(x:Int)) (by omega) (by omega)]
       have hei:(idxP e r.f.w (y*wn+x)).toNat<e.p.length:=by omega
       refine(hIS hs1.ext).rd (i:=idxP e r.f.w (y*wn+x)) (x:=e.p.getD (idxP e r.f.w (y*wn+x)).toNat 0) (by omega) (by omega) (getD_some e.p 0 hei) ⟨_,rfl,by omega,(by show(((y*wn:Nat):Int)+(x:Int))<((r.P.l:Nat):Int);omega),?_⟩
       rw[show Int.toNat (((y*wn:Nat):Int)+(x:Int))*1=y*wn+x from by omega,add_none,Nat.zero_add]
       refine hs1.slPut 0 rfl (by rw[ints_len,paintUp_len];exact hq) rfl fun H2 hs2=>next H2 ?_
       rw[ints_set,paintUp_in hq hins] at hs2
       exact hs2
      ·have hxw:x=wn:=by omega
       subst hxw
       rw[wrap_id (by omega) (by omega)]
       refine ihY hy' H1 ?_
       rw[show(y+1)*x=y*x+x from by rw[Nat.add_mul];omega]
       exact hs1
     exact goX 0 (by omega) H1 (by rw[Nat.add_zero];exact hs1)
    ·have hyh:y=hn:=by omega
     subst hyh
     rw[←hplN,paintUp_all] at hs1
     refine⟨(cellsR r1).toArray,rfl,rowIn_whole (hs1.block 3 rfl),rfl,hs1.putAll 1 rfl rfl (by simpa using cellsR_one r1) fun H66 hs66=>⟨(cellsR r1).toArray,rfl,rowIn_whole (hs66.block 1 rfl),?_⟩⟩
     refine hR.ok (by rw[hF4]) ⟨{r.f with p:=paintP e r.f.w r.f.p},r.to,r1.P,r.M,r.A⟩ H66 _ (by rw[hF4]) rfl (hs66.take 1) fun H'' fps hr hL=>?_
     obtain⟨fp,_,hat⟩:=hL.get (i:=0) rfl
     exact⟨hat.1.rs.is,hr.mask,hr.params⟩
   exact goY 0 (by omega) H38 (by rw[Nat.zero_mul,paintUp_zero];exact hs38)
 exact go 0 (by omega) rfl
end Go.Proofs
namespace Go.Proofs
open Go.Sh
variable {H0 H:Heap} {σ:List Rs} {R:Value→Heap→Prop}
def zeroRA:Array Value:=#[Value.int .i64 0,Value.int .i64 0,Value.int .i64 0,Value.bool false,Value.int .i64 0,Value.int .i64 0,Value.int .i64 0,Value.int .i64 0,Value.slice none 0 0,Value.slice none 0 0,Value.int .i64 0,Value.int .i64 0,Value.int .i64 0,Value.int .i64 0,Value.int .i64 0,Value.int .i64 0,Value.bool false,Value.int .i64 0,Value.slice none 0 0]
theorem IS.nil(H:Heap):IS H none 0 []:=⟨rfl,fun i v h=>by simp at h⟩
theorem c62{w h next:Int}{K:Sl3}{r:RT}{e:Ed}{s:EdS}(hed:rdEd H e s)(hsl:s.S.l≤1000000000)(hsz:sizedB w h=true)(hR:ChgR (maskF w h e r.f) H r R):
 CallsH Tryz.prog 62 #[.agg (docA w h next K),.agg (cellsR r).toArray,.agg (edL e s).toArray] H R:=by
 obtain⟨q1,q2,q3,q4,q5⟩:=of_decide_eq_true hsz
 have hwh:IntKind.wrap .i64 (w*h)=w*h:=wrap_area q1 q2 q3 q4
 have hpos:0≤w*h:=Int.mul_nonneg (by omega) (by omega)
 refine Tryz.s62 ?_
 unfold Tryz.S62
 refine(St.nil H).alc fun b4 H5 hs5=>hs5.alc fun b6 H7 hs7=>hs7.alc fun b8 H9 hs9=>hs9.alc fun b10 H11 hs11=>?_
 have hs11:St H H11 [.cell b10 zeroRA 82,.cell b8 (edL e s).toArray 61,.cell b6 (cellsR r).toArray 82,.cell b4 (docA w h next K) 32]:=hs11
 have bad: ∀{v:Int} {H1:Heap},maskF w h e r.f=(v,r.f)→v≠0→St H H1 [.cell b10 zeroRA 82,.cell b8 (edL e s).toArray 61,.cell b6 (cellsR r).toArray 82,.cell b4 (docA w h next K) 32]→
  ∃v13:Array Value,v13.size=19∧rowIn H1 ⟨b6,0,none⟩ v13∧v13.size=19∧stAt H1 ⟨b10,0,none⟩ (Array.toList v13) fun H_14=> ∃res15:Array Value,res15.size=19∧rowIn H_14 ⟨b10,0,none⟩ res15∧R (Value.tuple #[Value.agg res15,Value.int .i64 v]) H_14:=fun{v H1} hg hv hs1=>
  ⟨(cellsR r).toArray,rfl,rowIn_whole (hs1.block 2 rfl),rfl,hs1.putAll 0 rfl rfl (by simpa using cellsR_one r) fun H2 hs2=>⟨(cellsR r).toArray,rfl,rowIn_whole (hs2.block 0 rfl),hR.err hg hv hs2.ext⟩⟩
 intro J12 hJ12
 refine⟨e.n,hs11.get 1 rfl (j:=4) rfl,br_dec (fun c=>bad (v:=32) (by unfold maskF;rw[if_pos (.inl c)]) (by decide) hs11) fun c1=>?_⟩
 refine⟨e.n,hs11.get 1 rfl (j:=4) rfl,br_dec (fun c=>bad (v:=32) (by unfold maskF;rw[if_pos (.inr c)]) (by decide) hs11) fun c2=>hJ12 _ ?_⟩
 have hF1: ∀x,maskF w h e r.f=x↔(if e.n=2 then(0,{r.f with mask:=[]}) else if shapeB e.shape=false then(31,r.f) else(0,{r.f with mask:=maskL w h fun x y=>withinB e.shape x y != (e.n==1)}))=x:=fun x=>by
  unfold maskF;rw[if_neg (by omega)]
 refine⟨e.n,hs11.get 1 rfl (j:=4) rfl,br_eq (fun h2=>?_) fun h2=>?_⟩
 ·have hF2:maskF w h e r.f=(0,{r.f with mask:=[]}):=(hF1 _).2 (if_pos h2)
  let r1:RT:=⟨{r.f with mask:=[]},r.to,r.P,.nil,r.A⟩
  refine hs11.put 2 rfl (by show 9<19;decide) rfl fun H15 hs15=>⟨(cellsR r1).toArray,rfl,rowIn_whole (hs15.block 2 rfl),rfl,hs15.putAll 0 rfl rfl (by simpa using cellsR_one r1) fun H17 hs17=>⟨(cellsR r1).toArray,rfl,rowIn_whole (hs17.block 0 rfl),?_⟩⟩
  exact hR.ok (by rw[hF2]) r1 H17 [] (by rw[hF2]) rfl (hs17.take 0) fun H'' fps hr _=>⟨hr.p,IS.nil H'',hr.params⟩
 refine⟨_,_,_,hs11.get 1 rfl (edL_11 e s),c91 (hed.shape.ext hs11.ext) hsl fun H21 he21=>⟨_,rfl,?_⟩⟩
 have hs21:=hs11.step he21
 cases hsh:shapeB e.shape with
 |false=>exact br_t rfl (bad (v:=31) ((hF1 _).2 (by rw[if_neg h2,if_pos hsh])) (by decide) hs21)
 |true=>
  have hF2:maskF w h e r.f=(0,{r.f with mask:=maskL w h fun x y=>withinB e.shape x y != (e.n==1)}):=(hF1 _).2 (by rw[if_neg h2,if_neg (by rw[hsh];decide)])
  refine br_f rfl ⟨w,hs21.get 3 rfl (j:=0) rfl,h,hs21.get 3 rfl (j:=1) rfl,?_⟩
  rw[hwh]
  refine⟨hpos,Int.le_refl _,by omega,by omega,hs21.alc fun b28 H29 hs29=>?_⟩
  let r1:RT:=⟨{r.f with mask:=maskL w h fun x y=>withinB e.shape x y != (e.n==1)},r.to,r.P,⟨some ⟨b28,0,none⟩,(w*h).toNat,(w*h).toNat⟩,r.A⟩
  have hs29':=hs29.toSl 0 (l:=(w*h).toNat) (k:=1) (fs:=kints .u8 (List.replicate (w*h).toNat 0)) rfl (by simp[reps_length]) (reps_u8 _) (kints_one _ _)
  refine hs29'.put 3 rfl (by show 9<19;decide) rfl fun H30 hs30=>?_
  have hsb:=hsh
  unfold shapeB at hsb
  rw[Bool.and_eq_true] at hsb
  have hlen:=hed.shape.len
  have hlb:=of_decide_eq_true hsb.1
  generalize hM:maskL w h (fun x y=>withinB e.shape x y != (e.n==1))=M at hF2
  have hML:M.length=(w*h).toNat:=by rw[←hM];simp[maskL]
  intro X31 hX31
  have go: ∀k,k≤(w*h).toNat→ ∀H1,St H H1 [.sl (some ⟨b28,0,none⟩) (w*h).toNat (w*h).toNat 5 1 (kints .u8 (fillA M k)),.cell b10 zeroRA 82,.cell b8 (edL e s).toArray 61,.cell b6 (cellsR r1).toArray 82,.cell b4 (docA w h next K) 32]→X31 [.int .i64 (k:Nat)] H1:=by
   refine upto fun k hk ih H1 hs1=>hX31 _ _ ⟨w,hs1.get 4 rfl (j:=0) rfl,h,hs1.get 4 rfl (j:=1) rfl,?_⟩
   rw[hwh]
   refine br_dec (fun hlt=>?_) fun hge=>?_
   ·have hk':k<(w*h).toNat:=by omega
    have m0:=Int.emod_nonneg (k:Int) (show w≠0 by omega)
    have m1:=Int.emod_lt_of_pos (k:Int) (show 0<w by omega)
    have m2:0≤(k:Int)/w:=Int.ediv_nonneg (by omega) (by omega)
    have m3:(k:Int)/w<h:=Int.ediv_lt_of_lt_mul (by omega) (by rw[Int.mul_comm];omega)
    refine⟨_,_,_,hs1.get 2 rfl (edL_11 e s),w,hs1.get 4 rfl (j:=0) rfl,by omega,w,hs1.get 4 rfl (j:=0) rfl,by omega,e.n,hs1.get 2 rfl (j:=4) rfl,?_⟩
    rw[Int.tmod_eq_emod_of_nonneg (by omega),Int.tdiv_eq_ediv_of_nonneg (by omega),wrap_id (n:=(k:Int)/w) (by omega) (by omega)]
    have hget:M.getD k 0=if (withinB e.shape ((k:Int)%w) ((k:Int)/w) != (e.n==1))=true then 255 else 0:=by rw[←hM];unfold maskL;rw[tab_getD hk']
    refine c92 (hed.shape.ext hs1.ext) (by omega) hsb.2 (by omega) (by omega) fun H15 he15=>⟨_,rfl,.inl he15,br_i (fun ht=>?_) fun ht=>?_⟩
    ·have ht:(withinB e.shape ((k:Int)%w) ((k:Int)/w) != (e.n==1))=true:=ht
     have hs15:=hs1.step he15
     refine⟨_,_,_,hs15.get 3 rfl (j:=9) rfl,_,rfl,by omega,by show(k:Int)<(((w*h).toNat:Nat):Int);omega,?_⟩
     rw[show Int.toNat (k:Int)*1=k from Nat.mul_one k,add_none,Nat.zero_add]
     refine hs15.slPut 0 rfl (by rw[kints_len,fillA_len (by omega)];omega) rfl fun H18 hs18=>?_
     rw[wrap_id (by omega) (by omega)]
     refine ih hk' H18 ?_
     rw[kints_set] at hs18
     rw[←fillA_set (by omega),hget,if_pos ht]
     exact hs18
    ·have ht:(withinB e.shape ((k:Int)%w) ((k:Int)/w) != (e.n==1))=false:=ht
     rw[wrap_id (by omega) (by omega)]
     refine ih hk' H15 ?_
     rw[←fillA_set (by omega),hget,if_neg (by rw[ht];exact Bool.false_ne_true),fillA_set0 (by omega)]
     exact hs1.step he15
   ·have:k=(w*h).toNat:=by omega
    subst this
    have hfa:=fillA_all M
    rw[hML] at hfa
    rw[hfa] at hs1
    refine⟨(cellsR r1).toArray,rfl,rowIn_whole (hs1.block 3 rfl),rfl,hs1.putAll 1 rfl rfl (by simpa using cellsR_one r1) fun H48 hs48=>⟨(cellsR r1).toArray,rfl,rowIn_whole (hs48.block 1 rfl),?_⟩⟩
    refine hR.ok (by rw[hM] at*;rw[hF2]) r1 H48 _ (by show({r.f with mask:=maskL w h fun x y=>withinB e.shape x y != (e.n==1)}:LayF)=_;rw[hM,hF2]) rfl (hs48.take 1) fun H'' fps hr hL=>?_
    obtain⟨fp,_,hat⟩:=hL.get (i:=0) rfl
    refine⟨hr.p,?_,hr.params⟩
    have:=hat.1.rs.is
    show IS H'' _ _ (kints .u8 (maskL w h fun x y=>withinB e.shape x y != (e.n==1)))
    rw[hM];exact this
  refine go 0 (Nat.zero_le _) H30 ?_
  rw[fillA_zero,hML]
  exact hs30
def chgK(w h:Int)(e:Ed)(f:LayF):Int×LayF:=
 if e.kind=4 then paintF e f else if e.kind=5 then lookF e f else if e.kind=6 then hideF e f else if e.kind=7 then maskF w h e f else if e.kind=8 then placeF e f else adjustF e f
theorem step_chg{w h next:Int}{D:List Lay}{e:Ed}(hk:4≤e.kind∧e.kind≤9):stepL w h next D e=chgL (chgK w h e) D e.id:=by
 unfold stepL
 rw[if_neg (by omega),if_neg (by omega),if_neg (by omega)]
 have hc: ∀{g:LayF→Int×LayF},(∀f,chgK w h e f=g f)→chgL g D e.id=chgL (chgK w h e) D e.id:=fun hg=>by
  rw[show chgK w h e=_ from funext hg]
 split
 ·rename_i c;exact hc fun f=>by unfold chgK;rw[if_pos c]
 rename_i c4
 split
 ·rename_i c;exact hc fun f=>by unfold chgK;rw[if_neg c4,if_pos c]
 rename_i c5
 split
 ·rename_i c;exact hc fun f=>by unfold chgK;rw[if_neg c4,if_neg c5,if_pos c]
 rename_i c6
 split
 ·rename_i c;exact hc fun f=>by unfold chgK;rw[if_neg c4,if_neg c5,if_neg c6,if_pos c]
 rename_i c7
 split
 ·rename_i c;exact hc fun f=>by unfold chgK;rw[if_neg c4,if_neg c5,if_neg c6,if_neg c7,if_pos c]
 rename_i c8
 split
 ·exact hc fun f=>by unfold chgK;rw[if_neg c4,if_neg c5,if_neg c6,if_neg c7,if_neg c8]
 ·omega
theorem edMap{e:Ed}{s:EdS}{bb:Nat}{ty:TypeId}(hb:H[bb]?=some (.cells (edL e s).toArray ty)):rowIn H (Addr.add ⟨bb,0,none⟩ 12) (ints e.map.l).toArray:=by
 intro j v hv
 rw[List.getElem?_toArray] at hv
 have hj:=(List.getElem?_eq_some_iff.1 hv).1
 have hj:j<6:=hj
 rw[add_none,add_none]
 refine cell_get hb ?_
 obtain rfl|rfl|rfl|rfl|rfl|rfl:j=0∨j=1∨j=2∨j=3∨j=4∨j=5:=by omega
 all_goals (rw[←hv];rfl)
theorem c30{w h next:Int}{K:Sl3}{r:RT}{e:Ed}{s:EdS}(hk:4≤e.kind∧e.kind≤9)(hrd:rdR H r)(hras:okRas r.f)(hed:EdOk H e s)(hsz:sizedB w h=true)(hR:ChgR (chgK w h e r.f) H r R):
 CallsH Tryz.prog 30 #[.agg (docA w h next K),.agg (cellsR r).toArray,.agg (edL e s).toArray] H R:=by
 have hsl:s.S.l≤1000000000:=by rw[←hed.rd.shape.len];exact hed.shape
 refine Tryz.s30 ?_
 unfold Tryz.S30
 refine(St.nil H).alc fun b4 H5 hs5=>hs5.alc fun b6 H7 hs7=>hs7.alc fun b8 H9 hs9=>hs9.alc fun b10 H11 hs11=>?_
 have hs11:St H H11 [.cell b10 zeroRA 82,.cell b8 (edL e s).toArray 61,.cell b6 (cellsR r).toArray 82,.cell b4 (docA w h next K) 32]:=hs11
 have bad: ∀{v:Int} {H1:Heap} {σ':List Rs},chgK w h e r.f=(v,r.f)→v≠0→St H H1 (.cell b10 zeroRA 82:: .cell b8 (edL e s).toArray 61:: .cell b6 (cellsR r).toArray 82::σ')→
  ∃v13:Array Value,v13.size=19∧rowIn H1 ⟨b6,0,none⟩ v13∧v13.size=19∧stAt H1 ⟨b10,0,none⟩ (Array.toList v13) fun H_14=> ∃res15:Array Value,res15.size=19∧rowIn H_14 ⟨b10,0,none⟩ res15∧R (Value.tuple #[Value.agg res15,Value.int .i64 v]) H_14:=fun{v H1 σ'} hg hv hs1=>
  ⟨(cellsR r).toArray,rfl,rowIn_whole (hs1.block 2 rfl),rfl,hs1.putAll 0 rfl rfl (by simpa using cellsR_one r) fun H2 hs2=>⟨(cellsR r).toArray,rfl,rowIn_whole (hs2.block 0 rfl),hR.err hg hv hs2.ext⟩⟩
 intro J12 hJ12
 have done: ∀(r':RT) (τ:List Rs) (H1:Heap) (σ':List Rs),chgK w h e r.f=(0,r'.f)→r'.to=r.to→St H H1 (.cell b10 zeroRA 82:: .cell b8 (edL e s).toArray 61:: .cell b6 (cellsR r').toArray 82::τ++σ')→
  (∀H'' fps,rdR H'' r→Lie H'' τ fps→rdR H'' r')→J12 [] H1:=fun r' τ H1 σ' hg hto hs1 hrr=>hJ12 _
  ⟨(cellsR r').toArray,rfl,rowIn_whole (hs1.block 2 rfl),rfl,hs1.putAll 0 rfl rfl (by simpa using cellsR_one r') fun H2 hs2=>⟨(cellsR r').toArray,rfl,rowIn_whole (hs2.block 0 rfl),hR.ok (by rw[hg]) r' H2 τ (by rw[hg]) hto ((hs2.drop 3).app.1) hrr⟩⟩
 refine⟨e.kind,hs11.get 1 rfl (j:=0) rfl,br_eq (fun k4=>?_) fun k4=>br_eq (fun k5=>?_) fun k5=>br_eq (fun k6=>?_) fun k6=>br_eq (fun k7=>?_) fun k7=>br_eq (fun k8=>?_) fun k8=>br_eq (fun k9=>?_) fun k9=>by omega⟩
 ·have hg:chgK w h e r.f=paintF e r.f:=by unfold chgK;rw[if_pos k4]
  rw[hg] at hR
  refine⟨_,rfl,rowIn_whole (hs11.block 3 rfl),_,rfl,rowIn_whole (hs11.block 2 rfl),_,rfl,rowIn_whole (hs11.block 1 rfl),c61 (hrd.ext hs11.ext) hras (hed.rd.ext hs11.ext) ⟨fun hb H' he=>?_,fun h0 r' H' τ hf hto hs hrr=>?_⟩⟩
  ·exact⟨_,_,rfl,rfl,(hs11.step he).putAll 0 rfl rfl (by simpa using cellsR_one r) fun H2 hs2=>⟨_,rfl,rowIn_whole (hs2.block 0 rfl),hR.bad hb H2 hs2.ext⟩⟩
  ·have:=hs11.call hs
   refine⟨_,_,rfl,rfl,((hs11.callR hs)).putAll 0 rfl rfl (by simpa using cellsR_one r') fun H2 hs2=>⟨_,rfl,rowIn_whole (hs2.block 0 rfl),hR.ok h0 r' H2 τ hf hto (hs2.drop 4) hrr⟩⟩
 ·have hg:chgK w h e r.f=lookF e r.f:=by unfold chgK;rw[if_neg k4,if_pos k5]
  intro J27 hJ27
  have hb:e.n<0∨e.n>255∨e.m<0∨e.m>11→chgK w h e r.f=(32,r.f):=fun c=>by rw[hg];unfold lookF;rw[if_pos c]
  refine⟨e.n,hs11.get 1 rfl (j:=4) rfl,br_dec (fun c=>bad (v:=32) (hb (.inl c)) (by decide) hs11) fun c1=>?_⟩
  refine⟨e.n,hs11.get 1 rfl (j:=4) rfl,br_dec (fun c=>bad (v:=32) (hb (.inr (.inl c))) (by decide) hs11) fun c2=>?_⟩
  refine⟨e.m,hs11.get 1 rfl (j:=5) rfl,br_dec (fun c=>bad (v:=32) (hb (.inr (.inr (.inl c)))) (by decide) hs11) fun c3=>?_⟩
  refine⟨e.m,hs11.get 1 rfl (j:=5) rfl,br_dec (fun c=>bad (v:=32) (hb (.inr (.inr (.inr c)))) (by decide) hs11) fun c4=>hJ27 _ ?_⟩
  have hF: ∀x,chgK w h e r.f=x↔(if r.f.kind=2∧e.m≠0 then(41,r.f) else(0,{r.f with opacity:=e.n,mode:=e.m}))=x:=fun x=>by rw[hg];unfold lookF;rw[if_neg (by omega)]
  intro J29 hJ29
  have fin: ¬(r.f.kind=2∧e.m≠0)→J29 [] H11:=fun hno=>hJ29 _ ⟨e.n,hs11.get 1 rfl (j:=4) rfl,hs11.put 2 rfl (by show 4<19;decide) rfl fun H32 hs32=>⟨e.m,hs32.get 1 rfl (j:=5) rfl,hs32.put 2 rfl (by show 5<19;decide) rfl fun H34 hs34=>
   done ⟨{r.f with opacity:=e.n,mode:=e.m},r.to,r.P,r.M,r.A⟩ [] H34 _ ((hF _).2 (if_neg hno)) rfl hs34 fun H'' fps hr _=>⟨hr.p,hr.mask,hr.params⟩⟩⟩
  refine⟨r.f.kind,hs11.get 2 rfl (j:=1) rfl,br_eq (fun k2=>⟨e.m,hs11.get 1 rfl (j:=5) rfl,br_ne (fun hm=>bad (v:=41) ((hF _).2 (if_pos ⟨k2,hm⟩)) (by decide) hs11) fun hm=>fin fun hh=>hh.2 hm⟩) fun k2=>fin fun hh=>k2 hh.1⟩
 ·have hg:chgK w h e r.f=hideF e r.f:=by unfold chgK;rw[if_neg k4,if_neg k5,if_pos k6]
  intro J56 hJ56
  have fin: ¬(e.n≠0∧e.n≠1)→J56 [] H11:=fun hno=>hJ56 _ ⟨e.n,hs11.get 1 rfl (j:=4) rfl,hs11.put 2 rfl (by show 3<19;decide) rfl fun H59 hs59=>
   done ⟨{r.f with hidden:=e.n==1},r.to,r.P,r.M,r.A⟩ [] H59 _ (by rw[hg];unfold hideF;rw[if_neg hno]) rfl hs59 fun H'' fps hr _=>⟨hr.p,hr.mask,hr.params⟩⟩
  refine⟨e.n,hs11.get 1 rfl (j:=4) rfl,br_ne (fun h0=>⟨e.n,hs11.get 1 rfl (j:=4) rfl,br_ne (fun h1=>bad (v:=32) (by rw[hg];unfold hideF;rw[if_pos ⟨h0,h1⟩]) (by decide) hs11) fun h1=>fin fun hh=>hh.2 h1⟩) fun h0=>fin fun hh=>hh.1 h0⟩
 ·have hg:chgK w h e r.f=maskF w h e r.f:=by unfold chgK;rw[if_neg k4,if_neg k5,if_neg k6,if_pos k7]
  rw[hg] at hR
  refine⟨_,rfl,rowIn_whole (hs11.block 3 rfl),_,rfl,rowIn_whole (hs11.block 2 rfl),_,rfl,rowIn_whole (hs11.block 1 rfl),c62 (hed.rd.ext hs11.ext) hsl hsz ⟨fun hb H' he=>?_,fun h0 r' H' τ hf hto hs hrr=>?_⟩⟩
  ·exact⟨_,_,rfl,rfl,(hs11.step he).putAll 0 rfl rfl (by simpa using cellsR_one r) fun H2 hs2=>⟨_,rfl,rowIn_whole (hs2.block 0 rfl),hR.bad hb H2 hs2.ext⟩⟩
  ·refine⟨_,_,rfl,rfl,((hs11.callR hs)).putAll 0 rfl rfl (by simpa using cellsR_one r') fun H2 hs2=>⟨_,rfl,rowIn_whole (hs2.block 0 rfl),hR.ok h0 r' H2 τ hf hto (hs2.drop 4) hrr⟩⟩
 ·have hg:chgK w h e r.f=placeF e r.f:=by unfold chgK;rw[if_neg k4,if_neg k5,if_neg k6,if_neg k7,if_pos k8]
  refine⟨r.f.kind,hs11.get 2 rfl (j:=1) rfl,br_ne (fun c=>bad (v:=41) (by rw[hg];unfold placeF;rw[if_pos c]) (by decide) hs11) fun c=>?_⟩
  intro J78 hJ78
  have fin: ¬(e.n≠0∧e.n≠1)→J78 [] H11:=fun hno=>by
   have hF: ∀x,chgK w h e r.f=x↔(if (backM e.map).1≠0 then((backM e.map).1,r.f) else(0,{r.f with map:=e.map,smooth:=e.n==1}))=x:=fun x=>by rw[hg];unfold placeF;rw[if_neg (fun hh=>hh c),if_neg hno]
   refine hJ78 _ ⟨(ints e.map.l).toArray,rfl,edMap (hs11.block 1 rfl),c63 fun H82 he82=>⟨_,_,rfl,?_⟩⟩
   refine(hs11.step he82).alc fun b85 H86 hs86=>⟨rfl,hs86.putAllA 0 rfl rfl fun H87 hs87=>br_ne (fun hb=>?_) fun hb=>?_⟩
   ·exact bad (H1:=H87) ((hF _).2 (if_pos hb)) hb ((hs87.drop 1))
   ·refine⟨(ints e.map.l).toArray,rfl,edMap (hs87.block 2 rfl),rfl,hs87.putRow 3 rfl (by show 10+6≤19;decide) (by simpa using ints_one e.map.l) fun H92 hs92=>⟨e.n,hs92.get 2 rfl (j:=4) rfl,hs92.put 3 rfl (by show 16<19;decide) rfl fun H94 hs94=>?_⟩⟩
    exact done ⟨{r.f with map:=e.map,smooth:=e.n==1},r.to,r.P,r.M,r.A⟩ [] H94 _ ((hF _).2 (if_neg (fun hh=>hh hb))) rfl (hs94.drop 1) fun H'' fps hr _=>⟨hr.p,hr.mask,hr.params⟩
  refine⟨e.n,hs11.get 1 rfl (j:=4) rfl,br_ne (fun h0=>⟨e.n,hs11.get 1 rfl (j:=4) rfl,br_ne (fun h1=>bad (v:=32) (by rw[hg];unfold placeF;rw[if_neg (fun hh=>hh c),if_pos ⟨h0,h1⟩]) (by decide) hs11) fun h1=>fin fun hh=>hh.2 h1⟩) fun h0=>fin fun hh=>hh.1 h0⟩
 ·have hg:chgK w h e r.f=adjustF e r.f:=by unfold chgK;rw[if_neg k4,if_neg k5,if_neg k6,if_neg k7,if_neg k8]
  refine⟨r.f.kind,hs11.get 2 rfl (j:=1) rfl,br_ne (fun c=>bad (v:=41) (by rw[hg];unfold adjustF;rw[if_pos c]) (by decide) hs11) fun c=>?_⟩
  have hpl:=hed.rd.params.length
  have hpb:=hed.params
  refine⟨e.n,hs11.get 1 rfl (j:=4) rfl,_,_,_,hs11.get 1 rfl (edL_18 e s),c64 (hed.rd.params.ext hs11.ext) (by omega) fun q H107 he107=>⟨_,_,_,_,rfl,?_⟩⟩
  have hs107:=hs11.step he107
  refine br_not (fun hb=>bad (v:=32) (by rw[hg];unfold adjustF;rw[if_neg (fun hh=>hh c),if_pos hb]) (by decide) hs107) fun hb=>?_
  refine⟨e.n,hs107.get 1 rfl (j:=4) rfl,hs107.put 2 rfl (by show 17<19;decide) rfl fun H114 hs114=>hs114.alc fun b115 H116 hs116=>⟨_,_,_,hs116.get 2 rfl (edL_18 e s),?_⟩⟩
  have hs116':=hs116.toSl 0 (l:=0) (k:=1) (fs:=[]) rfl rfl rfl (by simp)
  refine hs116'.appI 0 rfl (hed.rd.params.ext hs116'.ext) (ints_one _) rfl (by omega) (by omega) fun p' c' H119 hs119=>?_
  rw[Nat.zero_add] at hs119 ⊢
  rw[List.nil_append] at hs119
  refine hs119.put 3 rfl (by show 18<19;decide) rfl fun H120 hs120=>?_
  refine done ⟨{r.f with table:=e.n,params:=e.params},r.to,r.P,r.M,⟨p',s.A.l,c'⟩⟩ [.sl p' s.A.l c' 3 1 (ints e.params)] H120 [.cell b4 (docA w h next K) 32] (by rw[hg];unfold adjustF;rw[if_neg (fun hh=>hh c),if_neg (by rw[hb];decide)]) rfl ?_ fun H'' fps hr hL=>?_
  ·exact hs120.perm (permC fun _ x=>by simp only[List.set_cons_succ,List.set_cons_zero,List.count_append,List.count_cons,List.count_nil];ac_rfl)
  ·obtain⟨fp,_,hat⟩:=hL.get (i:=0) rfl
   exact⟨hr.p,hr.mask,hat.1.rs.is⟩
end Go.Proofs
namespace Go.Proofs
open Go.Sh
variable {H0 H:Heap} {σ:List Rs} {R:Value→Heap→Prop}
structure DoR(g:Int×Int×List Lay)(H:Heap)(w h next:Int)(K:Sl3)(rs:List RT)(R:Value→Heap→Prop):Prop where
 bad:g.1≠0→ ∀H',Ext H H'→R (.tuple #[.agg (docA w h next K),.int .i64 g.1]) H'
 ok:g.1=0→ ∀(q:Sl3) (rs':List RT) H' τ,Rel g.2.2 (rwS rs')→St H H' (.sl q.p q.l q.c 82 19 (cellsRs rs')::τ)→(∀H'' fps,(∀r∈rs,rdR H'' r)→Lie H'' τ fps→ ∀r∈rs',rdR H'' r)→R (.tuple #[.agg (docA w h g.2.1 q),.int .i64 0]) H'
theorem DoR.err{g:Int×Int×List Lay}{w h next:Int}{K:Sl3}{rs:List RT}(hc:DoR g H w h next K rs R){v:Int}(hg:g.1=v)(hv:v≠0){H':Heap}(he:Ext H H'):R (.tuple #[.agg (docA w h next K),.int .i64 v]) H':=by
 have:=hc.bad (by rw[hg];exact hv) H' he
 rw[hg] at this;exact this
def zeroDA:Array Value:=#[Value.int .i64 0,Value.int .i64 0,Value.int .i64 0,Value.slice none 0 0]
theorem home_gid{D:List Lay}{to:Int}{v:List FrL}{kh:List Lay}(h:homeL D to=(0,v,kh)):gid v=to:=by
 unfold homeL at h
 split at h
 ·rename_i h0
  injection h with _ h;injection h with h1 h2
  rw[←h1];exact h0.symm
 ·rcases fl_cases to D with hn|⟨fr,u,ks,hf,hid,hp⟩
  ·rw[hn] at h;simp at h
  ·rw[hf] at h
   simp only at h
   split at h
   ·injection h with _ h;injection h with h1 h2
    rw[←h1];exact hid
   ·injection h with h _;exact absurd h (by decide)
theorem len_ofG{D:List Lay}{L:List Rw}(hr:Rel D L)(hi:Ids D){v:List FrL}{kh:List Lay}(hp:plugL v kh=D):(ofG (gid v) L).length=kh.length:=by
 rw[hr,←hp,ofG_at (by rw[hp];exact hi),List.length_map]
theorem add_err{next:Int}{D:List Lay}{e:Ed}(h1: ¬(e.n<0∨e.n>2))(h2: ¬(e.n=0∧sizedB e.w e.h=false)):addL next D e=
 (if (homeL D e.to).1≠0 then((homeL D e.to).1,[]) else
 if (putL (homeL D e.to).2.1 (homeL D e.to).2.2 e.at_ (.mk (newL next e) [])).1≠0 then((putL (homeL D e.to).2.1 (homeL D e.to).2.2 e.at_ (.mk (newL next e) [])).1,[]) else
 if 4096≤cntKs D then(31,[]) else(0,(putL (homeL D e.to).2.1 (homeL D e.to).2.2 e.at_ (.mk (newL next e) [])).2)):=by
 unfold addL;rw[if_neg h1,if_neg h2]
theorem FS.rl{n0:Nat}{H:Heap}{q:Sl3}{rs:List RT}(h:FS n0 H q.p q.l q.c 82 19 (cellsRs rs))(hf:rs.length≤1000000):RL H q rs:=⟨h.rs,h.le,hf⟩
theorem c26{D:DocL}{K:Sl3}{rs:List RT}{e:Ed}{s:EdS}(hl:RL H K rs)(hr:Rel D.ks (rwS rs))(hi:Inv D)(hnx:D.next≤1000000000000000)
 (hR:DoR ((addL D.next D.ks e).1,D.next+1,(addL D.next D.ks e).2) H D.w D.h D.next K rs R):
 CallsH Tryz.prog 26 #[.agg (docA D.w D.h D.next K),.agg (edL e s).toArray] H R:=by
 have hids:=hi.ids'
 have hn:=hr.nodup hids
 have hcnt:=hi.cnt
 have hdep:=hi.dep
 have hlen:=hl.len
 have hrl:=hr.len
 rw[rwS_len] at hrl
 have hn1:=hi.next
 refine Tryz.s26 ?_
 unfold Tryz.S26
 refine(St.nil H).alc fun b3 H4 hs4=>hs4.alc fun b5 H6 hs6=>hs6.alc fun b7 H8 hs8=>?_
 have hs8:St H H8 [.cell b7 zeroDA 32,.cell b5 (edL e s).toArray 61,.cell b3 (docA D.w D.h D.next K) 32]:=hs8
 have bad: ∀{v:Int} {H1:Heap} {σ':List Rs} (i j:Nat),σ'[i]?=some (.cell b3 (docA D.w D.h D.next K) 32)→σ'[j]?=some (.cell b7 zeroDA 32)→(addL D.next D.ks e).1=v→v≠0→St H H1 σ'→
  ∃v13:Array Value,v13.size=4∧rowIn H1 ⟨b3,0,none⟩ v13∧v13.size=4∧stAt H1 ⟨b7,0,none⟩ (Array.toList v13) fun H_14=> ∃res15:Array Value,res15.size=4∧rowIn H_14 ⟨b7,0,none⟩ res15∧R (Value.tuple #[Value.agg res15,Value.int .i64 v]) H_14:=fun{v H1 σ'} i j h3 h7 hg hv hs1=>
  ⟨docA D.w D.h D.next K,rfl,rowIn_whole (hs1.block i h3),rfl,hs1.putAll j h7 rfl (docA_one _ _ _ _) fun H2 hs2=>⟨docA D.w D.h D.next K,rfl,rowIn_whole (hs2.block j (List.getElem?_set_self (List.getElem?_eq_some_iff.1 h7).1)),hR.err hg hv hs2.ext⟩⟩
 intro J9 hJ9
 refine⟨e.n,hs8.get 1 rfl (j:=4) rfl,br_dec (fun c=>bad 2 0 rfl rfl (v:=41) (by unfold addL;rw[if_pos (.inl c)]) (by decide) hs8) fun c1=>?_⟩
 refine⟨e.n,hs8.get 1 rfl (j:=4) rfl,br_dec (fun c=>bad 2 0 rfl rfl (v:=41) (by unfold addL;rw[if_pos (.inr c)]) (by decide) hs8) fun c2=>hJ9 _ ?_⟩
 have c12: ¬(e.n<0∨e.n>2):=by omega
 refine⟨D.next,hs8.get 2 rfl (j:=2) rfl,e.n,hs8.get 1 rfl (j:=4) rfl,e.to,hs8.get 1 rfl (j:=2) rfl,rfl,by decide,hs8.alc fun b14 H15 hs15=>⟨rfl,?_⟩⟩
 let r0:RT:=⟨f0L D.next e.n,e.to,.nil,.nil,.nil⟩
 refine hs15.putAll 0 rfl rfl (by intro v hv;exact cellsR_one r0 v hv) fun H16 hs16=>?_
 have hs16:St H H16 [.cell b14 (cellsR r0).toArray 82,.cell b7 zeroDA 32,.cell b5 (edL e s).toArray 61,.cell b3 (docA D.w D.h D.next K) 32]:=hs16
 intro J17 hJ17
 have main: ∀(r1:RT) (τ:List Rs) (H1:Heap),¬(e.n=0∧sizedB e.w e.h=false)→r1.f=newL D.next e→r1.to=e.to→(∀H'' fps,Lie H'' τ fps→rdR H'' r1)→
  St H H1 (.cell b14 (cellsR r1).toArray 82:: .cell b7 zeroDA 32:: .cell b5 (edL e s).toArray 61:: .cell b3 (docA D.w D.h D.next K) 32::τ)→J17 [] H1:=fun r1 τ H1 csz hf1 hto1 hrd1 hs1=>by
  have hA:=add_err (next:=D.next) (D:=D.ks) c12 csz
  refine hJ17 _ ⟨_,rfl,rowIn_whole (hs1.block 3 rfl),e.to,hs1.get 2 rfl (j:=2) rfl,c56 (hl.ext hs1.ext) hr hids fun H22 he22=>⟨_,rfl,?_⟩⟩
  have hs22:=hs1.step he22
  refine br_ne (fun hh=>bad 3 1 rfl rfl (by rw[hA,if_pos hh]) hh hs22) fun hh=>?_
  have hho:=home_tri hh
  generalize (homeL D.ks e.to).2.1=v at hho hA
  generalize (homeL D.ks e.to).2.2=kh at hho hA
  rw[if_neg (by rw[hh];exact fun x=>x rfl)] at hA
  obtain⟨hp,_⟩:=home_cases D.ks e.to hho
  have hg:=home_gid hho
  have hlo:=len_ofG hr hids hp
  rw[hg] at hlo
  refine⟨_,_,_,hs22.get 3 rfl (docA_3 _ _ _ _),_,rfl,rowIn_whole (hs22.block 3 rfl),_,rfl,rowIn_whole (hs22.block 0 rfl),e.at_,hs22.get 2 rfl (j:=3) rfl,c57 (hl.ext hs22.ext) (fun hno H32 he32=>⟨_,_,rfl,?_⟩) fun i hat q H32 hq=>⟨_,_,rfl,?_⟩⟩
  ·rw[hto1,hlo] at hno
   refine(hs22.step he32).alc fun b35 H36 hs36=>⟨rfl,hs36.putAll 0 rfl rfl (docA_one _ _ _ _) fun H37 hs37=>br_ne (fun _=>bad 4 2 rfl rfl (v:=43) ?_ (by decide) hs37) fun hz=>absurd hz (by decide)⟩
   have:(putL v kh e.at_ (.mk (newL D.next e) [])).1=43:=by unfold putL;rw[hno]
   rw[hA,if_pos (by rw[this];decide)];exact this
  ·rw[hto1,hlo] at hat
   have hput:putL v kh e.at_ (.mk (newL D.next e) [])=(if 64<depKs (plugL v (kh.take i++ .mk (newL D.next e) []::kh.drop i)) then 31 else 0,plugL v (kh.take i++ .mk (newL D.next e) []::kh.drop i)):=by unfold putL;rw[hat]
   have hdp:=put_dep v kh i (.mk (newL D.next e) [])
   rw[hp,show depL (.mk (newL D.next e) [])=1 from by rw[depL,depKs]] at hdp
   have hs32:=hs22.callR hq
   refine hs32.alc fun b35 H36 hs36=>⟨rfl,hs36.putAll 0 rfl rfl (docA_one _ _ _ _) fun H37 hs37=>br_ne (fun hz=>absurd rfl hz) fun _=>?_⟩
   intro J41 hJ41
   have hpa:=path_at hr hids v kh hp
   rw[hg] at hpa
   refine br_dec (fun hge=>bad 4 2 rfl rfl (v:=31) ?_ (by decide) hs37) fun hlt=>⟨_,rfl,rowIn_whole (hs37.block 4 rfl),e.to,hs37.get 3 rfl (j:=2) rfl,?_⟩
   ·rw[hA,hput]
    by_cases hd:64<depKs (plugL v (kh.take i++ .mk (newL D.next e) []::kh.drop i))
    ·rw[if_pos hd];rfl
    ·rw[if_neg hd,if_neg (fun x=>x rfl),if_pos (by omega)]
   have hvl:(idsV v).length=v.length:=by unfold idsV;rw[List.length_map]
   have hvd:v.length≤1000000:=by
    rcases (rel_paths hr hids).1 with hrp
    cases v with
    |nil=>simp
    |cons fr u=>
     have hm:(⟨fr.f,gid u⟩:Rw)∈rwS rs:=hr.mem.2 (hp▸at_mem)
     obtain⟨c,q1,q2,q3⟩:=hrp _ hm
     have hq:Path (rwS rs) fr.f.id (idsV (fr::u)):=path_at hr hids (fr::u) kh hp
     rw[q1.uniq hn hq] at q3
     rw[hvl] at q3;omega
   refine c58 (hl.ext hs37.ext) hn hpa (by rw[hvl];exact hvd) fun H54 he54=>⟨_,rfl,?_⟩
   have hs54:=hs37.step he54
   rw[hvl,wrap_id (n:=((v.length:Nat):Int)+1) (by omega) (by omega)]
   refine br_dec (fun hgt=>bad 4 2 rfl rfl (v:=31) ?_ (by decide) hs54) fun hle=>hJ41 _ ⟨D.next,hs54.get 0 rfl (j:=2) rfl,?_⟩
   ·have hd:64<max (depKs D.ks) (v.length+1):=by omega
    rw[hA,hput,hdp,if_pos hd];rfl
   rw[wrap_id (by omega) (by omega)]
   have hA2:addL D.next D.ks e=(0,plugL v (kh.take i++ .mk (newL D.next e) []::kh.drop i)):=by
    have hd: ¬64<max (depKs D.ks) (v.length+1):=by omega
    rw[hA,hput,hdp,if_neg hd,if_neg (fun x=>x rfl),if_neg (by omega)]
   refine hs54.put 0 rfl (by show 2<4;decide) rfl fun H44 hs44=>⟨docA D.w D.h (D.next+1) q,rfl,rowIn_whole (hs44.block 0 rfl),rfl,hs44.putAll 2 rfl rfl (docA_one _ _ _ _) fun H46 hs46=>⟨docA D.w D.h (D.next+1) q,rfl,rowIn_whole (hs46.block 2 rfl),?_⟩⟩
   have hi2:Ids (plugL v (kh.take i++ .mk (newL D.next e) []::kh.drop i)):=by
    have:=(add_inv hi (e:=e) (by rw[hA2])).ids'
    rw[hA2] at this;exact this
   have hrel:=rel_put (L:=rwS rs) (hp▸hr) (hp▸hids) hi2 (atL_le hat)
   rw[hA2] at hR
   refine hR.ok rfl q (insT rs r1 i) H46 τ ?_ ?_ fun H'' fps hrs hL r hrm=>?_
   ·show Rel (plugL v (kh.take i++ .mk (newL D.next e) []::kh.drop i)) _
    rw[insT_rw,show r1.rw=⟨newL D.next e,gid v⟩ from by unfold RT.rw;rw[hf1,hto1,hg]]
    exact hrel
   ·exact(hs46.drop 5).perm List.perm_append_comm
   ·rcases insT_mem hrm with rfl|hrm
    ·exact hrd1 H'' fps hL
    ·exact hrs r hrm
 refine⟨e.n,hs16.get 2 rfl (j:=4) rfl,br_eq (fun h0=>?_) fun h0=>?_⟩
 ·refine⟨e.w,hs16.get 2 rfl (j:=8) rfl,e.h,hs16.get 2 rfl (j:=9) rfl,c22 ⟨_,rfl,br_not (fun hb=>bad 3 1 rfl rfl (v:=31) (by unfold addL;rw[if_neg c12,if_pos ⟨h0,hb⟩]) (by decide) hs16) fun hb=>?_⟩⟩
  obtain⟨q1,q2,q3,q4,q5⟩:=of_decide_eq_true hb
  have hwh:IntKind.wrap .i64 (e.w*e.h)=e.w*e.h:=wrap_area q1 q2 q3 q4
  have hpos:0≤e.w*e.h:=Int.mul_nonneg (by omega) (by omega)
  refine⟨e.w,hs16.get 2 rfl (j:=8) rfl,hs16.put 0 rfl (by show 6<19;decide) rfl fun H69 hs69=>⟨e.h,hs69.get 2 rfl (j:=9) rfl,hs69.put 0 rfl (by show 7<19;decide) rfl fun H71 hs71=>⟨e.w,hs71.get 2 rfl (j:=8) rfl,e.h,hs71.get 2 rfl (j:=9) rfl,?_⟩⟩⟩
  rw[hwh]
  refine⟨hpos,Int.le_refl _,by omega,by omega,hs71.alc fun b74 H75 hs75=>?_⟩
  have hs75':=hs75.toSl 0 (l:=(e.w*e.h).toNat) (k:=1) (fs:=ints (List.replicate (e.w*e.h).toNat 0)) rfl (by simp[reps_length]) (reps_ints _) (ints_one _)
  refine hs75'.put 1 rfl (by show 8<19;decide) rfl fun H76 hs76=>?_
  have enew:newL D.next e=⟨D.next,e.n,false,255,0,e.w,e.h,List.replicate (e.w*e.h).toNat 0,[],⟨65536,0,0,65536,0,0⟩,false,2,[]⟩:=by unfold newL;rw[if_pos h0,if_pos h0,if_pos h0]
  refine main ⟨⟨D.next,e.n,false,255,0,e.w,e.h,List.replicate (e.w*e.h).toNat 0,[],⟨65536,0,0,65536,0,0⟩,false,2,[]⟩,e.to,⟨some ⟨b74,0,none⟩,(e.w*e.h).toNat,(e.w*e.h).toNat⟩,.nil,.nil⟩ [.sl (some ⟨b74,0,none⟩) (e.w*e.h).toNat (e.w*e.h).toNat 3 1 (ints (List.replicate (e.w*e.h).toNat 0))] H76 (fun hh=>by rw[hb] at hh;exact absurd hh.2 (by decide)) enew.symm rfl (fun H'' fps hL=>?_) ?_
  ·obtain⟨fp,_,hat⟩:=hL.get (i:=0) rfl
   exact⟨hat.1.rs.is,IS.nil H'',IS.nil H''⟩
  ·exact hs76.perm (permC fun _ x=>by simp only[List.set_cons_succ,List.set_cons_zero,List.count_cons,List.count_nil];exact(by ac_rfl))
 ·have enew:newL D.next e=f0L D.next e.n:=by unfold newL f0L;rw[if_neg h0,if_neg h0,if_neg h0]
  exact main r0 [] H16 (fun hh=>h0 hh.1) enew.symm rfl (fun H'' fps _=>⟨IS.nil H'',IS.nil H'',IS.nil H''⟩) hs16
end Go.Proofs
namespace Go.Proofs
open Go.Sh
variable {H0 H:Heap} {σ:List Rs} {R:Value→Heap→Prop}
theorem ids_sub{fr:FrL}{u:List FrL}{ks:List Lay}:(idsKs (plugL (fr::u) ks)).Perm (subS fr ks++idsKs (plugL u (fr.pre++fr.post))):=by
 refine(ids_plug _ _).trans (List.Perm.trans ?_ (List.Perm.append_left _ (ids_plug u _).symm))
 refine List.perm_iff_count.2 fun x=>?_
 simp only[idsUp,subS,idsKs_app,List.count_append,List.count_cons]
 ac_rfl
theorem ids_out{fr:FrL}{u:List FrL}{ks:List Lay}(hi:Ids (plugL (fr::u) ks)):Ids (plugL u (fr.pre++fr.post))∧(subS fr ks).Nodup∧ ∀s∈subS fr ks,s≠0∧s∉idsKs (plugL u (fr.pre++fr.post)):=by
 have hn:=(ids_sub.nodup_iff).1 hi.nodup
 rw[List.nodup_append] at hn
 exact⟨⟨hn.2.1,fun x hx=>hi.pos x (ids_sub.mem_iff.2 (List.mem_append_right _ hx))⟩,hn.1,fun s hs=>⟨hi.pos s (ids_sub.mem_iff.2 (List.mem_append_left _ hs)),fun h=>hn.2.2 s hs s h rfl⟩⟩
theorem ids_move{fr:FrL}{u v:List FrL}{ks kh:List Lay}(i:Nat)(hi:Ids (plugL (fr::u) ks))(hv:plugL v kh=plugL u (fr.pre++fr.post)):Ids (plugL v (kh.take i++ .mk fr.f ks::kh.drop i)):=by
 obtain⟨h1,h2,h3⟩:=ids_out hi
 rw[←hv] at h1 h3
 exact h1.perm (x:=subS fr ks) (put_ids v kh i (.mk fr.f ks)) h2 h3
theorem cyc_iff{D:List Lay}{L:List Rw}{fr:FrL}{u:List FrL}{ks:List Lay}{to:Int}{v:List FrL}{kh:List Lay}(hr:Rel D L)(hi:Ids D)(hp:plugL (fr::u) ks=D)(hh:homeL D to=(0,v,kh)):
 fr.f.id∈idsV v↔(to=fr.f.id∨(flK [] [] to ks).isSome=true):=by
 obtain⟨hv,_⟩:=home_cases D to hh
 have hpa:=path_at hr hi v kh hv
 rw[home_gid hh] at hpa
 rw[path_in (hp▸hr) (hp▸hi) hpa,subS,List.mem_cons]
 have h1:=flK_none (id:=to) ks [] []
 cases hf:flK [] [] to ks with
 |none=>
  have:=h1.1 hf
  simp[this]
 |some z=>
  have:to∈idsKs ks:=Decidable.byContradiction fun hh=>by rw[h1.2 hh] at hf;cases hf
  simp[this]
theorem row_in{D:List Lay}{fr:FrL}{u:List FrL}{ks:List Lay}(hp:plugL (fr::u) ks=D):(⟨fr.f,gid u⟩:Rw)∈flatKs 0 D:=hp▸at_mem
theorem home_again{D:List Lay}{fr:FrL}{u:List FrL}{ks:List Lay}{to:Int}{v:List FrL}{kh:List Lay}(hi:Ids D)(hp:plugL (fr::u) ks=D)(hh:homeL D to=(0,v,kh))(hc: ¬(to=fr.f.id∨(flK [] [] to ks).isSome=true)):
 (homeL (plugL u (fr.pre++fr.post)) to).1=0:=by
 unfold homeL
 by_cases h0:to=0
 ·rw[if_pos h0]
 ·rw[if_neg h0]
  unfold homeL at hh
  rw[if_neg h0] at hh
  rcases fl_cases to D with hn|⟨fr2,u2,ks2,hf2,hid2,hp2⟩
  ·rw[hn] at hh;simp at hh
  ·rw[hf2] at hh
   simp only at hh
   have hk2:fr2.f.kind=1:=by
    split at hh
    ·assumption
    ·injection hh with hh _;exact absurd hh (by decide)
   have hm:to∈idsKs D:=by
    rw[←flatKs_ids D 0]
    exact List.mem_map.2 ⟨_,row_in hp2,hid2⟩
   have hns:to∉subS fr ks:=fun h=>by
    rcases List.mem_cons.1 h with h|h
    ·exact hc (.inl h)
    ·refine hc (.inr ?_)
     cases hf:flK [] [] to ks with
     |none=>exact absurd h ((flK_none ks [] []).1 hf)
     |some z=>rfl
   have hm1:to∈idsKs (plugL u (fr.pre++fr.post)):=by
    rw[←hp] at hm
    exact(List.mem_append.1 (ids_sub.mem_iff.1 hm)).resolve_left hns
   rcases fl_cases to (plugL u (fr.pre++fr.post)) with hn3|⟨fr3,u3,ks3,hf3,hid3,hp3⟩
   ·exact absurd hm1 ((flK_none _ [] []).1 hn3)
   ·rw[hf3]
    simp only
    have hfl:flatKs 0 (plugL u (fr.pre++fr.post))=(flatKs 0 D).filter (fun r=>decide (r.f.id∉subS fr ks)):=by
     have hn:=flat_nodup hi
     rw[←hp] at hn ⊢
     rw[flat_sub] at hn ⊢
     have:=(mid_out hn).1
     rw[sub_ids] at this
     rw[this,flat_plug,flatKs_app];simp
    have h3:=row_in hp3
    rw[hfl] at h3
    have h3':=(List.mem_filter.1 h3).1
    have:=ids_inj (flat_nodup hi) h3' (row_in hp2) (show fr3.f.id=fr2.f.id by rw[hid3,hid2])
    have e:fr3.f=fr2.f:=congrArg Rw.f this
    rw[if_pos (by rw[e];exact hk2)]
theorem filter_map_rw(rs:List RT)(p:Rw→Bool):rwS (rs.filter fun r=>p r.rw)=(rwS rs).filter p:=by
 rw[rwS,rwS,List.filter_map];rfl
theorem c29{D:DocL}{K:Sl3}{rs:List RT}{e:Ed}{s:EdS}(hl:RL H K rs)(hr:Rel D.ks (rwS rs))(hi:Inv D)
 (hR:DoR ((moveL D.ks e).1,D.next,(moveL D.ks e).2) H D.w D.h D.next K rs R):
 CallsH Tryz.prog 29 #[.agg (docA D.w D.h D.next K),.agg (edL e s).toArray] H R:=by
 have hids:=hi.ids'
 have hn:=hr.nodup hids
 have hcnt:=hi.cnt
 have hlen:=hl.len
 have hrl:=hr.len
 rw[rwS_len] at hrl
 refine Tryz.s29 ?_
 unfold Tryz.S29
 refine(St.nil H).alc fun b3 H4 hs4=>hs4.alc fun b5 H6 hs6=>hs6.alc fun b7 H8 hs8=>?_
 have hs8:St H H8 [.cell b7 zeroDA 32,.cell b5 (edL e s).toArray 61,.cell b3 (docA D.w D.h D.next K) 32]:=hs8
 have bad: ∀{v:Int} {H1:Heap} {σ':List Rs} (i j:Nat),σ'[i]?=some (.cell b3 (docA D.w D.h D.next K) 32)→σ'[j]?=some (.cell b7 zeroDA 32)→(moveL D.ks e).1=v→v≠0→St H H1 σ'→
  ∃v13:Array Value,v13.size=4∧rowIn H1 ⟨b3,0,none⟩ v13∧v13.size=4∧stAt H1 ⟨b7,0,none⟩ (Array.toList v13) fun H_14=> ∃res15:Array Value,res15.size=4∧rowIn H_14 ⟨b7,0,none⟩ res15∧R (Value.tuple #[Value.agg res15,Value.int .i64 v]) H_14:=fun{v H1 σ'} i j h3 h7 hg hv hs1=>
  ⟨docA D.w D.h D.next K,rfl,rowIn_whole (hs1.block i h3),rfl,hs1.putAll j h7 rfl (docA_one _ _ _ _) fun H2 hs2=>⟨docA D.w D.h D.next K,rfl,rowIn_whole (hs2.block j (List.getElem?_set_self (List.getElem?_eq_some_iff.1 h7).1)),hR.err hg hv hs2.ext⟩⟩
 refine⟨_,rfl,rowIn_whole (hs8.block 2 rfl),e.id,hs8.get 1 rfl (j:=1) rfl,c27 (hl.ext hs8.ext) fun H12 he12=>⟨_,rfl,?_⟩⟩
 have hs12:=hs8.step he12
 rcases rel_find hr hids e.id with ⟨hno,hf⟩|⟨fr,u,ks,k,r,hf,hid,hp,hk,e1,e2,hfk⟩
 ·rw[hf]
  exact br_dec (fun _=>bad 2 0 rfl rfl (v:=40) (by unfold moveL;rw[hno]) (by decide) hs12) fun h=>by omega
 rw[hfk]
 refine br_dec (fun h=>by omega) fun _=>?_
 have hM:moveL D.ks e=(if (homeL D.ks e.to).1≠0 then((homeL D.ks e.to).1,[]) else
  if e.to=e.id∨(flK [] [] e.to ks).isSome=true then(42,[]) else
  if (homeL (plugL u (fr.pre++fr.post)) e.to).1≠0 then((homeL (plugL u (fr.pre++fr.post)) e.to).1,[]) else
  putL (homeL (plugL u (fr.pre++fr.post)) e.to).2.1 (homeL (plugL u (fr.pre++fr.post)) e.to).2.2 e.at_ (.mk fr.f ks)):=by unfold moveL;rw[hf]
 refine⟨_,rfl,rowIn_whole (hs12.block 2 rfl),e.to,hs12.get 1 rfl (j:=2) rfl,c56 (hl.ext hs12.ext) hr hids fun H20 he20=>⟨_,rfl,?_⟩⟩
 have hs20:=hs12.step he20
 refine br_ne (fun hh=>bad 2 0 rfl rfl (by rw[hM,if_pos hh]) hh hs20) fun hh=>?_
 rw[if_neg (fun x=>x hh)] at hM
 have hho:=home_tri hh
 generalize (homeL D.ks e.to).2.1=v0 at hho
 generalize (homeL D.ks e.to).2.2=kh0 at hho
 obtain⟨hv0,_⟩:=home_cases D.ks e.to hho
 have hpa:=path_at hr hids v0 kh0 hv0
 rw[home_gid hho] at hpa
 have hcy:=cyc_iff hr hids hp hho
 refine⟨_,rfl,rowIn_whole (hs20.block 2 rfl),e.to,hs20.get 1 rfl (j:=2) rfl,e.id,hs20.get 1 rfl (j:=1) rfl,c59 (hl.ext hs20.ext) hn hpa fun H29 he29=>⟨_,rfl,?_⟩⟩
 have hs29:=hs20.step he29
 rw[←hid]
 rw[←hid] at hM hfk
 refine br_dec (fun hin=>bad 2 0 rfl rfl (v:=42) (by rw[hM,if_pos (hcy.1 hin)]) (by decide) hs29) fun hin=>?_
 have hnc:=fun hh=>hin (hcy.2 hh)
 rw[if_neg hnc] at hM
 have hh1:=home_again hids hp hho hnc
 rw[if_neg (fun x=>x hh1)] at hM
 have hho1:=home_tri hh1
 generalize (homeL (plugL u (fr.pre++fr.post)) e.to).2.1=v at hho1 hM
 generalize (homeL (plugL u (fr.pre++fr.post)) e.to).2.2=kh at hho1 hM
 obtain⟨hv,_⟩:=home_cases _ e.to hho1
 have hg:=home_gid hho1
 have hkl:=(List.getElem?_eq_some_iff.1 hk).1
 obtain⟨blk,hpk,hrow⟩:=(hl.ext hs29.ext).row hk
 refine⟨_,_,_,hs29.get 2 rfl (docA_3 _ _ _ _),_,hpk,by omega,by omega,(cellsR r).toArray,rfl,rowR0 hrow,hs29.alc fun b37 H38 hs38=>⟨rfl,hs38.putAll 0 rfl rfl (by simpa using cellsR_one r) fun H39 hs39=>?_⟩⟩
 have hrd':Rel (plugL (fr::u) ks) (rwS rs):=hp▸hr
 have hid':Ids (plugL (fr::u) ks):=hp▸hids
 refine⟨_,rfl,rowIn_whole (hs39.block 3 rfl),e.id,hs39.get 2 rfl (j:=1) rfl,?_⟩
 rw[←hid]
 refine c28 (hl.ext hs39.ext) hn (fun x=>decide (x.f.id∈subS fr ks)) (fun x hx=>?_) fun q g H43 hq=>⟨_,_,_,_,_,_,rfl,?_⟩
 ·obtain⟨c,hc,_⟩:=(rel_paths hr hids).1 x hx
  exact⟨c,hc,decide_eq_decide.2 (path_in hrd' hid' hc)⟩
 have hs43:=hs39.callR hq
 refine⟨_,rfl,rowIn_whole (hs43.block 3 rfl),hs43.alc fun b47 H48 hs48=>⟨rfl,hs48.putAll 0 rfl rfl (docA_one _ _ _ _) fun H49 hs49=>hs49.put 0 rfl (by show 3<4;decide) rfl fun H50 hs50=>⟨e.to,hs50.get 3 rfl (j:=2) rfl,hs50.put 1 rfl (by show 2<19;decide) rfl fun H52 hs52=>?_⟩⟩⟩
 let r2:RT:=⟨r.f,e.to,r.P,r.M,r.A⟩
 let rest:List RT:=rs.filter fun x=> !decide (x.rw.f.id∈subS fr ks)
 have hs52:St H H52 [.cell b47 (docA D.w D.h D.next q) 32,.cell b37 (cellsR r2).toArray 82,.cell b7 zeroDA 32,.cell b5 (edL e s).toArray 61,.cell b3 (docA D.w D.h D.next K) 32,.sl q.p q.l q.c 82 19 (cellsRs rest),.sl g.p g.l g.c 82 19 (cellsRs (rs.filter fun x=>decide (x.rw.f.id∈subS fr ks)))]:=hs52
 have hrestl:rest.length≤rs.length:=List.length_filter_le _ _
 have hlr:RL H52 q rest:=FS.rl (hs52.fs 5 rfl) (by have:=hl.few;omega)
 have hrest:rwS rest=(rwS rs).filter fun x=>decide (x.f.id∉subS fr ks):=by
  have:=filter_map_rw rs fun x=>decide (x.f.id∉subS fr ks)
  rw[←this]
  congr 1
  exact List.filter_congr fun x _=>decide_not.symm
 have hrel1:Rel (plugL v kh) (rwS rest):=by rw[hrest,hv];exact rel_out hrd' hid'
 have hidv:Ids (plugL v kh):=by rw[hv];exact(ids_out hid').1
 have hlo:=len_ofG hrel1 hidv rfl
 rw[hg] at hlo
 refine⟨_,rfl,rowIn_whole (hs52.block 0 rfl),_,rfl,rowIn_whole (hs52.block 1 rfl),e.at_,hs52.get 3 rfl (j:=3) rfl,c57 hlr (fun hno H57 he57=>⟨_,_,rfl,?_⟩) fun i hat q2 H57 hq2=>⟨_,_,rfl,?_⟩⟩
 ·rw[show r2.to=e.to from rfl,hlo] at hno
  have hs57:=hs52.step he57
  refine hs57.alc fun b60 H61 hs61=>⟨rfl,hs61.putAll 0 rfl rfl (docA_one _ _ _ _) fun H62 hs62=>br_ne (fun _=>bad 5 3 rfl rfl (v:=43) ?_ (by decide) hs62) fun hz=>absurd hz (by decide)⟩
  rw[hM];unfold putL;rw[hno]
 rw[show r2.to=e.to from rfl,hlo] at hat
 have hput:moveL D.ks e=(if 64<depKs (plugL v (kh.take i++ .mk fr.f ks::kh.drop i)) then 31 else 0,plugL v (kh.take i++ .mk fr.f ks::kh.drop i)):=by rw[hM];unfold putL;rw[hat]
 have hs57:=hs52.callR hq2
 refine hs57.alc fun b60 H61 hs61=>⟨rfl,hs61.putAll 0 rfl rfl (docA_one _ _ _ _) fun H62 hs62=>br_ne (fun hz=>absurd rfl hz) fun _=>?_⟩
 intro X66 hX66
 generalize hgone:(rs.filter fun x=>decide (x.rw.f.id∈subS fr ks))=gone at hs62
 have hgonel:gone.length≤rs.length:=by rw[←hgone];exact List.length_filter_le _ _
 have hinsl:=insT_len rest r2 i
 have hgl:g.l=gone.length:=by have:=(hs62.rs 7 rfl).len;rw[cellsRs_len] at this;omega
 have hfew:=hl.few
 have go: ∀k,k≤gone.length→ ∀(q3:Sl3) H1,St H H1 [.cell b60 (docA D.w D.h D.next q3) 32,.cell b47 (docA D.w D.h D.next q) 32,.cell b37 (cellsR r2).toArray 82,.cell b7 zeroDA 32,.cell b5 (edL e s).toArray 61,.cell b3 (docA D.w D.h D.next K) 32,.sl q.p q.l q.c 82 19 (cellsRs rest),.sl g.p g.l g.c 82 19 (cellsRs gone),.sl q3.p q3.l q3.c 82 19 (cellsRs (insT rest r2 i++(gone.take k).filter fun x=>decide (x.rw.f.id≠fr.f.id)))]→X66 [.int .i64 (k:Nat)] H1:=by
  refine upto fun k hk3 ih q3 H1 hs1=>hX66 _ _ (br_dec (fun hlt=>?_) fun hge=>?_)
  ·have hk':k<gone.length:=by omega
   have hx:=List.getElem?_eq_getElem hk'
   have hlg:RL H1 g gone:=FS.rl (hs1.fs 7 rfl) (by omega)
   obtain⟨blk2,hpk2,hrow2⟩:=hlg.row hx
   have hq3:q3.l=(insT rest r2 i++(gone.take k).filter fun x=>decide (x.rw.f.id≠fr.f.id)).length:=by have:=(hs1.rs 8 rfl).len;rw[cellsRs_len] at this;omega
   have hfl:=List.length_filter_le (fun x:RT=>decide (x.rw.f.id≠fr.f.id)) (gone.take k)
   rw[List.length_take] at hfl
   rw[List.length_append] at hq3
   have htk:=take_succ hx
   refine⟨_,hpk2,by omega,hlt,gone[k].f.id,rowR hrow2 rfl,e.id,hs1.get 4 rfl (j:=1) rfl,?_⟩
   rw[←hid]
   refine br_ne (fun hne=>?_) fun heq=>?_
   ·refine⟨_,_,_,hs1.get 0 rfl (docA_3 _ _ _ _),_,hpk2,by omega,hlt,(cellsR gone[k]).toArray,rfl,rowR0 hrow2,rfl,by decide,?_⟩
    rw[elemR]
    refine hs1.alcE fun b75 H76 he76 hs76=>⟨.inl he76,hs76.appC 9 0 rfl rfl rfl (by simpa using cellsR_one gone[k]) (by decide) rfl (by omega) (by omega) fun p' c' H78 hs78=>hs78.put 1 rfl (by show 3<4;decide) rfl fun H79 hs79=>?_⟩
    rw[wrap_id (by omega) (by omega)]
    refine ih hk' ⟨p',q3.l+1,c'⟩ H79 ?_
    rw[htk,List.filter_append,←List.append_assoc,cellsRs_app (insT rest r2 i++_)]
    simp only[List.filter_cons,List.filter_nil,show decide (gone[k].rw.f.id≠fr.f.id)=true from decide_eq_true hne,if_true]
    rw[cellsRs_one']
    exact hs79.tail
   ·rw[wrap_id (by omega) (by omega)]
    refine ih hk' q3 H1 ?_
    rw[htk,List.filter_append]
    simp only[List.filter_cons,List.filter_nil,show decide (gone[k].rw.f.id≠fr.f.id)=false from decide_eq_false (fun hh=>hh heq),Bool.false_eq_true,if_false]
    rw[List.append_nil]
    exact hs1
  ·have hkg:k=gone.length:=by omega
   subst hkg
   rw[List.take_of_length_le (Nat.le_refl _)] at hs1
   have hfl:=List.length_filter_le (fun x:RT=>decide (x.rw.f.id≠fr.f.id)) gone
   have hl3:RL H1 q3 (insT rest r2 i++gone.filter fun x=>decide (x.rw.f.id≠fr.f.id)):=FS.rl (hs1.fs 8 rfl) (by
    rw[List.length_append,hinsl];omega)
   have hrel3:Rel (plugL v (kh.take i++ .mk fr.f ks::kh.drop i)) (rwS (insT rest r2 i++gone.filter fun x=>decide (x.rw.f.id≠fr.f.id))):=by
    have h1:=rel_move (i:=i) hrd' hid' hv (atL_le hat)
    rw[rwS,List.map_append]
    rw[show List.map RT.rw (insT rest r2 i)=insR (rwS rest) r2.rw i from insT_rw rest r2 i,hrest,show r2.rw=⟨fr.f,gid v⟩ from by show(⟨r.f,e.to⟩:Rw)=_;rw[e1,hg]]
    have h2:List.map RT.rw (gone.filter fun x=>decide (x.rw.f.id≠fr.f.id))=(rwS rs).filter fun r=>decide (r.f.id∈subS fr ks)&&decide (r.f.id≠fr.f.id):=by
     rw[←hgone,List.filter_filter]
     have:=filter_map_rw rs fun x=>decide (x.f.id∈subS fr ks)&&decide (x.f.id≠fr.f.id)
     rw[←this]
     refine congrArg _ (List.filter_congr fun x _=>?_)
     rw[Bool.and_comm]
    rw[h2];exact h1
   have hid3:=ids_move i hid' hv
   have hn3:=hrel3.nodup hid3
   obtain⟨hp1,hp2⟩:=rel_paths hrel3 hid3
   have hdc:=dep_cnt (plugL v (kh.take i++ .mk fr.f ks::kh.drop i))
   have hcn:cntKs (plugL v (kh.take i++ .mk fr.f ks::kh.drop i))≤1000000:=by
    have:=hrel3.len
    rw[rwS_len,List.length_append,hinsl] at this
    have hno1:=hi.cnt
    have h5:=put_cnt v kh i (.mk fr.f ks)
    have h6:=cnt_plug (fr::u) ks
    have h7:cntKs (plugL v kh)=cntKs (plugL u (fr.pre++fr.post)):=by rw[hv]
    have h8:=cnt_plug u (fr.pre++fr.post)
    rw[hp] at h6
    rw[cntKs_app] at h8
    rw[cntUp] at h6
    rw[cntL] at h5
    omega
   refine⟨_,rfl,rowIn_whole (hs1.block 0 rfl),c60 hl3 hn3 (B:=depKs (plugL v (kh.take i++ .mk fr.f ks::kh.drop i))) (by omega) (fun x hx=>?_) ?_ fun H83 he83=>⟨_,rfl,?_⟩⟩
   ·obtain⟨c,q1,q2,q3⟩:=hp1 x hx;exact⟨c,q1,q3⟩
   ·rcases hp2 with h0|h0
    ·left
     have:=hrel3.len
     rw[h0,rwS_len] at this
     refine⟨List.length_eq_zero_iff.1 (by rw[this];rfl),by rw[h0];rfl⟩
    ·exact .inr h0
   have hs83:=hs1.step he83
   refine br_dec (fun hgt=>bad 5 3 rfl rfl (v:=31) (by rw[hput,if_pos (by omega)]) (by decide) hs83) fun hle=>?_
   have hM2:moveL D.ks e=(0,plugL v (kh.take i++ .mk fr.f ks::kh.drop i)):=by rw[hput,if_neg (by omega)]
   refine⟨docA D.w D.h D.next q3,rfl,rowIn_whole (hs83.block 0 rfl),rfl,hs83.putAll 3 rfl rfl (docA_one _ _ _ _) fun H89 hs89=>⟨_,rfl,rowIn_whole (hs89.block 3 rfl),?_⟩⟩
   rw[hM2] at hR
   refine hR.ok rfl q3 _ H89 [] hrel3 (hs89.drop 8) fun H'' fps hrs _ x hx=>?_
   rcases List.mem_append.1 hx with hx|hx
   ·rcases insT_mem hx with rfl|hx
    ·have:=hrs r (List.mem_of_getElem? hk)
     exact⟨this.p,this.mask,this.params⟩
    ·exact hrs x (List.mem_filter.1 hx).1
   ·rw[←hgone] at hx
    exact hrs x (List.mem_filter.1 (List.mem_filter.1 hx).1).1
 refine go 0 (Nat.zero_le _) q2 H62 ?_
 rw[List.take_zero,List.filter_nil,List.append_nil]
 exact hs62
end Go.Proofs
namespace Go.Proofs
open Go.Sh
variable {H0 H:Heap} {σ:List Rs} {R:Value→Heap→Prop}
theorem doL_step{w h next:Int}{D:List Lay}{e:Ed}(hk:1≤e.kind∧e.kind≤9):(doL w h next D e).1=(stepL w h next D e).1∧((stepL w h next D e).1=0→(doL w h next D e).2=(nextL next e,(stepL w h next D e).2)):=by
 unfold doL
 rw[if_neg (by omega)]
 by_cases h0:(stepL w h next D e).1=0
 ·rw[if_neg (fun hh=>hh h0)]
  exact⟨h0.symm,fun _=>rfl⟩
 ·rw[if_pos h0]
  exact⟨rfl,fun hh=>absurd hh h0⟩
theorem DoR.step{w h next:Int}{D:List Lay}{e:Ed}{K:Sl3}{rs:List RT}(hk:1≤e.kind∧e.kind≤9)(hR:DoR (doL w h next D e) H w h next K rs R):DoR ((stepL w h next D e).1,nextL next e,(stepL w h next D e).2) H w h next K rs R:=by
 obtain⟨h1,h2⟩:=doL_step (w:=w) (h:=h) (next:=next) (D:=D) hk
 refine⟨fun hb=>?_,fun h0=>?_⟩
 ·have:=hR.bad (by rw[h1];exact hb)
  rw[h1] at this;exact this
 ·have:=hR.ok (by rw[h1];exact h0)
  rw[h2 h0] at this;exact this
theorem chgK_id(w h:Int)(e:Ed)(f:LayF):(chgK w h e f).2.id=f.id:=by
 unfold chgK paintF lookF hideF maskF placeF adjustF
 repeat' split
 all_goals rfl
theorem cellsRs_set{rs:List RT}{r:RT}: ∀{k:Nat},k<rs.length→setL (cellsRs rs) (k*19) (cellsR r)=cellsRs (rs.set k r):=by
 intro k hk
 have h1:=cellsRs_take rs k
 have h2:=cellsRs_take rs (k+1)
 unfold setL
 rw[cellsR_len,show k*19+19=(k+1)*19 from by omega,←h1.1,←h2.2,List.set_eq_take_append_cons_drop,if_pos hk,cellsRs_app,cellsRs_cons,List.append_assoc]
theorem c16{D:DocL}{K:Sl3}{rs:List RT}{e:Ed}{s:EdS}(hd:RD H K rs)(hr:Rel D.ks (rwS rs))(hi:Inv D)(hnx:D.next≤1000000000000000)(hed:EdOk H e s)
 (hR:DoR (doL D.w D.h D.next D.ks e) H D.w D.h D.next K rs R):
 CallsH Tryz.prog 16 #[.agg (docA D.w D.h D.next K),.agg (edL e s).toArray] H R:=by
 have hl:=hd.l
 have hids:=hi.ids'
 have hn:=hr.nodup hids
 have hlen:=hl.len
 have hfew:=hl.few
 refine Tryz.s16 ?_
 unfold Tryz.S16
 refine(St.nil H).alc fun b3 H4 hs4=>hs4.alc fun b5 H6 hs6=>hs6.alc fun b7 H8 hs8=>?_
 have hs8:St H H8 [.cell b7 zeroDA 32,.cell b5 (edL e s).toArray 61,.cell b3 (docA D.w D.h D.next K) 32]:=hs8
 have bad: ∀{v:Int} {H1:Heap} {σ':List Rs} (i j:Nat),σ'[i]?=some (.cell b3 (docA D.w D.h D.next K) 32)→σ'[j]?=some (.cell b7 zeroDA 32)→(doL D.w D.h D.next D.ks e).1=v→v≠0→St H H1 σ'→
  ∃v13:Array Value,v13.size=4∧rowIn H1 ⟨b3,0,none⟩ v13∧v13.size=4∧stAt H1 ⟨b7,0,none⟩ (Array.toList v13) fun H_14=> ∃res15:Array Value,res15.size=4∧rowIn H_14 ⟨b7,0,none⟩ res15∧R (Value.tuple #[Value.agg res15,Value.int .i64 v]) H_14:=fun{v H1 σ'} i j h3 h7 hg hv hs1=>
  ⟨docA D.w D.h D.next K,rfl,rowIn_whole (hs1.block i h3),rfl,hs1.putAll j h7 rfl (docA_one _ _ _ _) fun H2 hs2=>⟨docA D.w D.h D.next K,rfl,rowIn_whole (hs2.block j (List.getElem?_set_self (List.getElem?_eq_some_iff.1 h7).1)),hR.err hg hv hs2.ext⟩⟩
 refine⟨e.kind,hs8.get 1 rfl (j:=0) rfl,br_eq (fun k1=>?_) fun k1=>br_eq (fun k2=>?_) fun k2=>br_eq (fun k3=>?_) fun k3=>?_⟩
 ·have hS:=hR.step (by omega)
  rw[show stepL D.w D.h D.next D.ks e=addL D.next D.ks e from by unfold stepL;rw[if_pos k1],show nextL D.next e=D.next+1 from by unfold nextL;rw[if_pos k1]] at hS
  refine⟨_,rfl,rowIn_whole (hs8.block 2 rfl),_,rfl,rowIn_whole (hs8.block 1 rfl),c26 (hl.ext hs8.ext) hr hi hnx ⟨fun hb H' he=>?_,fun h0 q rs' H' τ hrel hs hrr=>?_⟩⟩
  ·exact⟨_,_,rfl,rfl,(hs8.step he).putAll 0 rfl rfl (docA_one _ _ _ _) fun H2 hs2=>⟨_,rfl,rowIn_whole (hs2.block 0 rfl),hS.bad hb H2 hs2.ext⟩⟩
  ·exact⟨_,_,rfl,rfl,(hs8.callR hs).putAll 0 rfl rfl (docA_one _ _ _ _) fun H2 hs2=>⟨_,rfl,rowIn_whole (hs2.block 0 rfl),hS.ok h0 q rs' H2 τ hrel (hs2.drop 3) hrr⟩⟩
 ·have hS:=hR.step (by omega)
  obtain⟨g1,_⟩:=doL_step (w:=D.w) (h:=D.h) (next:=D.next) (D:=D.ks) (e:=e) (by omega)
  have hst:stepL D.w D.h D.next D.ks e=removeL D.ks e.id:=by unfold stepL;rw[if_neg k1,if_pos k2]
  rw[hst] at g1
  rw[hst,show nextL D.next e=D.next from by unfold nextL;rw[if_neg k1]] at hS
  refine⟨_,rfl,rowIn_whole (hs8.block 2 rfl),e.id,hs8.get 1 rfl (j:=1) rfl,c27 (hl.ext hs8.ext) fun H12 he12=>⟨_,rfl,?_⟩⟩
  have hs12:=hs8.step he12
  rcases rel_find hr hids e.id with ⟨hno,hf⟩|⟨fr,u,ks,k,r,hf,hid,hp,hk,e1,e2,hfk⟩
  ·rw[hf]
   exact br_dec (fun _=>bad 2 0 rfl rfl (v:=40) (by rw[g1];unfold removeL;rw[hno]) (by decide) hs12) fun h=>by omega
  rw[hfk]
  have hrm:removeL D.ks e.id=(0,plugL u (fr.pre++fr.post)):=by unfold removeL;rw[hf]
  rw[hrm] at hS
  have hrd':Rel (plugL (fr::u) ks) (rwS rs):=hp▸hr
  have hid':Ids (plugL (fr::u) ks):=hp▸hids
  refine br_dec (fun h=>by omega) fun _=>⟨_,rfl,rowIn_whole (hs12.block 2 rfl),e.id,hs12.get 1 rfl (j:=1) rfl,?_⟩
  rw[←hid]
  refine c28 (hl.ext hs12.ext) hn (fun x=>decide (x.f.id∈subS fr ks)) (fun x hx=>?_) fun q g H43 hq=>⟨_,_,_,_,_,_,rfl,?_⟩
  ·obtain⟨c,hc,_⟩:=(rel_paths hr hids).1 x hx
   exact⟨c,hc,decide_eq_decide.2 (path_in hrd' hid' hc)⟩
  have hs43:=hs12.callR hq
  refine hs43.put 2 rfl (by show 3<4;decide) rfl fun H44 hs44=>⟨docA D.w D.h D.next q,rfl,rowIn_whole (hs44.block 2 rfl),rfl,hs44.putAll 0 rfl rfl (docA_one _ _ _ _) fun H45 hs45=>⟨_,rfl,rowIn_whole (hs45.block 0 rfl),?_⟩⟩
  refine hS.ok rfl q _ H45 [] ?_ ((hs45.drop 3).take 1) fun H'' fps hrs _ x hx=>hrs x (List.mem_filter.1 hx).1
  have h1:=rel_out hrd' hid'
  have h2:=filter_map_rw rs fun x=> !decide (x.f.id∈subS fr ks)
  refine Eq.mpr (congrArg _ h2) ?_
  rw[show(fun r:Rw=>decide (r.f.id∉subS fr ks))=fun x=> !decide (x.f.id∈subS fr ks) from funext fun x=>decide_not] at h1
  exact h1
 ·have hS:=hR.step (by omega)
  rw[show stepL D.w D.h D.next D.ks e=moveL D.ks e from by unfold stepL;rw[if_neg k1,if_neg k2,if_pos k3],show nextL D.next e=D.next from by unfold nextL;rw[if_neg k1]] at hS
  refine⟨_,rfl,rowIn_whole (hs8.block 2 rfl),_,rfl,rowIn_whole (hs8.block 1 rfl),c29 (hl.ext hs8.ext) hr hi ⟨fun hb H' he=>?_,fun h0 q rs' H' τ hrel hs hrr=>?_⟩⟩
  ·exact⟨_,_,rfl,rfl,(hs8.step he).putAll 0 rfl rfl (docA_one _ _ _ _) fun H2 hs2=>⟨_,rfl,rowIn_whole (hs2.block 0 rfl),hS.bad hb H2 hs2.ext⟩⟩
  ·exact⟨_,_,rfl,rfl,(hs8.callR hs).putAll 0 rfl rfl (docA_one _ _ _ _) fun H2 hs2=>⟨_,rfl,rowIn_whole (hs2.block 0 rfl),hS.ok h0 q rs' H2 τ hrel (hs2.drop 3) hrr⟩⟩
 intro J44 hJ44
 have b41:e.kind<1∨e.kind>9→(doL D.w D.h D.next D.ks e).1=41:=fun h=>by unfold doL;rw[if_pos h]
 refine⟨e.kind,hs8.get 1 rfl (j:=0) rfl,br_dec (fun c=>bad 2 0 rfl rfl (v:=41) (b41 (by omega)) (by decide) hs8) fun c4=>?_⟩
 refine⟨e.kind,hs8.get 1 rfl (j:=0) rfl,br_dec (fun c=>bad 2 0 rfl rfl (v:=41) (b41 (by omega)) (by decide) hs8) fun c9=>hJ44 _ ?_⟩
 have hk49:4≤e.kind∧e.kind≤9:=by omega
 have hS:=hR.step (by omega)
 obtain⟨g1,_⟩:=doL_step (w:=D.w) (h:=D.h) (next:=D.next) (D:=D.ks) (e:=e) (by omega)
 rw[step_chg hk49] at g1 hS
 rw[show nextL D.next e=D.next from by unfold nextL;rw[if_neg k1]] at hS
 refine⟨_,rfl,rowIn_whole (hs8.block 2 rfl),e.id,hs8.get 1 rfl (j:=1) rfl,c27 (hl.ext hs8.ext) fun H12 he12=>⟨_,rfl,?_⟩⟩
 have hs12:=hs8.step he12
 rcases rel_find hr hids e.id with ⟨hno,hf⟩|⟨fr,u,ks,k,r,hf,hid,hp,hk,e1,e2,hfk⟩
 ·rw[hf]
  exact br_dec (fun _=>bad 2 0 rfl rfl (v:=40) (by rw[g1,chg_none hno]) (by decide) hs12) fun h=>by omega
 rw[hfk]
 have hkl:=(List.getElem?_eq_some_iff.1 hk).1
 refine br_dec (fun h=>by omega) fun _=>?_
 intro J54 hJ54
 have hras:=hi.ras hf
 have hG: ∀{v x},chgK D.w D.h e r.f=(v,x)→chgL (chgK D.w D.h e) D.ks e.id=(if v≠0 then(v,[]) else(0,plugL (⟨fr.pre,x,fr.post⟩::u) ks)):=fun{v x} hg=>by
  unfold chgL;rw[hf];simp only;rw[←e1,hg]
 have fail: ∀{v:Int} {H1:Heap} {bn:Nat} {σ':List Rs},chgK D.w D.h e r.f=(v,(chgK D.w D.h e r.f).2)→v≠0→St H H1 (.cell bn (cellsR r).toArray 82:: .cell b7 zeroDA 32:: .cell b5 (edL e s).toArray 61:: .cell b3 (docA D.w D.h D.next K) 32::σ')→J54 [.pointer (some ⟨bn,0,none⟩),.int .i64 v] H1:=fun{v H1 bn σ'} hg hv hs1=>by
  refine hJ54 _ _ _ (br_ne (fun _=>bad 3 1 rfl rfl (v:=v) ?_ hv hs1) fun hz=>absurd hz hv)
  rw[g1,hG hg,if_pos hv]
 have done: ∀{H1:Heap} {bn:Nat} {r':RT} {τ:List Rs},(chgK D.w D.h e r.f).1=0→r'.f=(chgK D.w D.h e r.f).2→r'.to=r.to→(∀H'' fps,rdR H'' r→Lie H'' τ fps→rdR H'' r')→St H H1 (.cell bn (cellsR r').toArray 82:: .cell b7 zeroDA 32:: .cell b5 (edL e s).toArray 61:: .cell b3 (docA D.w D.h D.next K) 32::τ)→J54 [.pointer (some ⟨bn,0,none⟩),.int .i64 0] H1:=fun{H1 bn r' τ} h0 hf' hto hrr hs1=>by
  refine hJ54 _ _ _ (br_ne (fun hz=>absurd rfl hz) fun _=>hs1.alc fun b61 H62 hs62=>⟨_,_,_,hs62.get 4 rfl (docA_3 _ _ _ _),?_⟩)
  have hs62':=hs62.toSl 0 (l:=0) (k:=19) (fs:=[]) rfl rfl rfl (by simp)
  refine hs62'.appS 0 rfl ((hl.ext hs62'.ext).sl.rowOf) (by rw[cellsRs_len,hlen]) (cellsRs_one _) (by decide) rfl (by omega) (by omega) fun p' c' H65 hs65=>?_
  rw[List.nil_append,Nat.zero_add] at hs65
  rw[Nat.zero_add]
  have hpos:0<(cellsRs rs).length:=by rw[cellsRs_len];omega
  obtain⟨bp,rfl⟩:=hs65.slSome 0 rfl hpos
  refine hs65.put 4 rfl (by show 3<4;decide) rfl fun H66 hs66=>⟨some ⟨bp,0,none⟩,K.l,c',hs66.get 4 rfl (docA_3 D.w D.h D.next ⟨some ⟨bp,0,none⟩,K.l,c'⟩),(cellsR r').toArray,rfl,rowIn_whole (hs66.block 1 rfl),_,rfl,by omega,by omega,rfl,?_⟩
  rw[Int.toNat_natCast,add_none,Nat.zero_add]
  refine St.slIn hs66 0 rfl (by rw[cellsRs_len];show k*19+19≤_;have:(k+1)*19≤rs.length*19:=Nat.mul_le_mul_right 19 hkl;omega) (by simpa using cellsR_one r') fun H70 hs70=>?_
  rw[show setL (cellsRs rs) (k*19) (cellsR r').toArray.toList=cellsRs (rs.set k r') from cellsRs_set hkl] at hs70
  refine⟨docA D.w D.h D.next ⟨some ⟨bp,0,none⟩,K.l,c'⟩,rfl,rowIn_whole (hs70.block 4 rfl),rfl,hs70.putAll 2 rfl rfl (docA_one _ _ _ _) fun H72 hs72=>⟨_,rfl,rowIn_whole (hs72.block 2 rfl),?_⟩⟩
  have hgl:=hG (v:=0) (x:=r'.f) (by rw[←h0,hf'])
  rw[if_neg (fun hh=>hh rfl)] at hgl
  rw[hgl] at hS
  refine hS.ok rfl ⟨some ⟨bp,0,none⟩,K.l,c'⟩ (rs.set k r') H72 τ ?_ ?_ fun H'' fps hrs hL x hx=>?_
  ·show Rel (plugL (⟨fr.pre,r'.f,fr.post⟩::u) ks) (rwS (rs.set k r'))
   have hsm:=set_map hn (rws_get hk) r'.f
   have:rwS (rs.set k r')=(rwS rs).set k ⟨r'.f,r.rw.to⟩:=by rw[rwS,List.map_set];congr 1;show(⟨r'.f,r'.to⟩:Rw)=_;rw[hto];rfl
   rw[this,hsm,show r.rw.f.id=fr.f.id from by show r.f.id=_;rw[e1]]
   exact rel_set (hp▸hr) (hp▸hids) (by rw[hf',chgK_id,e1])
  ·have h5:=hs72.drop 5
   have h0':=hs72.take 1
   exact(hs72.perm (permC fun _ x=>by simp only[List.set_cons_succ,List.set_cons_zero,List.count_cons];exact(by ac_rfl):List.Perm _ (.cell bn (cellsR r').toArray 82:: .cell b7 (docA D.w D.h D.next ⟨some ⟨bp,0,none⟩,K.l,c'⟩).toList.toArray 32:: .cell b5 (edL e s).toArray 61:: .cell b3 (docA D.w D.h D.next ⟨some ⟨bp,0,none⟩,K.l,c'⟩) 32:: .sl (some ⟨bp,0,none⟩) K.l c' 82 19 (cellsRs (rs.set k r'))::τ))).drop 4
  ·rcases List.mem_or_eq_of_mem_set hx with hx|rfl
   ·exact hrs x hx
   ·exact hrr H'' fps (hrs r (List.mem_of_getElem? hk)) hL
 obtain⟨blk,hpk,hrow⟩:=(hl.ext hs12.ext).row hk
 have hras':okRas r.f:=by rw[e1];exact hras
 have hrdr:rdR H r:=hd.rd r (List.mem_of_getElem? hk)
 refine⟨_,rfl,rowIn_whole (hs12.block 2 rfl),_,_,_,hs12.get 2 rfl (docA_3 _ _ _ _),_,hpk,by omega,by omega,(cellsR r).toArray,rfl,rowR0 hrow,(edL e s).toArray,rfl,rowIn_whole (hs12.block 1 rfl),?_,?_⟩
 ·refine c30 hk49 (hrdr.ext hs12.ext) hras' ⟨hed.rd.ext hs12.ext,hed.shape,hed.params⟩ hi.size ⟨fun hb H' he=>⟨_,_,rfl,?_⟩,fun h0 r' H' τ hf' hto hs hrr=>⟨_,_,rfl,?_⟩⟩
  ·refine(hs12.step he).alc fun b83 H84 hs84=>⟨rfl,hs84.putAll 0 rfl rfl (by simpa using cellsR_one r) fun H85 hs85=>fail rfl hb hs85⟩
  ·refine(hs12.callR hs).alc fun b83 H84 hs84=>⟨rfl,hs84.putAll 0 rfl rfl (by simpa using cellsR_one r') fun H85 hs85=>done h0 hf' hto hrr hs85⟩
 ·refine hs12.alcE fun b86 H87 he87 hs87=>⟨.inl he87,?_⟩
  refine c30 hk49 (hrdr.ext hs87.ext) hras' ⟨hed.rd.ext hs87.ext,hed.shape,hed.params⟩ hi.size ⟨fun hb H' he=>⟨_,_,rfl,rfl,?_⟩,fun h0 r' H' τ hf' hto hs hrr=>⟨_,_,rfl,rfl,?_⟩⟩
  ·exact(hs87.step he).putAll 0 rfl rfl (by simpa using cellsR_one r) fun H92 hs92=>fail rfl hb hs92
  ·exact(hs87.callR hs).putAll 0 rfl rfl (by simpa using cellsR_one r') fun H92 hs92=>done h0 hf' hto hrr hs92
end Go.Proofs
namespace Go.Proofs
open Go.Sh
variable {H0 H:Heap} {σ:List Rs} {R:Value→Heap→Prop}
theorem textOf_eq(xs:List Int):textOf xs=⟨(xs.map fun n=>UInt8.ofNat n.toNat).toArray⟩:=by
 have: ∀(xs:List Int) (r:ByteArray),xs.foldl (fun r n=>r.push (UInt8.ofNat n.toNat)) r=⟨r.data++(xs.map fun n=>UInt8.ofNat n.toNat).toArray⟩:=by
  intro xs
  induction xs with
  |nil=>intro r;cases r;simp
  |cons x xs ih=>
   intro r
   rw[List.foldl_cons,ih]
   cases r
   simp[ByteArray.push]
 unfold textOf
 rw[this]
 simp[ByteArray.empty,ByteArray.emptyWithCapacity]
 rfl
theorem textOf_beq{xs ys:List Int}(hx: ∀c∈xs,0≤c∧c<256)(hy: ∀c∈ys,0≤c∧c<256):(textOf xs==textOf ys)=decide (xs=ys):=by
 have hbq: ∀a b:ByteArray,(a==b)=(a.data==b.data):=fun a b=>by cases a;cases b;rfl
 rw[hbq,textOf_eq,textOf_eq]
 by_cases h:xs=ys
 ·subst h
  rw[decide_eq_true rfl]
  exact(beq_self_eq_true _)
 ·rw[decide_eq_false h]
  rw[Bool.eq_false_iff]
  intro hb
  have h2:(xs.map fun n=>UInt8.ofNat n.toNat)=ys.map fun n=>UInt8.ofNat n.toNat:=by
   have:=eq_of_beq hb
   simpa using this
  refine h ?_
  have: ∀(a b:List Int),(∀c∈a,0≤c∧c<256)→(∀c∈b,0≤c∧c<256)→(a.map fun n=>UInt8.ofNat n.toNat)=(b.map fun n=>UInt8.ofNat n.toNat)→a=b:=by
   intro a
   induction a with
   |nil=>intro b _ _ hh;cases b with
    |nil=>rfl
    |cons=>simp at hh
   |cons x a ih=>
    intro b ha hb hh
    cases b with
    |nil=>simp at hh
    |cons y b=>
     simp only[List.map_cons,List.cons.injEq] at hh
     obtain⟨q1,q2⟩:=hh
     have e1:=ih b (fun c hc=>ha c (List.mem_cons_of_mem _ hc)) (fun c hc=>hb c (List.mem_cons_of_mem _ hc)) q2
     have hx1:=ha x List.mem_cons_self
     have hy1:=hb y List.mem_cons_self
     have q3:=congrArg UInt8.toNat q1
     rw[UInt8.toNat_ofNat',UInt8.toNat_ofNat',Nat.mod_eq_of_lt (by omega),Nat.mod_eq_of_lt (by omega)] at q3
     rw[e1,show x=y from by omega]
  exact this xs ys hx hy h2
theorem IS.bs{H:Heap}{p:Option Addr}{l:Nat}{xs:List Int}(h:IS H p l (kints .u8 xs)):bsOf H p l xs:=by
 cases p with
 |none=>
  exact List.eq_nil_iff_forall_not_mem.2 fun v hv=>by
   obtain⟨i,hi⟩:=List.getElem?_of_mem hv
   obtain⟨a,h1,_⟩:=h.get i _ (kints_get hi)
   cases h1
 |some a=>
  refine⟨h.length,fun j v hv=>?_⟩
  obtain⟨a',h1,h2⟩:=h.get j v (by simpa[kints] using hv)
  cases h1;exact h2
def ptsC(l:List Pt):List Value:=(l.map fun p=>[Value.int .i64 p.1,Value.int .i64 p.2]).flatten
theorem ptsC_len(l:List Pt):(ptsC l).length=l.length*2:=by
 induction l with
 |nil=>rfl
 |cons p l ih=>
  rw[show ptsC (p::l)=[Value.int .i64 p.1,Value.int .i64 p.2]++ptsC l from by simp[ptsC],List.length_append,ih,List.length_cons]
  show 2+l.length*2=(l.length+1)*2
  omega
theorem ptsC_app(a b:List Pt):ptsC (a++b)=ptsC a++ptsC b:=by simp[ptsC]
theorem ptsC_get: ∀{l:List Pt} {i:Nat} {x y:Int},l[i]?=some (x,y)→ ∀{j:Nat} {v:Value},(#[Value.int .i64 x,Value.int .i64 y]:Array Value)[j]?=some v→(ptsC l)[i*2+j]?=some v:=by
 intro l
 induction l with
 |nil=>intro i x y h;simp at h
 |cons p l ih=>
  intro i x y h j v hv
  have hj:j<2:=(Array.getElem?_eq_some_iff.1 hv).1
  rw[show ptsC (p::l)=[Value.int .i64 p.1,Value.int .i64 p.2]++ptsC l from by simp[ptsC]]
  cases i with
  |zero=>
   simp at h
   rw[Nat.zero_mul,Nat.zero_add,List.getElem?_append_left (by exact hj)]
   rw[h]
   simpa using hv
  |succ i=>
   rw[List.getElem?_cons_succ] at h
   rw[List.getElem?_append_right (by simp;omega),show(i+1)*2+j-[Value.int .i64 p.1,Value.int .i64 p.2].length=i*2+j from by simp;omega]
   exact ih h hv
theorem RS.is2{H:Heap}{p:Option Addr}{l:Nat}{el:TypeId}{pts:List Pt}(h:RS H p l el 2 (ptsC pts)):IS2 H p l pts:=by
 have hl:pts.length=l:=by have:=h.len;rw[ptsC_len] at this;omega
 refine⟨hl,fun i x y hi=>?_⟩
 have hil:=(List.getElem?_eq_some_iff.1 hi).1
 obtain⟨blk,h1,h2⟩:=h.row (i:=i) (by omega) (by decide) (xs:=#[.int .i64 x,.int .i64 y]) fun j v hv=>ptsC_get hi hv
 exact⟨_,h1,by rw[add_none,Nat.zero_add];exact h2⟩
theorem c17{e:Ed}{s:EdS}(hed:EdOk H e s)(hR: ∀(s':EdS) H',Ext H H'→EdOk H' e s'→R (.agg (edL e s').toArray) H'):CallsH Tryz.prog 17 #[.agg (edL e s).toArray] H R:=by
 refine Tryz.s17 ?_
 unfold Tryz.S17
 refine(St.nil H).alc fun b2 H3 hs3=>hs3.alc fun b4 H5 hs5=>?_
 refine⟨e.kind,hs5.get 1 rfl (j:=0) rfl,e.id,hs5.get 1 rfl (j:=1) rfl,e.to,hs5.get 1 rfl (j:=2) rfl,e.at_,hs5.get 1 rfl (j:=3) rfl,e.n,hs5.get 1 rfl (j:=4) rfl,e.m,hs5.get 1 rfl (j:=5) rfl,e.x,hs5.get 1 rfl (j:=6) rfl,e.y,hs5.get 1 rfl (j:=7) rfl,e.w,hs5.get 1 rfl (j:=8) rfl,e.h,hs5.get 1 rfl (j:=9) rfl,_,_,_,hs5.get 1 rfl (edL_10 e s),(ints e.map.l).toArray,rfl,edMap (hs5.block 1 rfl),_,_,_,hs5.get 1 rfl (edL_18 e s),rfl,by decide,hs5.alc fun b19 H20 hs20=>⟨rfl,?_⟩⟩
 refine hs20.putAll 0 rfl rfl (by intro v hv;exact edL_one e ⟨s.P,.nil,s.A⟩ v hv) fun H21 hs21=>?_
 have hs21:St H H21 [.cell b19 (edL e ⟨s.P,.nil,s.A⟩).toArray 61,.cell b4 #[Value.int .i64 0,Value.int .i64 0,Value.int .i64 0,Value.int .i64 0,Value.int .i64 0,Value.int .i64 0,Value.int .i64 0,Value.int .i64 0,Value.int .i64 0,Value.int .i64 0,Value.slice none 0 0,Value.slice none 0 0,Value.int .i64 0,Value.int .i64 0,Value.int .i64 0,Value.int .i64 0,Value.int .i64 0,Value.int .i64 0,Value.slice none 0 0] 61,.cell b2 (edL e s).toArray 44]:=hs21
 refine⟨_,_,_,hs21.get 2 rfl (edL_11 e s),?_⟩
 intro X hX
 have hlen:=hed.rd.shape.len
 have hfew:=hed.shape
 have go: ∀k,k≤e.shape.length→ ∀(q:Sl3) H1,St H H1 [.sl q.p q.l q.c 87 2 (ptsC (e.shape.take k)),.cell b19 (edL e ⟨s.P,q,s.A⟩).toArray 61,.cell b4 #[Value.int .i64 0,Value.int .i64 0,Value.int .i64 0,Value.int .i64 0,Value.int .i64 0,Value.int .i64 0,Value.int .i64 0,Value.int .i64 0,Value.int .i64 0,Value.int .i64 0,Value.slice none 0 0,Value.slice none 0 0,Value.int .i64 0,Value.int .i64 0,Value.int .i64 0,Value.int .i64 0,Value.int .i64 0,Value.int .i64 0,Value.slice none 0 0] 61,.cell b2 (edL e s).toArray 44]→X [.int .i64 (k:Nat)] H1:=by
  refine upto fun k hk ih q H1 hs1=>hX _ _ (br_dec (fun hlt=>?_) fun hge=>?_)
  ·have hk':k<e.shape.length:=by omega
   obtain⟨a,hp,hrow⟩:=(hed.rd.shape.ext hs1.ext).row hk'
   have hql:q.l=k:=by have:=(hs1.rs 0 rfl).len;rw[ptsC_len,List.length_take] at this;omega
   refine⟨a,hp,by omega,hlt,ptV (nthP e.shape k),rfl,hrow,hs1.alc fun b28 H29 hs29=>⟨rfl,hs29.putAll 0 rfl rfl (by simp[ptV,Value.oneCell']) fun H30 hs30=>?_⟩⟩
   refine⟨_,_,_,hs30.get 2 rfl (edL_11 e ⟨s.P,q,s.A⟩),(nthP e.shape k).1,hs30.get 0 rfl (j:=0) rfl,(nthP e.shape k).2,hs30.get 0 rfl (j:=1) rfl,rfl,by decide,hs30.alc fun b34 H35 hs35=>?_⟩
   refine hs35.appC 2 0 rfl rfl rfl (by intro v hv;have hv:v∈[Value.int .i64 (nthP e.shape k).1,Value.int .i64 (nthP e.shape k).2]:=hv;simp only[List.mem_cons,List.not_mem_nil,or_false] at hv;rcases hv with rfl|rfl<;>rfl) (by decide) rfl (by show(q.l+1)*16≤_;omega) (by show q.l+1≤_;omega) fun p' c' H37 hs37=>?_
   refine hs37.put 3 rfl (by show 11<19;decide) rfl fun H38 hs38=>?_
   rw[wrap_id (by omega) (by omega)]
   refine ih hk' ⟨p',q.l+1,c'⟩ H38 ?_
   rw[take_succ (List.getElem?_eq_getElem hk'),ptsC_app]
   have:ptsC [e.shape[k]]=(setL [Value.int .i64 0,Value.int .i64 0] 0 (Array.toList #[Value.int .i64 (nthP e.shape k).1,Value.int .i64 (nthP e.shape k).2])).toArray.toList:=by rw[nthP_eq hk'];rfl
   rw[this]
   exact hs38.drop 2
  ·have hkl:k=e.shape.length:=by omega
   subst hkl
   rw[List.take_of_length_le (Nat.le_refl _)] at hs1
   refine⟨(edL e ⟨s.P,q,s.A⟩).toArray,rfl,rowIn_whole (hs1.block 1 rfl),rfl,hs1.putAll 2 rfl rfl (by simpa using edL_one e ⟨s.P,q,s.A⟩) fun H40 hs40=>⟨_,rfl,rowIn_whole (hs40.block 2 rfl),?_⟩⟩
   refine hR ⟨s.P,q,s.A⟩ H40 hs40.ext ⟨⟨hed.rd.p.ext hs40.ext,RS.is2 (hs40.rs 0 rfl),hed.rd.params.ext hs40.ext⟩,hed.shape,hed.params⟩
 exact go 0 (Nat.zero_le _) .nil H21 (hs21.nilSl _ _)
structure EdsR(H:Heap)(p:Option Addr)(l:Nat)(es:List (Ed×EdS)):Prop where
 len:es.length=l
 get: ∀(i:Nat) e s,es[i]?=some (e,s)→ ∃a,p=some a∧rowIn H (a.add (i*19)) (edL e s).toArray∧rdEd H e s
theorem EdsR.ext{H H':Heap}{p:Option Addr}{l:Nat}{es:List (Ed×EdS)}(h:EdsR H p l es)(he:Ext H H'):EdsR H' p l es:=⟨h.len,fun i e s hi=>let ⟨a,h1,h2,h3⟩:=h.get i e s hi;⟨a,h1,rowAt_ext he h2,h3.ext he⟩⟩
def smallE(e:Ed):Bool:=decide (e.p.length≤600∧e.shape.length≤300∧e.params.length≤100∧ ¬(e.kind=1∧e.n=0∧sizedB e.w e.h=true∧e.w*e.h>600))
def smallB(es:List (Ed×EdS))(most:Int):Bool:=decide ((es.length:Int)≤most)&&es.all fun x=>smallE x.1
theorem smallB_ok{es:List (Ed×EdS)}{most:Int}(h:smallB es most=true):(es.length:Int)≤most∧ ∀x∈es,x.1.shape.length≤300∧x.1.params.length≤100:=by
 unfold smallB at h
 rw[Bool.and_eq_true] at h
 exact⟨of_decide_eq_true h.1,fun x hx=>by have:=of_decide_eq_true (List.all_eq_true.1 h.2 x hx);exact⟨this.2.1,this.2.2.1⟩⟩
theorem c9{p:Option Addr}{l c:Nat}{es:List (Ed×EdS)}{most:Int}(h:EdsR H p l es)(hm:most≤1000000)(hR: ∀H',Ext H H'→R (.bool (smallB es most)) H'):CallsH Tryz.prog 9 #[.slice p l c,.int .i64 most] H R:=by
 refine Tryz.s9 ?_
 unfold Tryz.S9
 have hlen:=h.len
 refine br_dec (fun hgt=>?_) fun hle=>?_
 ·have:=hR H (Ext.refl H)
  rw[show smallB es most=false from by unfold smallB;rw[decide_eq_false (by omega),Bool.false_and]] at this;exact this
 intro X hX
 have go: ∀k,k≤es.length→ ∀H1,Ext H H1→(es.take k).all (fun x=>smallE x.1)=true→X [.int .i64 (k:Nat)] H1:=by
  refine upto fun k hk ih H1 he hall=>hX _ _ (br_dec (fun hlt=>?_) fun hge=>?_)
  ·have hk':k<es.length:=by omega
   have hx:=List.getElem?_eq_getElem hk'
   generalize hxe:es[k]=x at hx
   obtain⟨e,s⟩:=x
   obtain⟨a,hp,hrow,hrd⟩:=(h.ext he).get k e s hx
   have hpl:=hrd.p.length
   have hsl:=hrd.shape.len
   have hal:=hrd.params.length
   intro J6 hJ6
   refine⟨a,hp,by omega,hlt,_,rfl,hrow,(St.of_ext he).alc fun b10 H11 hs11=>⟨rfl,hs11.putAll 0 rfl rfl (by simpa using edL_one e s) fun H12 hs12=>?_⟩⟩
   have bad: ∀{H2:Heap},Ext H H2→smallE e=false→R (.bool false) H2:=fun he2 hb=>by
    have:=hR _ he2
    rw[show smallB es most=false from by
     unfold smallB
     rw[show es.all (fun x=>smallE x.1)=false from Bool.eq_false_iff.2 fun hh=>by
      have:=List.all_eq_true.1 hh _ (List.mem_of_getElem? hx)
      rw[hb] at this;cases this]
     rw[Bool.and_false]] at this
    exact this
   have good: ∀{H2:Heap},Ext H H2→smallE e=true→J6 [] H2:=fun he2 hb=>by
    refine hJ6 _ ?_
    rw[wrap_id (by omega) (by omega)]
    refine ih hk' _ he2 ?_
    rw[take_succ hx,List.all_append,hall,Bool.true_and,List.all_cons,List.all_nil,Bool.and_true];exact hb
   refine⟨_,_,_,hs12.get 0 rfl (edL_10 e s),br_dec (fun c=>bad hs12.ext (decide_eq_false (by omega))) fun c1=>?_⟩
   refine⟨_,_,_,hs12.get 0 rfl (edL_11 e s),br_dec (fun c=>bad hs12.ext (decide_eq_false (by omega))) fun c2=>?_⟩
   refine⟨_,_,_,hs12.get 0 rfl (edL_18 e s),br_dec (fun c=>bad hs12.ext (decide_eq_false (by omega))) fun c3=>?_⟩
   have fin: ∀{H2:Heap},Ext H H2→ ¬(e.kind=1∧e.n=0∧sizedB e.w e.h=true∧e.w*e.h>600)→J6 [] H2:=fun he2 hno=>good he2 (decide_eq_true ⟨by omega,by omega,by omega,hno⟩)
   refine⟨e.kind,hs12.get 0 rfl (j:=0) rfl,br_eq (fun k1=>⟨e.n,hs12.get 0 rfl (j:=4) rfl,br_eq (fun n0=>?_) fun n0=>fin hs12.ext fun hh=>n0 hh.2.1⟩) fun k1=>fin hs12.ext fun hh=>k1 hh.1⟩
   refine⟨e.w,hs12.get 0 rfl (j:=8) rfl,e.h,hs12.get 0 rfl (j:=9) rfl,c22 ⟨_,rfl,br_i (fun hb=>?_) fun hb=>fin hs12.ext fun hh=>by rw[hb] at hh;exact absurd hh.2.2.1 (by decide)⟩⟩
   obtain⟨q1,q2,q3,q4,q5⟩:=of_decide_eq_true hb
   refine⟨e.w,hs12.get 0 rfl (j:=8) rfl,e.h,hs12.get 0 rfl (j:=9) rfl,?_⟩
   rw[wrap_area q1 q2 q3 q4]
   refine br_dec (fun hg=>bad hs12.ext (decide_eq_false fun hh=>hh.2.2.2 ⟨k1,n0,hb,hg⟩)) fun hg=>fin hs12.ext fun hh=>hg hh.2.2.2
  ·rw[List.take_of_length_le (by omega)] at hall
   have:=hR H1 he
   rw[show smallB es most=true from by unfold smallB;rw[hall,decide_eq_true (by omega)];rfl] at this;exact this
 exact go 0 (Nat.zero_le _) H (Ext.refl H) rfl
theorem one_eds{b:Nat}{e:Ed}{s:EdS}{ty:TypeId}(hb:H[b]?=some (.cells (edL e s).toArray ty))(hrd:rdEd H e s):EdsR H (some ⟨b,0,none⟩) 1 [(e,s)]:=
 ⟨rfl,fun i e' s' hi=>by
  cases i with
  |zero=>
   simp at hi
   obtain⟨rfl,rfl⟩:=hi
   exact⟨_,rfl,by rw[add_none];exact rowIn_whole hb,hrd⟩
  |succ i=>simp at hi⟩
theorem c98{p q:Option Addr}{l m c d:Nat}{xs ys:List Int}(hx:IS H p l (ints xs))(hy:IS H q m (ints ys))(hl:l≤1000000000000)(hR:R (.bool (decide (xs=ys))) H):CallsH Tryz.prog 98 #[.slice p l c,.slice q m d] H R:=by
 refine Tryz.s98 ?_
 unfold Tryz.S98
 have hxl:=hx.length
 have hyl:=hy.length
 have bad:xs≠ys→R (.bool false) H:=fun h=>by rw[decide_eq_false h] at hR;exact hR
 refine br_ne (fun hne=>bad fun h=>hne (by rw[h] at hxl;omega)) fun he=>?_
 intro X hX
 have go: ∀k,k≤l→xs.take k=ys.take k→X [.int .i64 (k:Nat)] H:=by
  refine upto fun k hk ih heq=>hX _ _ (br_dec (fun hlt=>?_) fun hge=>?_)
  ·have hk':k<l:=by omega
   have h1:=List.getElem?_eq_getElem (show k<xs.length by omega)
   have h2:=List.getElem?_eq_getElem (show k<ys.length by omega)
   refine hx.rd (i:=(k:Int)) (x:=xs[k]) (by omega) hlt (by rw[Int.toNat_natCast];exact h1) (hy.rd (i:=(k:Int)) (x:=ys[k]) (by omega) (by omega) (by rw[Int.toNat_natCast];exact h2) (br_ne (fun hne=>bad fun h=>hne ?_) fun hee=>?_))
   ·subst h;rfl
   ·rw[wrap_id (by omega) (by omega)]
    exact ih hk' ((eq_take heq h1 h2).2 hee)
  ·rw[List.take_of_length_le (by omega),List.take_of_length_le (by omega)] at heq
   rw[decide_eq_true heq] at hR;exact hR
 exact go 0 (by omega) (by simp)
def okM(f:LayF):Prop:=f.p.length≤1000000000∧f.params.length≤1000000000∧ ∀c∈f.mask,0≤c∧c<256
theorem goodF.okM{w h next:Int}{f:LayF}(hg:goodF w h next f):Go.Proofs.okM f:=by
 refine⟨?_,?_,fun c hc=>by rcases hg.maskV c hc with h|h<;>omega⟩
 ·by_cases hk:f.kind=0
  ·have h1:=(hg.ras hk).2.1;have h2:=(of_decide_eq_true (hg.ras hk).1).2.2.2.2;omega
  ·rw[(hg.bare hk).2.2.1];simp
 ·by_cases hk:f.kind=2
  ·have:=hg.tab
   have hk2:=tabB_kind this
   unfold kindP at hk2
   split at hk2
   ·have:=of_decide_eq_true hk2;omega
   ·split at hk2
    ·have:=of_decide_eq_true hk2;omega
    ·split at hk2
     ·have:=of_decide_eq_true hk2;omega
     ·split at hk2
      ·have:=of_decide_eq_true hk2;omega
      ·cases hk2
  ·rw[(hg.plain hk).2];simp
theorem c68{t:T}{r:RT}(ht:rdT H t)(hr:rdR H r)(mt:okM t.f)(mr:okM r.f)(hR: ∀H',Ext H H'→R (.bool (decide (t.f=r.f))) H'):CallsH Tryz.prog 68 #[.agg (cellsT t).toArray,.agg (cellsR r).toArray] H R:=by
 cases t with|mk f P M A K ks=>
 obtain⟨htp,htm,hta,_⟩:=ht
 obtain⟨g,to,P2,M2,A2⟩:=r
 have mt:okM f:=mt
 have mr:okM g:=mr
 have hR: ∀H',Ext H H'→R (.bool (decide (f=g))) H':=hR
 refine Tryz.s68 ?_
 unfold Tryz.S68
 refine(St.nil H).alc fun b3 H4 hs4=>hs4.alc fun b5 H6 hs6=>?_
 have bad:f≠g→ ∀{H':Heap},Ext H H'→R (.bool false) H':=fun h H' he=>by have:=hR H' he;rw[decide_eq_false h] at this;exact this
 intro J7 hJ7
 refine⟨f.id,hs6.get 1 rfl (j:=0) rfl,g.id,hs6.get 0 rfl (j:=0) rfl,br_ne (fun h=>bad (fun e=>h (by rw[e])) hs6.ext) fun h1=>?_⟩
 refine⟨f.kind,hs6.get 1 rfl (j:=1) rfl,g.kind,hs6.get 0 rfl (j:=1) rfl,br_ne (fun h=>bad (fun e=>h (by rw[e])) hs6.ext) fun h2=>?_⟩
 refine⟨f.hidden,hs6.get 1 rfl (j:=2) rfl,g.hidden,hs6.get 0 rfl (j:=3) rfl,br_not (fun h=>bad (fun e=>by rw[e] at h;simp at h) hs6.ext) fun h3=>?_⟩
 refine⟨f.opacity,hs6.get 1 rfl (j:=3) rfl,g.opacity,hs6.get 0 rfl (j:=4) rfl,br_ne (fun h=>bad (fun e=>h (by rw[e])) hs6.ext) fun h4=>?_⟩
 refine⟨f.mode,hs6.get 1 rfl (j:=4) rfl,g.mode,hs6.get 0 rfl (j:=5) rfl,br_ne (fun h=>bad (fun e=>h (by rw[e])) hs6.ext) fun h5=>?_⟩
 refine⟨f.w,hs6.get 1 rfl (j:=5) rfl,g.w,hs6.get 0 rfl (j:=6) rfl,br_ne (fun h=>bad (fun e=>h (by rw[e])) hs6.ext) fun h6=>?_⟩
 refine⟨f.h,hs6.get 1 rfl (j:=6) rfl,g.h,hs6.get 0 rfl (j:=7) rfl,br_ne (fun h=>bad (fun e=>h (by rw[e])) hs6.ext) fun h7=>?_⟩
 have row6: ∀{b:Nat} {cs:Array Value} {ty:TypeId} {k:Nat} {m:M6},H6[b]?=some (.cells cs ty)→(∀j:Nat,j<6→cs[k+j]?=(ints m.l)[j]?)→rowIn H6 (Addr.add ⟨b,0,none⟩ k) (ints m.l).toArray:=fun{b cs ty k m} hb hc j v hv=>by
  rw[List.getElem?_toArray] at hv
  have hj:j<6:=(List.getElem?_eq_some_iff.1 hv).1
  rw[add_none,add_none]
  exact cell_get hb (by rw[Nat.zero_add,hc j hj];exact hv)
 have six: ∀{P:Nat→Prop},P 0→P 1→P 2→P 3→P 4→P 5→ ∀j,j<6→P j:=fun p0 p1 p2 p3 p4 p5 j hj=>by
  obtain rfl|rfl|rfl|rfl|rfl|rfl:j=0∨j=1∨j=2∨j=3∨j=4∨j=5:=by omega
  all_goals assumption
 refine⟨(ints f.map.l).toArray,rfl,row6 (hs6.block 1 rfl) (six rfl rfl rfl rfl rfl rfl),(ints g.map.l).toArray,rfl,row6 (hs6.block 0 rfl) (six rfl rfl rfl rfl rfl rfl),rfl,f.map.l,g.map.l,rfl,rfl,rfl,rfl,br_not (fun h=>bad (fun e=>?_) hs6.ext) fun h8=>?_⟩
 ·have:=of_decide_eq_false h;exact this (by rw[e])
 have h8:=M6_l.1 (of_decide_eq_true h8)
 refine⟨f.smooth,hs6.get 1 rfl (j:=15) rfl,g.smooth,hs6.get 0 rfl (j:=16) rfl,br_not (fun h=>bad (fun e=>by rw[e] at h;simp at h) hs6.ext) fun h9=>?_⟩
 refine⟨f.table,hs6.get 1 rfl (j:=16) rfl,g.table,hs6.get 0 rfl (j:=17) rfl,br_ne (fun h=>bad (fun e=>h (by rw[e])) hs6.ext) fun h10=>hJ7 _ ?_⟩
 have hpl:=htp.length
 have hal:=hta.length
 obtain⟨m1,m2,m3⟩:=mt
 refine⟨P.p,P.l,P.c,hs6.get 1 rfl (j:=7) rfl,P2.p,P2.l,P2.c,hs6.get 0 rfl (j:=8) rfl,c98 (htp.ext hs6.ext) (hr.p.ext hs6.ext) (by omega) ⟨_,rfl,br_dec (fun h11=>?_) fun h=>bad (fun e=>h (by rw[e])) hs6.ext⟩⟩
 refine⟨M.p,M.l,M.c,hs6.get 1 rfl (j:=8) rfl,f.mask,IS.bs (htm.ext hs6.ext),M2.p,M2.l,M2.c,hs6.get 0 rfl (j:=9) rfl,g.mask,IS.bs (hr.mask.ext hs6.ext),?_⟩
 rw[textOf_beq m3 mr.2.2]
 refine br_dec (fun h12=>?_) fun h=>bad (fun e=>h (by rw[e])) hs6.ext
 refine⟨A.p,A.l,A.c,hs6.get 1 rfl (j:=17) rfl,A2.p,A2.l,A2.c,hs6.get 0 rfl (j:=18) rfl,c98 (hta.ext hs6.ext) (hr.params.ext hs6.ext) (by omega) ⟨_,rfl,?_⟩⟩
 have h3:f.hidden=g.hidden:=by simpa using h3
 have h9:f.smooth=g.smooth:=by simpa using h9
 have:=hR H6 hs6.ext
 have e:decide (f=g)=decide (f.params=g.params):=decide_eq_decide.2 ⟨fun h=>by rw[h],fun h=>by
  cases f;cases g
  simp only at h1 h2 h3 h4 h5 h6 h7 h8 h9 h10 h11 h12 h
  simp[h1,h2,h3,h4,h5,h6,h7,h8,h9,h10,h11,h12,h]⟩
 rw[e] at this;exact this
end Go.Proofs
namespace Go.Proofs
open Go.Sh
variable {H0 H:Heap} {σ:List Rs} {R:Value→Heap→Prop}
theorem kidsZ_row{g:Int}{L:List Rw}{i:Nat}{w:Int}(h:(kidsZ g L)[i]?=some w): ∃k:Nat,w=k∧k<L.length∧L[k]?=(ofG g L)[i]?:=by
 rw[kidsZ,List.getElem?_map] at h
 cases hk:(kidsI g 0 L)[i]? with
 |none=>rw[hk] at h;cases h
 |some k=>
  rw[hk] at h
  cases h
  obtain⟨A,r,B,h1,h2,h3,h4⟩:=kidsI_at hk
  refine⟨k,rfl,?_,?_⟩
  ·rw[h1,List.length_append,List.length_cons];omega
  ·rw[h1,ofG_app,ofG_cons_eq h3,List.getElem?_append_right (by omega),List.getElem?_append_right (by omega),show k-A.length=0 from by omega,show i-(ofG g A).length=0 from by omega]
   rfl
theorem likeKs_take{L:List Rw}: ∀{ts:List Lay} {k:Nat} {t:Lay},likeKs L (ts.take k)=true→ts[k]?=some t→likeKs L (ts.take (k+1))=likeT L t:=by
 intro ts
 induction ts with
 |nil=>intro k t _ h;simp at h
 |cons a ts ih=>
  intro k t h1 h2
  cases k with
  |zero=>
   simp at h2;subst h2
   rw[List.take_succ_cons,List.take_zero,likeKs,likeKs,Bool.and_true]
  |succ k=>
   rw[List.getElem?_cons_succ] at h2
   rw[List.take_succ_cons,likeKs,Bool.and_eq_true] at h1
   rw[List.take_succ_cons,likeKs,h1.1,Bool.true_and]
   exact ih h1.2 h2
theorem likeKs_false{L:List Rw}{ts:List Lay}{t:Lay}(ht:t∈ts)(h:likeT L t=false):likeKs L ts=false:=by
 induction ts with
 |nil=>cases ht
 |cons a ts ih=>
  rw[likeKs]
  rcases List.mem_cons.1 ht with rfl|ht
  ·rw[h,Bool.false_and]
  ·rw[ih ht,Bool.and_false]
def LikeOk(rs:List RT)(w h next:Int)(Kd:Sl3)(t:T):Prop:= ∀{H:Heap} {R:Value→Heap→Prop},rdT H t→gKs okM (layKs t.kids)→RD H Kd rs→(∀H',Ext H H'→R (.bool (likeG (rwS rs) t.f.id (layKs t.kids))) H')→
 CallsH Tryz.prog 35 #[t.K.v,.agg (docA w h next Kd),.int .i64 t.f.id] H R
theorem kids_of{rs:List RT}{w h next:Int}{Kd:Sl3}(mr: ∀r∈rs,okM r.f){ks:List T}(ih: ∀t∈ks,LikeOk rs w h next Kd t){K:Sl3}{to:Int}(hg:grp H K ks)(hm:gKs okM (layKs ks))(hd:RD H Kd rs)(hR: ∀H',Ext H H'→R (.bool (likeG (rwS rs) to (layKs ks))) H'):
 CallsH Tryz.prog 35 #[K.v,.agg (docA w h next Kd),.int .i64 to] H R:=by
 show CallsH Tryz.prog 35 #[.slice K.p K.l K.c,.agg (docA w h next Kd),.int .i64 to] H R
 refine Tryz.s35 ?_
 unfold Tryz.S35
 have hKl:=hg.1.1
 have hdl:=hd.l.len
 have hfew:=hd.l.few
 refine(St.nil H).alc fun b4 H5 hs5=>⟨docA w h next Kd,rfl,rowIn_whole (hs5.block 0 rfl),c48 (hd.l.ext hs5.ext) fun q H8 hq=>⟨q.p,q.l,q.c,rfl,?_⟩⟩
 have hs8:=hs5.callR hq
 have hqi:=hq.is 0 rfl
 have hql:q.l=(ofG to (rwS rs)).length:=by have:=hqi.len;rw[ints_len,kidsZ_len] at this;exact this.symm
 have hle:=kidsZ_le to (rwS rs)
 rw[kidsZ_len,rwS_len] at hle
 have bad:likeG (rwS rs) to (layKs ks)=false→ ∀{H':Heap},Ext H H'→R (.bool false) H':=fun hb H' he=>by have:=hR H' he;rw[hb] at this;exact this
 refine br_ne (fun hne=>bad ?_ hs8.ext) fun he=>?_
 ·unfold likeG
  rw[decide_eq_false (fun hh=>by have:=congrArg List.length hh;rw[List.length_map,List.length_map,layKs_len] at this;omega),Bool.false_and]
 have he:K.l=q.l:=by omega
 intro X10 hX10
 have go: ∀k,k≤ks.length→ ∀H1,St H H1 [.cell b4 (docA w h next Kd) 32,.sl q.p q.l q.c 3 1 (ints (kidsZ to (rwS rs)))]→((layKs ks).map Lay.f).take k=((ofG to (rwS rs)).map Rw.f).take k→likeKs (rwS rs) ((layKs ks).take k)=true→X10 [.int .i64 (k:Nat)] H1:=by
  refine upto fun k hk ih2 H1 hs1 heq hlk=>hX10 _ _ (br_dec (fun hlt=>?_) fun hge=>?_)
  ·have hk':k<ks.length:=by omega
   have ht:=List.getElem?_eq_getElem hk'
   have htm:=List.getElem_mem hk'
   generalize ks[k]=t at ht htm
   obtain⟨a,h1,h2,h3⟩:=(hg.ext hs1.ext).get ht
   have hkz:k<(kidsZ to (rwS rs)).length:=by rw[kidsZ_len];omega
   have hz:=List.getElem?_eq_getElem hkz
   generalize (kidsZ to (rwS rs))[k]=z at hz
   obtain⟨m,rfl,hml,hrow⟩:=kidsZ_row hz
   rw[rwS_len] at hml
   have hx:=List.getElem?_eq_getElem hml
   generalize rs[m]=r at hx
   rw[rws_get hx] at hrow
   obtain⟨blk,hpk,hrw⟩:=(hd.l.ext hs1.ext).row hx
   have htl:=layKs_get ht
   have h1f:((layKs ks).map Lay.f)[k]?=some t.f:=by rw[List.getElem?_map,htl];show some (layT t).f=_;rw[layT_f]
   have h2f:((ofG to (rwS rs)).map Rw.f)[k]?=some r.f:=by rw[List.getElem?_map,←hrow];rfl
   have hgt:gT okM (layT t):=gKs_iff.1 hm _ (List.mem_of_getElem? htl)
   have htf:okM t.f:=by have:=hgt;cases t with|mk f P M A K' ks'=>exact this.1
   have hgk:gKs okM (layKs t.kids):=by have:=hgt;cases t with|mk f P M A K' ks'=>exact this.2.2
   refine⟨a,h1,by omega,hlt,(cellsT t).toArray,by simp[cellsT_len],h2,hs1.alc fun b15 H16 hs16=>⟨by simp[cellsT_len],hs16.putAll 0 rfl (by simp[cellsT_len]) (by simpa using cellsT_one t) fun H17 hs17=>?_⟩⟩
   obtain⟨ad,hap,hac⟩:=(hs17.is 2 rfl).get _ _ (ints_get hz)
   refine⟨(cellsT t).toArray,by simp[cellsT_len],rowIn_whole (hs17.block 0 rfl),_,_,_,hs17.get 1 rfl (docA_3 _ _ _ _),ad,hap,by omega,by omega,(m:Int),by rw[Nat.mul_one];exact hac,_,hpk,by omega,by omega,(cellsR r).toArray,rfl,?_,?_⟩
   ·obtain⟨blk2,hpk2,hrw2⟩:=(hd.l.ext hs17.ext).row hx
    rw[hpk] at hpk2;cases hpk2
    exact rowR0 hrw2
   have hrm:=List.mem_of_getElem? hx
   refine c68 (rdT.ext hs17.ext _ (rdKs_iff.1 hg.2 _ htm)) ((hd.rd r hrm).ext hs17.ext) htf (mr r hrm) fun H25 he25=>⟨_,rfl,br_not (fun hf=>bad ?_ (hs17.ext.trans he25)) fun hf=>?_⟩
   ·have hf:=of_decide_eq_false hf
    unfold likeG
    rw[decide_eq_false fun hh=>hf ?_,Bool.false_and]
    rw[hh,h2f] at h1f
    exact(Option.some.inj h1f).symm
   have hf:=of_decide_eq_true hf
   have hs25:=hs17.step he25
   have h0:Sh.cell H25 (Addr.add ⟨b15,0,none⟩ 0)=some (.int .i64 t.f.id):=hs25.get 0 rfl (j:=0) (cellsT_0 t)
   refine⟨_,_,_,hs25.get 0 rfl (j:=18) (cellsT_18 t),docA w h next Kd,rfl,rowIn_whole (hs25.block 1 rfl),t.f.id,h0,ih t htm (rdT.ext hs25.ext _ (rdKs_iff.1 hg.2 _ htm)) hgk (hd.ext hs25.ext) fun H31 he31=>⟨_,rfl,br_not (fun hb=>bad ?_ (hs25.ext.trans he31)) fun hb=>?_⟩⟩
   ·unfold likeG
    rw[likeKs_false (List.mem_of_getElem? htl) ?_,Bool.and_false]
    cases t with|mk f P M A K' ks'=>exact hb
   ·rw[wrap_id (by omega) (by omega)]
    refine ih2 hk' H31 ((hs25.step he31).drop 1) ((eq_take heq h1f h2f).2 hf) ?_
    rw[likeKs_take hlk htl]
    cases t with|mk f P M A K' ks'=>exact hb
  ·have:k=ks.length:=by omega
   subst this
   rw[List.take_of_length_le (by rw[List.length_map,layKs_len];exact Nat.le_refl _),List.take_of_length_le (by rw[List.length_map];omega)] at heq
   rw[List.take_of_length_le (by rw[layKs_len];exact Nat.le_refl _)] at hlk
   have:=hR H1 hs1.ext
   rw[show likeG (rwS rs) to (layKs ks)=true from by unfold likeG;rw[hlk,decide_eq_true heq];rfl] at this
   exact this
 exact go 0 (by omega) H8 hs8 (by simp) (by rw[List.take_zero];rfl)
theorem kids_all{rs:List RT}{w h next:Int}{Kd:Sl3}(mr: ∀r∈rs,okM r.f): ∀t,LikeOk rs w h next Kd t:=T.ind fun f P M A K ks ih=>fun{H R} hr hm hd hR=>kids_of mr ih (rdT.grp hr) hm hd hR
def likeD(D:DocL)(w h next:Int)(L:List Rw):Bool:=decide (D.w=w)&&(decide (D.h=h)&&(decide (D.next=next)&&likeG L 0 D.ks))
theorem c19{A:Array Value}{D:DocL}{w h next:Int}{Kd:Sl3}{rs:List RT}(ha:DocR H A D)(hm:gKs okM D.ks)(hd:RD H Kd rs)(mr: ∀r∈rs,okM r.f)(hR: ∀H',Ext H H'→R (.bool (likeD D w h next (rwS rs))) H'):
 CallsH Tryz.prog 19 #[.agg A,.agg (docA w h next Kd)] H R:=by
 obtain⟨K,ks,rfl,hg,hl⟩:=ha
 refine Tryz.s19 ?_
 unfold Tryz.S19
 refine(St.nil H).alc fun b3 H4 hs4=>hs4.alc fun b5 H6 hs6=>?_
 have bad:likeD D w h next (rwS rs)=false→R (.bool false) H6:=fun hb=>by have:=hR H6 hs6.ext;rw[hb] at this;exact this
 refine⟨D.w,hs6.get 1 rfl (j:=0) rfl,w,hs6.get 0 rfl (j:=0) rfl,br_eq (fun h1=>?_) fun h1=>bad (by unfold likeD;rw[decide_eq_false h1,Bool.false_and])⟩
 refine⟨D.h,hs6.get 1 rfl (j:=1) rfl,h,hs6.get 0 rfl (j:=1) rfl,br_eq (fun h2=>?_) fun h2=>bad (by unfold likeD;rw[decide_eq_false h2,Bool.false_and,Bool.and_false])⟩
 refine⟨D.next,hs6.get 1 rfl (j:=2) rfl,next,hs6.get 0 rfl (j:=2) rfl,br_eq (fun h3=>?_) fun h3=>bad (by unfold likeD;rw[decide_eq_false h3,Bool.false_and,Bool.and_false,Bool.and_false])⟩
 refine⟨K.p,K.l,K.c,hs6.get 1 rfl (j:=3) rfl,docA w h next Kd,rfl,rowIn_whole (hs6.block 0 rfl),?_⟩
 refine kids_of mr (fun t _=>kids_all mr t) (hg.ext hs6.ext) (by rw[hl];exact hm) (hd.ext hs6.ext) fun H16 he16=>⟨_,rfl,?_⟩
 have:=hR H16 (hs6.ext.trans he16)
 unfold likeD at this
 rw[decide_eq_true h1,decide_eq_true h2,decide_eq_true h3,←hl] at this
 exact this
theorem likeD_iff{D E:DocL}{L:List Rw}(hr:Rel E.ks L)(hi:Ids E.ks):likeD D E.w E.h E.next L=true↔D=E:=by
 unfold likeD
 simp only[Bool.and_eq_true,decide_eq_true_iff,like_iff hr hi]
 constructor
 ·rintro⟨h1,h2,h3,h4⟩;cases D;cases E;simp_all
 ·intro h;subst h;exact⟨rfl,rfl,rfl,rfl⟩
theorem Inv.okM{D:DocL}(h:Inv D):gKs Go.Proofs.okM D.ks:=gKs_imp (fun f hg=>hg.okM) h.good
theorem gKs_flat{G:LayF→Prop}{ts:List Lay}(h:gKs G ts): ∀(g:Int) (x:Rw),x∈flatKs g ts→G x.f:=by
 have key: ∀t,gT G t→ ∀(g:Int) (x:Rw),x∈flatT g t→G x.f:=Lay.ind fun f ks ih hg g x hx=>by
  rw[gT] at hg
  rw[flatT] at hx
  rcases List.mem_cons.1 hx with rfl|hx
  ·exact hg.1
  ·have: ∀(us:List Lay),(∀t∈us,t∈ks)→gKs G us→x∈flatKs f.id us→G x.f:=by
    intro us
    induction us with
    |nil=>intro _ _ hx;cases hx
    |cons t us ih2=>
     intro hm hg2 hx
     rw[gKs] at hg2
     rw[flatKs] at hx
     rcases List.mem_append.1 hx with hx|hx
     ·exact ih t (hm t List.mem_cons_self) hg2.1 _ x hx
     ·exact ih2 (fun t ht=>hm t (List.mem_cons_of_mem _ ht)) hg2.2 hx
   exact this ks (fun _ h=>h) hg.2.2 hx
 intro g x hx
 induction ts with
 |nil=>cases hx
 |cons t ts ih=>
  rw[gKs] at h
  rw[flatKs] at hx
  rcases List.mem_append.1 hx with hx|hx
  ·exact key t h.1 g x hx
  ·exact ih h.2 hx
theorem Rel.okM{D:DocL}(h:Inv D){rs:List RT}(hr:Rel D.ks (rwS rs)): ∀r∈rs,Go.Proofs.okM r.f:=fun r hm=>gKs_flat h.okM 0 r.rw (hr.mem.1 (List.mem_map.2 ⟨r,hm,rfl⟩))
end Go.Proofs
namespace Go.Sh
variable {H0 H H':Heap} {σ τ:List Rs}
def Rs.pers(Q:Heap→Prop):Rs where
 at_ H fp:=(∀b∈fp,b<H.size)∧ ∀H',(∀b∈fp,∀o,H[b]?=some o→H'[b]?=some o)→Q H'
 loc:=fun{H H' fp} h hk=>⟨fun b hb=>by
  have hlt:=h.1 b hb
  exact lt_of_get (hk b hb _ (Array.getElem?_eq_getElem hlt)),fun H'' hk2=>h.2 H'' fun b hb o ho=>hk2 b hb o (hk b hb o ho)⟩
 has h:=h.1
theorem St.persGet(hs:St H0 H σ)(i:Nat){Q:Heap→Prop}(hi:σ[i]?=some (.pers Q)):Q H:=by
 obtain⟨_,fps,hl,_⟩:=hs
 obtain⟨fp,_,h⟩:=hl.get hi
 exact h.2 H fun b _ o ho=>ho
theorem St.persIn{τ:List Rs}{Q:Heap→Prop}(hs:St H0 H (τ++σ))(hq: ∀H' fps,Lie H' τ fps→Q H'):St H0 H (.pers Q::σ):=by
 obtain⟨he,fps,hl,hn,hb⟩:=hs
 obtain⟨a,b,rfl,h1,h2⟩:=hl.split
 refine⟨he,a.flatten::b,⟨⟨h1.has,fun H' hk=>hq H' a (h1.loc hk)⟩,h2⟩,by simpa using hn,fun x hx=>hb x (by simpa using hx)⟩
theorem Ext.empty(H:Heap):Ext #[] H:=fun b o h=>by simp at h
theorem St.persOf{Q:Heap→Prop}(hs:St H0 H (τ++σ))(hq: ∀H',St #[] H' τ→Q H'):St H0 H (.pers Q::σ):=by
 obtain⟨he,fps,hl,hn,hb⟩:=hs
 obtain⟨a,b,rfl,h1,h2⟩:=hl.split
 have hna:a.flatten.Nodup:=by rw[List.flatten_append,List.nodup_append] at hn;exact hn.1
 refine⟨he,a.flatten::b,⟨⟨h1.has,fun H' hk=>hq H' ⟨Ext.empty H',a,h1.loc hk,hna,fun x _=>Nat.zero_le x⟩⟩,h2⟩,by simpa using hn,fun x hx=>hb x (by simpa using hx)⟩
end Go.Sh
namespace Go.Proofs
open Go.Sh
variable {H0 H:Heap} {σ:List Rs} {R:Value→Heap→Prop}
def poolRs(L:List (Sl3×List RT)):Rs:= .pers fun H=> ∀x∈L,RD H x.1 x.2
theorem _root_.Go.Sh.St.pool(hs:St H0 H σ)(i:Nat){L:List (Sl3×List RT)}(hi:σ[i]?=some (poolRs L)){K:Sl3}{rs:List RT}(hm:(K,rs)∈L):RD H K rs:=hs.persGet i hi (K,rs) hm
def nxt(D:DocL)(e:Ed):DocL:=if (doD D e).1=0 then(doD D e).2 else D
theorem nxt_inv{D:DocL}(h:Inv D)(e:Ed):Inv (nxt D e):=by
 unfold nxt
 split
 ·rename_i h0;exact do_inv h h0
 ·exact h
theorem nxt_next{D:DocL}(e:Ed):(nxt D e).next≤D.next+1:=by
 unfold nxt
 split
 ·rename_i h0;exact(do_next h0).2.1
 ·omega
theorem doD_eq{D:DocL}{e:Ed}:(doD D e).1=(doL D.w D.h D.next D.ks e).1∧((doD D e).1=0→(doD D e).2=⟨D.w,D.h,(doL D.w D.h D.next D.ks e).2.1,(doL D.w D.h D.next D.ks e).2.2⟩):=by
 unfold doD
 by_cases h0:(doL D.w D.h D.next D.ks e).1=0
 ·rw[if_neg (fun hh=>hh h0)];exact⟨h0.symm,fun _=>rfl⟩
 ·rw[if_pos h0];exact⟨rfl,fun hh=>absurd hh h0⟩
theorem rdo_st{D:DocL}{e:Ed}{s:EdS}{K:Sl3}{rs:List RT}{L:List (Sl3×List RT)}(hs:St H0 H σ)(i:Nat)(hi:σ[i]?=some (poolRs L))(hm:(K,rs)∈L)(hr:Rel D.ks (rwS rs))(hv:Inv D)(hnx:D.next≤1000000000000000)(hed:EdOk H e s)
 (hR: ∀(q:Sl3) rs' L' H',(q,rs')∈L'→(∀x∈L,x∈L')→Rel (nxt D e).ks (rwS rs')→Ext H H'→St H0 H' (σ.set i (poolRs L'))→R (.tuple #[.agg (docA (nxt D e).w (nxt D e).h (nxt D e).next q),.int .i64 (doD D e).1]) H'):
 CallsH Tryz.prog 16 #[.agg (docA D.w D.h D.next K),.agg (edL e s).toArray] H R:=by
 obtain⟨e1,e2⟩:=doD_eq (D:=D) (e:=e)
 refine c16 (hs.pool i hi hm) hr hv hnx hed ⟨fun hb H' he=>?_,fun h0 q rs' H' τ hrel hst hrr=>?_⟩
 ·have hn:nxt D e=D:=by unfold nxt;rw[if_neg (by rw[e1];exact hb)]
  have:=hR K rs L H' hm (fun x hx=>hx) (by rw[hn];exact hr) he (by
   have hself:σ.set i (poolRs L)=σ:=by
    obtain⟨h1,h2⟩:=List.getElem?_eq_some_iff.1 hi
    rw[←h2,List.set_getElem_self]
   rw[hself];exact hs.step he)
  rw[hn,e1] at this;exact this
 ·have hn:nxt D e=⟨D.w,D.h,(doL D.w D.h D.next D.ks e).2.1,(doL D.w D.h D.next D.ks e).2.2⟩:=by unfold nxt;rw[if_pos (by rw[e1];exact h0),e2 (by rw[e1];exact h0)]
  have he:Ext H H':=hst.ext
  have hc:=hs.call hst
  have hfew:rs'.length≤1000000:=by
   have hiv:=nxt_inv hv e
   rw[hn] at hiv
   have h1:=hrel.len
   have h2:=hiv.cnt
   rw[rwS_len] at h1
   have h2:cntKs (doL D.w D.h D.next D.ks e).2.2≤4096:=h2
   omega
  have hst2:St H0 H' (σ.set i (poolRs ((q,rs')::L))):=by
   have hp:(Rs.sl q.p q.l q.c 82 19 (cellsRs rs')::τ++σ).Perm ((Rs.sl q.p q.l q.c 82 19 (cellsRs rs')::τ++[poolRs L])++σ.eraseIdx i):=by
    rw[List.append_assoc]
    exact List.Perm.append_left _ ((perm_front σ i hi).1)
   have h1:=St.persIn (Q:=fun H=> ∀x∈(q,rs')::L,RD H x.1 x.2) (hc.perm hp) fun H'' fps hL x hx=>by
    obtain⟨a,b,_,hL1,hL2⟩:=hL.split
    obtain⟨fp,hfp,hat⟩:=hL2.get (i:=0) rfl
    have hold: ∀x∈L,RD H'' x.1 x.2:=hat.2 H'' fun b _ o ho=>ho
    rcases List.mem_cons.1 hx with rfl|hx
    ·have hK:=hold (K,rs) hm
     match a,hL1 with
     |f::a,hL1=>exact⟨FS.rl hL1.1.1 hfew,hrr H'' a hK.rd hL1.2⟩
    ·exact hold x hx
   exact h1.back hi
  have:=hR q rs' _ H' (List.mem_cons_self) (fun x hx=>List.mem_cons_of_mem _ hx) (by rw[hn];exact hrel) he hst2
  rw[hn,e1,h0] at this;exact this
theorem like_st{A:Array Value}{D E:DocL}{K:Sl3}{rs:List RT}{L:List (Sl3×List RT)}{H:Heap}{σ:List Rs}(hs:St H0 H σ)(i:Nat)(hi:σ[i]?=some (poolRs L))(hm:(K,rs)∈L)(ha:DocR H A D)(hD:Inv D)(hE:Inv E)(hr:Rel E.ks (rwS rs))
 (hR: ∀t H',(t=true↔D=E)→Ext H H'→St H0 H' σ→R (.bool t) H'):CallsH Tryz.prog 19 #[.agg A,.agg (docA E.w E.h E.next K)] H R:=
 c19 ha hD.okM (hs.pool i hi hm) (Rel.okM hE hr) fun H' he=>hR _ H' (likeD_iff hr hE.ids') he (hs.step he)
end Go.Proofs
namespace Go.Proofs
open Go.Sh
variable {H0 H:Heap} {σ:List Rs} {R:Value→Heap→Prop}
theorem nxt_size{D:DocL}(e:Ed):(nxt D e).w=D.w∧(nxt D e).h=D.h:=by
 unfold nxt
 split
 ·rename_i h0;exact(do_next h0).2.2
 ·exact⟨rfl,rfl⟩
end Go.Proofs
