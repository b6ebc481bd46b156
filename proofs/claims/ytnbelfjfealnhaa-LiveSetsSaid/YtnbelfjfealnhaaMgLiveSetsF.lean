/-
  OWN WORK. Several texts in one: TtA, TtB, TsBegun, TtC, TtD, TtE, TtF, TtG, TtH, TtI, TtJ, TtK, TtL, ShV.
-/
import Derived.Test.YtnbelfjfealnhaaMgLiveSetsE
import Derived.Test.YtnbelfjfealnhaaMgLiveSetsB

set_option linter.unusedVariables false
set_option linter.unusedSimpArgs false
set_option maxRecDepth 10000
namespace Go.Proofs
open Go.Sh
structure Rw where
 f:LayF
 to:Int
 deriving DecidableEq
mutual
def flatT(to:Int):Lay→List Rw
 | .mk f ks=>⟨f,to⟩::flatKs f.id ks
def flatKs(to:Int):List Lay→List Rw
 |[]=>[]
 |t::ts=>flatT to t++flatKs to ts
end
def ofG(to:Int)(L:List Rw):List Rw:=L.filter fun r=>decide (r.to=to)
def Rel(D:List Lay)(L:List Rw):Prop:= ∀to,ofG to L=ofG to (flatKs 0 D)
def idsR(L:List Rw):List Int:=L.map fun r=>r.f.id
theorem idsR_app(a b:List Rw):idsR (a++b)=idsR a++idsR b:=List.map_append
theorem flat_ids: ∀t to,idsR (flatT to t)=idsT t:=Lay.ind fun f ks ih to=>by
 rw[flatT,idsT,idsR,List.map_cons]
 have: ∀(ts:List Lay),(∀t∈ts,t∈ks)→ ∀g,idsR (flatKs g ts)=idsKs ts:=by
  intro ts
  induction ts with
  |nil=>intro _ g;rfl
  |cons t ts ih2=>intro hm g;rw[flatKs,idsKs,idsR_app,ih t (hm t List.mem_cons_self),ih2 fun t ht=>hm t (List.mem_cons_of_mem _ ht)]
 rw[show List.map (fun r=>r.f.id) (flatKs f.id ks)=idsKs ks from this ks (fun _ h=>h) f.id]
theorem flatKs_ids: ∀(ts:List Lay) (to:Int),idsR (flatKs to ts)=idsKs ts
 |[],to=>rfl
 |t::ts,to=>by rw[flatKs,idsKs,idsR_app,flat_ids,flatKs_ids ts]
def gid:List FrL→Int
 |[]=>0
 |fr::_=>fr.f.id
structure Ids(D:List Lay):Prop where
 nodup:(idsKs D).Nodup
 pos: ∀x∈idsKs D,x≠0
theorem Inv.ids'{D:DocL}(h:Inv D):Ids D.ks:=⟨h.ids,fun x hx=>by have:=ids_ltKs h.good x hx;omega⟩
theorem Ids.split{fr:FrL}{u:List FrL}{ks:List Lay}(h:Ids (plugL (fr::u) ks)):fr.f.id≠0∧fr.f.id∉idsKs ks∧fr.f.id∉idsUp u∧fr.f.id∉idsKs fr.pre∧fr.f.id∉idsKs fr.post∧(∀x∈idsKs ks,x≠0∧x∉idsUp (fr::u)):=by
 have hp:=ids_plug (fr::u) ks
 have hn:=(hp.nodup_iff).1 h.nodup
 have hz: ∀x,x∈idsKs ks++idsUp (fr::u)→x≠0:=fun x hx=>h.pos x (hp.mem_iff.2 hx)
 rw[List.nodup_append] at hn
 have hu:=hn.2.1
 have e2:(idsUp (fr::u)).Perm (fr.f.id::(idsKs fr.pre++idsKs fr.post++idsUp u)):=by rw[idsUp]
 have hu2:=(e2.nodup_iff).1 hu
 rw[List.nodup_cons] at hu2
 have hm:=hu2.1
 simp only[List.mem_append,not_or] at hm
 have hfm:fr.f.id∈idsUp (fr::u):=e2.mem_iff.2 List.mem_cons_self
 exact⟨hz _ (List.mem_append_right _ hfm),fun hk=>hn.2.2 _ hk _ hfm rfl,hm.2,hm.1.1,hm.1.2,fun x hx=>⟨hz x (List.mem_append_left _ hx),fun hxu=>hn.2.2 _ hx _ hxu rfl⟩⟩
theorem Rel.perm{D:List Lay}{L:List Rw}(h:Rel D L):L.Perm (flatKs 0 D):=List.perm_iff_count.2 fun x=>by
 have hc: ∀M:List Rw,M.count x=(ofG x.to M).count x:=fun M=>by unfold ofG;rw[List.count_filter (by simp)]
 rw[hc,hc (flatKs 0 D),h]
theorem Rel.ids{D:List Lay}{L:List Rw}(h:Rel D L):(idsR L).Perm (idsKs D):=by
 rw[←flatKs_ids D 0];exact h.perm.map _
theorem Rel.nodup{D:List Lay}{L:List Rw}(h:Rel D L)(hi:Ids D):(idsR L).Nodup:=(h.ids.nodup_iff).2 hi.nodup
theorem Rel.len{D:List Lay}{L:List Rw}(h:Rel D L):L.length=cntKs D:=by
 rw[h.perm.length_eq]
 have: ∀t g,(flatT g t).length=cntL t:=Lay.ind fun f ks ih g=>by
  rw[flatT,cntL,List.length_cons]
  have: ∀(ts:List Lay),(∀t∈ts,t∈ks)→(flatKs f.id ts).length=cntKs ts:=by
   intro ts
   induction ts with
   |nil=>intro _;rfl
   |cons t ts ih2=>intro hm;rw[flatKs,cntKs,List.length_append,ih t (hm t List.mem_cons_self),ih2 fun t ht=>hm t (List.mem_cons_of_mem _ ht)]
  rw[this ks fun _ h=>h];omega
 have h2: ∀(ts:List Lay) (g:Int),(flatKs g ts).length=cntKs ts:=by
  intro ts
  induction ts with
  |nil=>intro g;rfl
  |cons t ts ih=>intro g;rw[flatKs,cntKs,List.length_append,this,ih]
 exact h2 D 0
theorem fl_none(id:Int): ∀(t:Lay) (up:List FrL) (pre post:List Lay),(flT up pre post id t=none↔id∉idsT t):=by
 refine Lay.ind fun f ks ih up pre post=>?_
 rw[flT,idsT]
 by_cases hf:f.id=id
 ·rw[if_pos hf];simp[hf]
 ·rw[if_neg hf]
  have: ∀(ts:List Lay),(∀t∈ts,t∈ks)→ ∀(u:List FrL) (pre0:List Lay),(flK u pre0 id ts=none↔id∉idsKs ts):=by
   intro ts
   induction ts with
   |nil=>intro _ u pre0;rw[flK,idsKs];simp
   |cons t ts ih2=>
    intro hm u pre0
    have h1:=ih t (hm t List.mem_cons_self) u pre0 ts
    have h2:=ih2 (fun t ht=>hm t (List.mem_cons_of_mem _ ht)) u (pre0++[t])
    rw[flK,idsKs,List.mem_append,not_or,←h1,←h2]
    cases flT u pre0 ts id t with
    |none=>simp
    |some z=>simp
  rw[this ks (fun _ h=>h),List.mem_cons,not_or]
  exact⟨fun h=>⟨fun h2=>hf h2.symm,h⟩,fun h=>h.2⟩
inductive Path(L:List Rw):Int→List Int→Prop
 |nil:Path L 0 []
 |cons {r:Rw} {l:List Int}:r∈L→r.f.id≠0→Path L r.to l→Path L r.f.id (r.f.id::l)
theorem Path.zero{L:List Rw}{l:List Int}(h:Path L 0 l):l=[]:=by
 generalize hz:(0:Int)=z at h
 cases h with
 |nil=>rfl
 |cons _ h1 _=>exact absurd hz.symm h1
end Go.Proofs
namespace Go.Proofs
open Go.Sh
theorem Ids.perm{D D':List Lay}{x:List Int}(h:Ids D)(hp:(idsKs D').Perm (x++idsKs D))(hx:x.Nodup)(hz: ∀y∈x,y≠0∧y∉idsKs D):Ids D':=
 ⟨(
  hp.nodup_iff).2 (List.nodup_append.2 ⟨hx,h.nodup,fun a ha b hb hab=>(hz a ha).2 (hab▸hb)⟩),fun y hy=>by
  rcases List.mem_append.1 (hp.mem_iff.1 hy) with h1|h1
  ·exact(hz y h1).1
  ·exact h.pos y h1⟩
end Go.Proofs
namespace Go.Proofs
open Go.Sh
variable {H0 H:Heap} {σ:List Rs} {R:Value→Heap→Prop}
def layRs(B:Array Value)(l:Lay):Rs:= .ex fun(t:T)=> .pu (B=(cellsT t).toArray∧layT t=l) (starAll (resT t))
theorem _root_.Go.Sh.St.lay(hs:St H0 H σ)(i:Nat){B:Array Value}{l:Lay}(hi:σ[i]?=some (layRs B l)):LayR H B l:=by
 obtain⟨t,h1⟩:=St.unex (hs.front i hi)
 obtain⟨⟨h2,h3⟩,h4⟩:=St.fact h1
 exact⟨t,h2,St.rdT t (St.unpackAll _ h4),h3⟩
theorem LayR.size{H:Heap}{B:Array Value}{l:Lay}(h:LayR H B l):B.size=19:=by obtain⟨t,rfl,_⟩:=h;simp[cellsT_len]
theorem LayR.one{H:Heap}{B:Array Value}{l:Lay}(h:LayR H B l): ∀v∈B.toList,v.oneCell'=true:=by obtain⟨t,rfl,_⟩:=h;simpa using cellsT_one t
theorem find_st{A:Array Value}{D:DocL}{id:Int}(hs:St H0 H σ)(hd:DocR H A D)(hi:Inv D)
 (h0:findL D.ks id=none→ ∀H',St H0 H' (layRs (cellsL zeroF Sl3.nil.v Sl3.nil.v Sl3.nil.v Sl3.nil.v).toArray (.mk zeroF [])::σ)→R (.tuple #[.agg (cellsL zeroF Sl3.nil.v Sl3.nil.v Sl3.nil.v Sl3.nil.v).toArray,.bool false]) H')
 (h1: ∀l,findL D.ks id=some l→ ∀B H',LayR H' B l→St H0 H' (layRs B l::σ)→R (.tuple #[.agg B,.bool true]) H'):CallsH Try.prog 13 #[.agg A,.int .i64 id] H R:=by
 have hc:=hi.cnt
 refine c13 hd (by omega) hi.ok (fun l hl=>?_) (fun hn H' he=>h0 hn H' ?_) fun l hl t' H' hlay hst=>?_
 ·unfold findL at hl
  rcases fl_cases id D.ks with hn|⟨fr,u,ks,hf,hid,hp⟩
  ·rw[hn] at hl;cases hl
  ·rw[hf] at hl
   cases hl
   have hg:=hi.good
   rw[←hp] at hg
   refine Inv.okL hi.size _ (g_node hg).2.2.1 ?_
   have:cntKs D.ks=cntUp (fr::u)+cntKs ks:=by rw[←hp,cnt_plug]
   rw[cntL]
   rw[cntUp] at this
   omega
 ·refine St.inex (f:=fun(t:T)=> .pu ((cellsL zeroF Sl3.nil.v Sl3.nil.v Sl3.nil.v Sl3.nil.v).toArray=(cellsT t).toArray∧layT t= .mk zeroF []) (starAll (resT t))) (.mk zeroF .nil .nil .nil .nil []) (St.with ⟨rfl,rfl⟩ (St.packAll _ ?_))
  rw[resT_mk]
  exact((((hs.step he).nilSl 45 19).nilSl 3 1).nilSl 5 1).nilSl 3 1
 ·rw[List.append_nil] at hst
  have hs2:St H0 H' (layRs (cellsT t').toArray l::σ):=St.inex (f:=fun(t:T)=> .pu ((cellsT t').toArray=(cellsT t).toArray∧layT t=l) (starAll (resT t))) t' (St.with ⟨rfl,hlay⟩ (St.packAll _ (hs.call hst)))
  exact h1 l hl _ H' (hs2.lay 0 rfl) hs2
theorem c22{w h:Int}(hR:R (.bool (sizedB w h)) H):CallsH Try.prog 22 #[.int .i64 w,.int .i64 h] H R:=by
 have bad: ¬(1≤w∧1≤h∧w≤32768∧h≤32768∧w*h≤4194304)→R (.bool false) H:=fun hn=>by
  rw[show sizedB w h=false from decide_eq_false hn] at hR;exact hR
 refine Try.s22 (br_dec (fun h1=>br_dec (fun h2=>br_dec (fun h3=>br_dec (fun h4=>?_) fun hn=>bad (by omega)) fun hn=>bad (by omega)) fun hn=>bad (by omega)) fun hn=>bad (by omega))
 rw[wrap_area h1 h2 h3 h4]
 rw[show sizedB w h=decide (w*h≤4194304) from decide_eq_decide.2 ⟨fun hh=>hh.2.2.2.2,fun hh=>⟨h1,h2,h3,h4,hh⟩⟩] at hR
 exact hR
end Go.Proofs
namespace Go.Proofs
open Go.Sh
variable {H0 H:Heap} {σ:List Rs} {R:Value→Heap→Prop}
structure RT where
 f:LayF
 to:Int
 P:Sl3
 M:Sl3
 A:Sl3
def RT.rw(r:RT):Rw:=⟨r.f,r.to⟩
def cellsR(r:RT):List Value:=
 [.int .i64 r.f.id,.int .i64 r.f.kind,.int .i64 r.to,.bool r.f.hidden,.int .i64 r.f.opacity,.int .i64 r.f.mode,.int .i64 r.f.w,.int .i64 r.f.h,r.P.v,r.M.v,
  .int .i64 r.f.map.a,.int .i64 r.f.map.b,.int .i64 r.f.map.c,.int .i64 r.f.map.d,.int .i64 r.f.map.e,.int .i64 r.f.map.f,.bool r.f.smooth,.int .i64 r.f.table,r.A.v]
structure rdR(H:Heap)(r:RT):Prop where
 p:IS H r.P.p r.P.l (ints r.f.p)
 mask:IS H r.M.p r.M.l (kints .u8 r.f.mask)
 params:IS H r.A.p r.A.l (ints r.f.params)
theorem rdR.ext{H H':Heap}{r:RT}(h:rdR H r)(he:Ext H H'):rdR H' r:=⟨h.p.ext he,h.mask.ext he,h.params.ext he⟩
end Go.Proofs
namespace Go.Proofs
open Go.Sh
variable {H0 H:Heap} {σ:List Rs} {R:Value→Heap→Prop}
end Go.Proofs
namespace Go.Proofs
open Go.Sh
variable {H0 H:Heap} {σ:List Rs} {R:Value→Heap→Prop}
end Go.Proofs
namespace Go.Proofs
open Go.Sh
variable {H0 H:Heap} {σ:List Rs} {R:Value→Heap→Prop}
structure ChgR(g:Int×LayF)(H:Heap)(r:RT)(R:Value→Heap→Prop):Prop where
 bad:g.1≠0→ ∀H',Ext H H'→R (.tuple #[.agg (cellsR r).toArray,.int .i64 g.1]) H'
 ok:g.1=0→ ∀(r':RT) H' τ,r'.f=g.2→r'.to=r.to→St H H' τ→(∀H'' fps,rdR H'' r→Lie H'' τ fps→rdR H'' r')→R (.tuple #[.agg (cellsR r').toArray,.int .i64 0]) H'
theorem ChgR.err{g:Int×LayF}{r:RT}(hc:ChgR g H r R){v:Int}{x:LayF}(hg:g=(v,x))(hv:v≠0){H':Heap}(he:Ext H H'):R (.tuple #[.agg (cellsR r).toArray,.int .i64 v]) H':=by
 have:=hc.bad (by rw[hg];exact hv) H' he
 rw[hg] at this;exact this
theorem edL_10(e:Ed)(s:EdS):(edL e s).toArray[10]?=some (.slice s.P.p s.P.l s.P.c):=rfl
theorem edL_11(e:Ed)(s:EdS):(edL e s).toArray[11]?=some (.slice s.S.p s.S.l s.S.c):=rfl
theorem edL_18(e:Ed)(s:EdS):(edL e s).toArray[18]?=some (.slice s.A.p s.A.l s.A.c):=rfl
end Go.Proofs
namespace Go.Proofs
open Go.Sh
variable {H0 H:Heap} {σ:List Rs} {R:Value→Heap→Prop}
theorem IS.nil(H:Heap):IS H none 0 []:=⟨rfl,fun i v h=>by simp at h⟩
def chgK(w h:Int)(e:Ed)(f:LayF):Int×LayF:=
 if e.kind=4 then paintF e f else if e.kind=5 then lookF e f else if e.kind=6 then hideF e f else if e.kind=7 then maskF w h e f else if e.kind=8 then placeF e f else adjustF e f
theorem step_chg{w h next:Int}{D:List Lay}{e:Ed}(hk:4≤e.kind∧e.kind≤9):stepL w h next D e=chgL (chgK w h e) D e.id:=by
 unfold stepL
 rw[if_neg (by omega),if_neg (by omega),if_neg (by omega)]
 have hc: ∀{g:LayF→Int×LayF},(∀f,chgK w h e f=g f)→chgL g D e.id=chgL (chgK w h e) D e.id:=fun hg=>by
  rw[show chgK w h e=_ from funext hg]
 split
 ·rename_i c;exact hc fun f=>by unfold chgK;rw[if_pos c]
 rename_i c4
 split
 ·rename_i c;exact hc fun f=>by unfold chgK;rw[if_neg c4,if_pos c]
 rename_i c5
 split
 ·rename_i c;exact hc fun f=>by unfold chgK;rw[if_neg c4,if_neg c5,if_pos c]
 rename_i c6
 split
 ·rename_i c;exact hc fun f=>by unfold chgK;rw[if_neg c4,if_neg c5,if_neg c6,if_pos c]
 rename_i c7
 split
 ·rename_i c;exact hc fun f=>by unfold chgK;rw[if_neg c4,if_neg c5,if_neg c6,if_neg c7,if_pos c]
 rename_i c8
 split
 ·exact hc fun f=>by unfold chgK;rw[if_neg c4,if_neg c5,if_neg c6,if_neg c7,if_neg c8]
 ·omega
end Go.Proofs
namespace Go.Proofs
open Go.Sh
variable {H0 H:Heap} {σ:List Rs} {R:Value→Heap→Prop}
end Go.Proofs
namespace Go.Proofs
open Go.Sh
variable {H0 H:Heap} {σ:List Rs} {R:Value→Heap→Prop}
end Go.Proofs
namespace Go.Proofs
open Go.Sh
variable {H0 H:Heap} {σ:List Rs} {R:Value→Heap→Prop}
theorem doL_step{w h next:Int}{D:List Lay}{e:Ed}(hk:1≤e.kind∧e.kind≤9):(doL w h next D e).1=(stepL w h next D e).1∧((stepL w h next D e).1=0→(doL w h next D e).2=(nextL next e,(stepL w h next D e).2)):=by
 unfold doL
 rw[if_neg (by omega)]
 by_cases h0:(stepL w h next D e).1=0
 ·rw[if_neg (fun hh=>hh h0)]
  exact⟨h0.symm,fun _=>rfl⟩
 ·rw[if_pos h0]
  exact⟨rfl,fun hh=>absurd hh h0⟩
theorem chgK_id(w h:Int)(e:Ed)(f:LayF):(chgK w h e f).2.id=f.id:=by
 unfold chgK paintF lookF hideF maskF placeF adjustF
 repeat' split
 all_goals rfl
end Go.Proofs
namespace Go.Proofs
open Go.Sh
variable {H0 H:Heap} {σ:List Rs} {R:Value→Heap→Prop}
theorem IS.bs{H:Heap}{p:Option Addr}{l:Nat}{xs:List Int}(h:IS H p l (kints .u8 xs)):bsOf H p l xs:=by
 cases p with
 |none=>
  exact List.eq_nil_iff_forall_not_mem.2 fun v hv=>by
   obtain⟨i,hi⟩:=List.getElem?_of_mem hv
   obtain⟨a,h1,_⟩:=h.get i _ (kints_get hi)
   cases h1
 |some a=>
  refine⟨h.length,fun j v hv=>?_⟩
  obtain⟨a',h1,h2⟩:=h.get j v (by simpa[kints] using hv)
  cases h1;exact h2
structure EdsR(H:Heap)(p:Option Addr)(l:Nat)(es:List (Ed×EdS)):Prop where
 len:es.length=l
 get: ∀(i:Nat) e s,es[i]?=some (e,s)→ ∃a,p=some a∧rowIn H (a.add (i*19)) (edL e s).toArray∧rdEd H e s
theorem EdsR.ext{H H':Heap}{p:Option Addr}{l:Nat}{es:List (Ed×EdS)}(h:EdsR H p l es)(he:Ext H H'):EdsR H' p l es:=⟨h.len,fun i e s hi=>let ⟨a,h1,h2,h3⟩:=h.get i e s hi;⟨a,h1,rowAt_ext he h2,h3.ext he⟩⟩
def smallE(e:Ed):Bool:=decide (e.p.length≤600∧e.shape.length≤300∧e.params.length≤100∧ ¬(e.kind=1∧e.n=0∧sizedB e.w e.h=true∧e.w*e.h>600))
def smallB(es:List (Ed×EdS))(most:Int):Bool:=decide ((es.length:Int)≤most)&&es.all fun x=>smallE x.1
theorem smallB_ok{es:List (Ed×EdS)}{most:Int}(h:smallB es most=true):(es.length:Int)≤most∧ ∀x∈es,x.1.shape.length≤300∧x.1.params.length≤100:=by
 unfold smallB at h
 rw[Bool.and_eq_true] at h
 exact⟨of_decide_eq_true h.1,fun x hx=>by have:=of_decide_eq_true (List.all_eq_true.1 h.2 x hx);exact⟨this.2.1,this.2.2.1⟩⟩
theorem c7{p:Option Addr}{l c:Nat}{es:List (Ed×EdS)}{most:Int}(h:EdsR H p l es)(hm:most≤1000000)(hR: ∀H',Ext H H'→R (.bool (smallB es most)) H'):CallsH Try.prog 7 #[.slice p l c,.int .i64 most] H R:=by
 refine Try.s7 ?_
 unfold Try.S7
 have hlen:=h.len
 refine br_dec (fun hgt=>?_) fun hle=>?_
 ·have:=hR H (Ext.refl H)
  rw[show smallB es most=false from by unfold smallB;rw[decide_eq_false (by omega),Bool.false_and]] at this;exact this
 intro X hX
 have go: ∀k,k≤es.length→ ∀H1,Ext H H1→(es.take k).all (fun x=>smallE x.1)=true→X [.int .i64 (k:Nat)] H1:=by
  refine upto fun k hk ih H1 he hall=>hX _ _ (br_dec (fun hlt=>?_) fun hge=>?_)
  ·have hk':k<es.length:=by omega
   have hx:=List.getElem?_eq_getElem hk'
   generalize hxe:es[k]=x at hx
   obtain⟨e,s⟩:=x
   obtain⟨a,hp,hrow,hrd⟩:=(h.ext he).get k e s hx
   have hpl:=hrd.p.length
   have hsl:=hrd.shape.len
   have hal:=hrd.params.length
   intro J6 hJ6
   refine⟨a,hp,by omega,hlt,_,rfl,hrow,(St.of_ext he).alc fun b10 H11 hs11=>⟨rfl,hs11.putAll 0 rfl rfl (by simpa using edL_one e s) fun H12 hs12=>?_⟩⟩
   have bad: ∀{H2:Heap},Ext H H2→smallE e=false→R (.bool false) H2:=fun he2 hb=>by
    have:=hR _ he2
    rw[show smallB es most=false from by
     unfold smallB
     rw[show es.all (fun x=>smallE x.1)=false from Bool.eq_false_iff.2 fun hh=>by
      have:=List.all_eq_true.1 hh _ (List.mem_of_getElem? hx)
      rw[hb] at this;cases this]
     rw[Bool.and_false]] at this
    exact this
   have good: ∀{H2:Heap},Ext H H2→smallE e=true→J6 [] H2:=fun he2 hb=>by
    refine hJ6 _ ?_
    rw[wrap_id (by omega) (by omega)]
    refine ih hk' _ he2 ?_
    rw[take_succ hx,List.all_append,hall,Bool.true_and,List.all_cons,List.all_nil,Bool.and_true];exact hb
   refine⟨_,_,_,hs12.get 0 rfl (edL_10 e s),br_dec (fun c=>bad hs12.ext (decide_eq_false (by omega))) fun c1=>?_⟩
   refine⟨_,_,_,hs12.get 0 rfl (edL_11 e s),br_dec (fun c=>bad hs12.ext (decide_eq_false (by omega))) fun c2=>?_⟩
   refine⟨_,_,_,hs12.get 0 rfl (edL_18 e s),br_dec (fun c=>bad hs12.ext (decide_eq_false (by omega))) fun c3=>?_⟩
   have fin: ∀{H2:Heap},Ext H H2→ ¬(e.kind=1∧e.n=0∧sizedB e.w e.h=true∧e.w*e.h>600)→J6 [] H2:=fun he2 hno=>good he2 (decide_eq_true ⟨by omega,by omega,by omega,hno⟩)
   refine⟨e.kind,hs12.get 0 rfl (j:=0) rfl,br_eq (fun k1=>⟨e.n,hs12.get 0 rfl (j:=4) rfl,br_eq (fun n0=>?_) fun n0=>fin hs12.ext fun hh=>n0 hh.2.1⟩) fun k1=>fin hs12.ext fun hh=>k1 hh.1⟩
   refine⟨e.w,hs12.get 0 rfl (j:=8) rfl,e.h,hs12.get 0 rfl (j:=9) rfl,c22 ⟨_,rfl,br_i (fun hb=>?_) fun hb=>fin hs12.ext fun hh=>by rw[hb] at hh;exact absurd hh.2.2.1 (by decide)⟩⟩
   obtain⟨q1,q2,q3,q4,q5⟩:=of_decide_eq_true hb
   refine⟨e.w,hs12.get 0 rfl (j:=8) rfl,e.h,hs12.get 0 rfl (j:=9) rfl,?_⟩
   rw[wrap_area q1 q2 q3 q4]
   refine br_dec (fun hg=>bad hs12.ext (decide_eq_false fun hh=>hh.2.2.2 ⟨k1,n0,hb,hg⟩)) fun hg=>fin hs12.ext fun hh=>hg hh.2.2.2
  ·rw[List.take_of_length_le (by omega)] at hall
   have:=hR H1 he
   rw[show smallB es most=true from by unfold smallB;rw[hall,decide_eq_true (by omega)];rfl] at this;exact this
 exact go 0 (Nat.zero_le _) H (Ext.refl H) rfl
theorem eds_ok{p:Option Addr}{l:Nat}{es:List (Ed×EdS)}(h:EdsR H p l es)(hok: ∀x∈es,x.1.shape.length≤300∧x.1.params.length≤100){i:Nat}{e:Ed}{s:EdS}(hx:es[i]?=some (e,s)): ∃a,p=some a∧rowIn H (a.add (i*19)) (edL e s).toArray∧EdOk H e s:=by
 obtain⟨a,h1,h2,h3⟩:=h.get i e s hx
 have:=hok _ (List.mem_of_getElem? hx)
 exact⟨a,h1,h2,h3,by have:=this.1;simp only at this;omega,by have:=this.2;simp only at this;omega⟩
end Go.Proofs
namespace Go.Proofs
open Go.Sh
variable {H0 H:Heap} {σ:List Rs} {R:Value→Heap→Prop}
end Go.Proofs
namespace Go.Sh
variable {H0 H H':Heap} {σ τ:List Rs}
def Rs.pers(Q:Heap→Prop):Rs where
 at_ H fp:=(∀b∈fp,b<H.size)∧ ∀H',(∀b∈fp,∀o,H[b]?=some o→H'[b]?=some o)→Q H'
 loc:=fun{H H' fp} h hk=>⟨fun b hb=>by
  have hlt:=h.1 b hb
  exact lt_of_get (hk b hb _ (Array.getElem?_eq_getElem hlt)),fun H'' hk2=>h.2 H'' fun b hb o ho=>hk2 b hb o (hk b hb o ho)⟩
 has h:=h.1
theorem St.persGet(hs:St H0 H σ)(i:Nat){Q:Heap→Prop}(hi:σ[i]?=some (.pers Q)):Q H:=by
 obtain⟨_,fps,hl,_⟩:=hs
 obtain⟨fp,_,h⟩:=hl.get hi
 exact h.2 H fun b _ o ho=>ho
theorem Ext.empty(H:Heap):Ext #[] H:=fun b o h=>by simp at h
theorem St.persOf{Q:Heap→Prop}(hs:St H0 H (τ++σ))(hq: ∀H',St #[] H' τ→Q H'):St H0 H (.pers Q::σ):=by
 obtain⟨he,fps,hl,hn,hb⟩:=hs
 obtain⟨a,b,rfl,h1,h2⟩:=hl.split
 have hna:a.flatten.Nodup:=by rw[List.flatten_append,List.nodup_append] at hn;exact hn.1
 refine⟨he,a.flatten::b,⟨⟨h1.has,fun H' hk=>hq H' ⟨Ext.empty H',a,h1.loc hk,hna,fun x _=>Nat.zero_le x⟩⟩,h2⟩,by simpa using hn,fun x hx=>hb x (by simpa using hx)⟩
end Go.Sh
