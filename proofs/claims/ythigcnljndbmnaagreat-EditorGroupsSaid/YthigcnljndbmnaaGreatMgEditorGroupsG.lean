/-
  OWN WORK. Several texts in one: HsA, ShV, HsB, TtA, HsC, HsD, HsE, HsF, HsG, TtB, TtC, TtD, TtE, TtF.
-/
import Derived.Test.YthigcnljndbmnaaGreatMgEditorGroupsF
import Derived.Test.YthigcnljndbmnaaGreatMgEditorGroupsD

set_option linter.unusedVariables false
set_option linter.unusedSimpArgs false
set_option maxRecDepth 10000
namespace Go.Proofs
open Go.Sh
structure HL where
 now:DocL
 past:List DocL
 fut:List DocL
def doH(h:HL)(e:Ed):Int×HL:=if (doD h.now e).1=0 then(0,⟨(doD h.now e).2,h.past++[h.now],[]⟩) else((doD h.now e).1,h)
structure HOk(n:Nat)(h:HL):Prop where
 inv: ∀d,d=h.now∨d∈h.past∨d∈h.fut→Inv d∧d.next≤n+1
 len:h.past.length+h.fut.length≤n
theorem HOk.mono{n m:Nat}{h:HL}(hk:HOk n h)(hm:n≤m):HOk m h:=⟨fun d hd=>⟨(hk.inv d hd).1,by have:=(hk.inv d hd).2;omega⟩,by have:=hk.len;omega⟩
theorem HOk.now{n:Nat}{h:HL}(hk:HOk n h):Inv h.now∧h.now.next≤n+1:=hk.inv _ (.inl rfl)
theorem HOk.doH{n:Nat}{h:HL}(hk:HOk n h)(e:Ed):HOk (n+1) (doH h e).2:=by
 unfold Go.Proofs.doH
 split
 ·rename_i h0
  have hnow:=hk.now
  have hnx:=do_next h0
  refine⟨fun d hd=>?_,by have:=hk.len;simp only[List.length_append,List.length_cons,List.length_nil];omega⟩
  simp only[List.mem_append,List.mem_singleton,List.not_mem_nil,or_false] at hd
  rcases hd with rfl|hd|rfl
  ·exact⟨do_inv hnow.1 h0,by omega⟩
  ·have:=hk.inv d (.inr (.inl hd));exact⟨this.1,by omega⟩
  ·exact⟨hnow.1,by omega⟩
 ·exact hk.mono (by omega)
end Go.Proofs
namespace Go.Sh
variable {H0 H H':Heap} {σ τ:List Rs}
def Rs.pers(Q:Heap→Prop):Rs where
 at_ H fp:=(∀b∈fp,b<H.size)∧ ∀H',(∀b∈fp,∀o,H[b]?=some o→H'[b]?=some o)→Q H'
 loc:=fun{H H' fp} h hk=>⟨fun b hb=>by
  have hlt:=h.1 b hb
  exact lt_of_get (hk b hb _ (Array.getElem?_eq_getElem hlt)),fun H'' hk2=>h.2 H'' fun b hb o ho=>hk2 b hb o (hk b hb o ho)⟩
 has h:=h.1
theorem Ext.empty(H:Heap):Ext #[] H:=fun b o h=>by simp at h
end Go.Sh
namespace Go.Sh
variable {H0 H H':Heap} {σ τ:List Rs}
theorem St.idx(hs:St H0 H σ){r:Rs}(h:r∈σ): ∃i:Nat,σ[i]?=some r:=List.getElem?_of_mem h
end Go.Sh
namespace Go.Proofs
open Go.Sh
variable {H0 H:Heap} {σ:List Rs} {R:Value→Heap→Prop}
abbrev PD:=Sl3×DocL
def arrP(x:PD):Array Value:=docA x.2.w x.2.h x.2.next x.1
def cellsP(l:List PD):List Value:=(l.map fun x=>(arrP x).toList).flatten
def DocK(H:Heap)(x:PD):Prop:=DocR H (arrP x) x.2
theorem arrP_size(x:PD):(arrP x).size=4:=rfl
theorem cellsP_cons(x:PD)(l:List PD):cellsP (x::l)=(arrP x).toList++cellsP l:=by simp[cellsP]
theorem cellsP_len: ∀l:List PD,(cellsP l).length=l.length*4
 |[]=>rfl
 |x::l=>by rw[cellsP_cons,List.length_append,cellsP_len l,List.length_cons,Array.length_toList,arrP_size];omega
theorem cellsP_get{l:List PD}{i:Nat}{x:PD}(h:l[i]?=some x){j:Nat}{v:Value}(hv:(arrP x)[j]?=some v):(cellsP l)[i*4+j]?=some v:=by
 have hj:j<4:=(Array.getElem?_eq_some_iff.1 hv).1
 induction l generalizing i with
 |nil=>simp at h
 |cons y l ih=>
  rw[cellsP_cons]
  cases i with
  |zero=>
   simp at h;subst h
   rw[Nat.zero_mul,Nat.zero_add,List.getElem?_append_left (by rw[Array.length_toList];exact hj)];simpa using hv
  |succ i=>
   rw[List.getElem?_append_right (by rw[Array.length_toList,arrP_size];omega),Array.length_toList,arrP_size,show(i+1)*4+j-4=i*4+j from by omega]
   exact ih (by simpa using h)
theorem DocK.ext{H H':Heap}{x:PD}(h:DocK H x)(he:Ext H H'):DocK H' x:=DocR.ext h he
structure PdsR(H:Heap)(P:Sl3)(l:List PD):Prop where
 rs:RS H P.p P.l 46 4 (cellsP l)
 doc: ∀x∈l,DocK H x
theorem PdsR.ext{H H':Heap}{P:Sl3}{l:List PD}(h:PdsR H P l)(he:Ext H H'):PdsR H' P l:=⟨h.rs.ext he,fun x hx=>(h.doc x hx).ext he⟩
theorem PdsR.len{H:Heap}{P:Sl3}{l:List PD}(h:PdsR H P l):P.l=l.length:=by have:=h.rs.len;rw[cellsP_len] at this;omega
theorem pds_row{H:Heap}{P:Sl3}{l:List PD}(h:RS H P.p P.l 46 4 (cellsP l)){i:Nat}{x:PD}(hx:l[i]?=some x): ∃a,P.p=some a∧rowIn H (a.add (i*4)) (arrP x):=by
 have hi:=(List.getElem?_eq_some_iff.1 hx).1
 have hl:P.l=l.length:=by have:=h.len;rw[cellsP_len] at this;omega
 obtain⟨blk,h1,h2⟩:=h.row (i:=i) (by omega) (by decide) (xs:=arrP x) fun j v hv=>cellsP_get hx hv
 refine⟨_,h1,?_⟩
 rw[add_none,Nat.zero_add]
 exact h2
theorem PdsR.row{H:Heap}{P:Sl3}{l:List PD}(h:PdsR H P l){i:Nat}{x:PD}(hx:l[i]?=some x): ∃a,P.p=some a∧rowIn H (a.add (i*4)) (arrP x)∧DocK H x:=
 let ⟨a,h1,h2⟩:=pds_row h.rs hx;⟨a,h1,h2,h.doc x (List.mem_of_getElem? hx)⟩
def pdRs(l:List PD):Rs:= .pers fun H=> ∀x∈l,DocK H x
structure HM where
 now:PD
 P:Sl3
 F:Sl3
 past:List PD
 fut:List PD
def HM.abs(m:HM):HL:=⟨m.now.2,m.past.map Prod.snd,m.fut.map Prod.snd⟩
def histA(x:PD)(P F:Sl3):Array Value:=#[.int .i64 x.2.w,.int .i64 x.2.h,.int .i64 x.2.next,x.1.v,P.v,F.v]
def HM.list(m:HM)(b:Nat):List Rs:=[.cell b (histA m.now m.P m.F) 115,.sl m.P.p m.P.l m.P.c 46 4 (cellsP m.past),.sl m.F.p m.F.l m.F.c 46 4 (cellsP m.fut),pdRs (m.now::(m.past++m.fut))]
def histRs(b:Nat)(h:HL):Rs:= .ex fun(m:HM)=> .pu (m.abs=h) (starAll (m.list b))
structure StR(H:Heap)(A:Array Value)(h:HL):Prop where
 ex: ∃(m:HM),m.abs=h∧A=histA m.now m.P m.F∧DocK H m.now∧PdsR H m.P m.past∧PdsR H m.F m.fut
theorem StR.ext{H H':Heap}{A:Array Value}{h:HL}(hs:StR H A h)(he:Ext H H'):StR H' A h:=by
 obtain⟨m,h1,h2,h3,h4,h5⟩:=hs.ex
 exact⟨m,h1,h2,h3.ext he,h4.ext he,h5.ext he⟩
end Go.Proofs
namespace Go.Proofs
open Go.Sh
structure Rw where
 f:LayF
 to:Int
 deriving DecidableEq
mutual
def flatT(to:Int):Lay→List Rw
 | .mk f ks=>⟨f,to⟩::flatKs f.id ks
def flatKs(to:Int):List Lay→List Rw
 |[]=>[]
 |t::ts=>flatT to t++flatKs to ts
end
def ofG(to:Int)(L:List Rw):List Rw:=L.filter fun r=>decide (r.to=to)
def Rel(D:List Lay)(L:List Rw):Prop:= ∀to,ofG to L=ofG to (flatKs 0 D)
def idsR(L:List Rw):List Int:=L.map fun r=>r.f.id
theorem idsR_app(a b:List Rw):idsR (a++b)=idsR a++idsR b:=List.map_append
theorem flat_ids: ∀t to,idsR (flatT to t)=idsT t:=Lay.ind fun f ks ih to=>by
 rw[flatT,idsT,idsR,List.map_cons]
 have: ∀(ts:List Lay),(∀t∈ts,t∈ks)→ ∀g,idsR (flatKs g ts)=idsKs ts:=by
  intro ts
  induction ts with
  |nil=>intro _ g;rfl
  |cons t ts ih2=>intro hm g;rw[flatKs,idsKs,idsR_app,ih t (hm t List.mem_cons_self),ih2 fun t ht=>hm t (List.mem_cons_of_mem _ ht)]
 rw[show List.map (fun r=>r.f.id) (flatKs f.id ks)=idsKs ks from this ks (fun _ h=>h) f.id]
theorem flatKs_ids: ∀(ts:List Lay) (to:Int),idsR (flatKs to ts)=idsKs ts
 |[],to=>rfl
 |t::ts,to=>by rw[flatKs,idsKs,idsR_app,flat_ids,flatKs_ids ts]
structure Ids(D:List Lay):Prop where
 nodup:(idsKs D).Nodup
 pos: ∀x∈idsKs D,x≠0
theorem Ids.split{fr:FrL}{u:List FrL}{ks:List Lay}(h:Ids (plugL (fr::u) ks)):fr.f.id≠0∧fr.f.id∉idsKs ks∧fr.f.id∉idsUp u∧fr.f.id∉idsKs fr.pre∧fr.f.id∉idsKs fr.post∧(∀x∈idsKs ks,x≠0∧x∉idsUp (fr::u)):=by
 have hp:=ids_plug (fr::u) ks
 have hn:=(hp.nodup_iff).1 h.nodup
 have hz: ∀x,x∈idsKs ks++idsUp (fr::u)→x≠0:=fun x hx=>h.pos x (hp.mem_iff.2 hx)
 rw[List.nodup_append] at hn
 have hu:=hn.2.1
 have e2:(idsUp (fr::u)).Perm (fr.f.id::(idsKs fr.pre++idsKs fr.post++idsUp u)):=by rw[idsUp]
 have hu2:=(e2.nodup_iff).1 hu
 rw[List.nodup_cons] at hu2
 have hm:=hu2.1
 simp only[List.mem_append,not_or] at hm
 have hfm:fr.f.id∈idsUp (fr::u):=e2.mem_iff.2 List.mem_cons_self
 exact⟨hz _ (List.mem_append_right _ hfm),fun hk=>hn.2.2 _ hk _ hfm rfl,hm.2,hm.1.1,hm.1.2,fun x hx=>⟨hz x (List.mem_append_left _ hx),fun hxu=>hn.2.2 _ hx _ hxu rfl⟩⟩
theorem Rel.perm{D:List Lay}{L:List Rw}(h:Rel D L):L.Perm (flatKs 0 D):=List.perm_iff_count.2 fun x=>by
 have hc: ∀M:List Rw,M.count x=(ofG x.to M).count x:=fun M=>by unfold ofG;rw[List.count_filter (by simp)]
 rw[hc,hc (flatKs 0 D),h]
theorem Rel.ids{D:List Lay}{L:List Rw}(h:Rel D L):(idsR L).Perm (idsKs D):=by
 rw[←flatKs_ids D 0];exact h.perm.map _
theorem Rel.nodup{D:List Lay}{L:List Rw}(h:Rel D L)(hi:Ids D):(idsR L).Nodup:=(h.ids.nodup_iff).2 hi.nodup
theorem Rel.len{D:List Lay}{L:List Rw}(h:Rel D L):L.length=cntKs D:=by
 rw[h.perm.length_eq]
 have: ∀t g,(flatT g t).length=cntL t:=Lay.ind fun f ks ih g=>by
  rw[flatT,cntL,List.length_cons]
  have: ∀(ts:List Lay),(∀t∈ts,t∈ks)→(flatKs f.id ts).length=cntKs ts:=by
   intro ts
   induction ts with
   |nil=>intro _;rfl
   |cons t ts ih2=>intro hm;rw[flatKs,cntKs,List.length_append,ih t (hm t List.mem_cons_self),ih2 fun t ht=>hm t (List.mem_cons_of_mem _ ht)]
  rw[this ks fun _ h=>h];omega
 have h2: ∀(ts:List Lay) (g:Int),(flatKs g ts).length=cntKs ts:=by
  intro ts
  induction ts with
  |nil=>intro g;rfl
  |cons t ts ih=>intro g;rw[flatKs,cntKs,List.length_append,this,ih]
 exact h2 D 0
inductive Path(L:List Rw):Int→List Int→Prop
 |nil:Path L 0 []
 |cons {r:Rw} {l:List Int}:r∈L→r.f.id≠0→Path L r.to l→Path L r.f.id (r.f.id::l)
theorem Path.zero{L:List Rw}{l:List Int}(h:Path L 0 l):l=[]:=by
 generalize hz:(0:Int)=z at h
 cases h with
 |nil=>rfl
 |cons _ h1 _=>exact absurd hz.symm h1
end Go.Proofs
namespace Go.Proofs
open Go.Sh
variable {H0 H:Heap} {σ:List Rs} {R:Value→Heap→Prop}
end Go.Proofs
namespace Go.Proofs
open Go.Sh
variable {H0 H:Heap} {σ:List Rs} {R:Value→Heap→Prop}
theorem elemD{A:Array Value}(h:A.size=4):(List.toArray (setL [Value.int .i64 0,.int .i64 0,.int .i64 0,.slice none 0 0] 0 A.toList))=A:=by
 rw[setL_all (by simpa using h)]
end Go.Proofs
namespace Go.Proofs
open Go.Sh
variable {H0 H:Heap} {σ:List Rs} {R:Value→Heap→Prop}
end Go.Proofs
namespace Go.Proofs
open Go.Sh
variable {H0 H:Heap} {σ:List Rs} {R:Value→Heap→Prop}
end Go.Proofs
namespace Go.Proofs
open Go.Sh
variable {H0 H:Heap} {σ:List Rs} {R:Value→Heap→Prop}
end Go.Proofs
namespace Go.Proofs
open Go.Sh
theorem Ids.perm{D D':List Lay}{x:List Int}(h:Ids D)(hp:(idsKs D').Perm (x++idsKs D))(hx:x.Nodup)(hz: ∀y∈x,y≠0∧y∉idsKs D):Ids D':=
 ⟨(
  hp.nodup_iff).2 (List.nodup_append.2 ⟨hx,h.nodup,fun a ha b hb hab=>(hz a ha).2 (hab▸hb)⟩),fun y hy=>by
  rcases List.mem_append.1 (hp.mem_iff.1 hy) with h1|h1
  ·exact(hz y h1).1
  ·exact h.pos y h1⟩
end Go.Proofs
namespace Go.Proofs
open Go.Sh
variable {H0 H:Heap} {σ:List Rs} {R:Value→Heap→Prop}
structure RT where
 f:LayF
 to:Int
 P:Sl3
 M:Sl3
 A:Sl3
def RT.rw(r:RT):Rw:=⟨r.f,r.to⟩
def cellsR(r:RT):List Value:=
 [.int .i64 r.f.id,.int .i64 r.f.kind,.int .i64 r.to,.bool r.f.hidden,.int .i64 r.f.opacity,.int .i64 r.f.mode,.int .i64 r.f.w,.int .i64 r.f.h,r.P.v,r.M.v,
  .int .i64 r.f.map.a,.int .i64 r.f.map.b,.int .i64 r.f.map.c,.int .i64 r.f.map.d,.int .i64 r.f.map.e,.int .i64 r.f.map.f,.bool r.f.smooth,.int .i64 r.f.table,r.A.v]
structure rdR(H:Heap)(r:RT):Prop where
 p:IS H r.P.p r.P.l (ints r.f.p)
 mask:IS H r.M.p r.M.l (kints .u8 r.f.mask)
 params:IS H r.A.p r.A.l (ints r.f.params)
theorem rdR.ext{H H':Heap}{r:RT}(h:rdR H r)(he:Ext H H'):rdR H' r:=⟨h.p.ext he,h.mask.ext he,h.params.ext he⟩
end Go.Proofs
namespace Go.Proofs
open Go.Sh
variable {H0 H:Heap} {σ:List Rs} {R:Value→Heap→Prop}
end Go.Proofs
namespace Go.Proofs
open Go.Sh
variable {H0 H:Heap} {σ:List Rs} {R:Value→Heap→Prop}
end Go.Proofs
namespace Go.Proofs
open Go.Sh
variable {H0 H:Heap} {σ:List Rs} {R:Value→Heap→Prop}
structure ChgR(g:Int×LayF)(H:Heap)(r:RT)(R:Value→Heap→Prop):Prop where
 bad:g.1≠0→ ∀H',Ext H H'→R (.tuple #[.agg (cellsR r).toArray,.int .i64 g.1]) H'
 ok:g.1=0→ ∀(r':RT) H' τ,r'.f=g.2→r'.to=r.to→St H H' τ→(∀H'' fps,rdR H'' r→Lie H'' τ fps→rdR H'' r')→R (.tuple #[.agg (cellsR r').toArray,.int .i64 0]) H'
end Go.Proofs
