/-
  OWN WORK. Several texts in one: TrF, TrG, TrH, TrI, TrJ, TrK, TrL, TrM, TrN, ShF, TrO, TrP, TrQ, TrR.
-/
import Derived.Test.YthigcnljndbmnaaGreatMgEditorGroupsD

set_option linter.unusedVariables false
set_option linter.unusedSimpArgs false
set_option maxRecDepth 10000
namespace Go.Sh
variable {H0 H H':Heap} {σ τ:List Rs}
theorem permC{α:Type}{a b:List α}(h: ∀(_:DecidableEq α) (x:α),a.count x=b.count x):a.Perm b:=by
 haveI:DecidableEq α:=fun a b=>Classical.propDecidable (a=b)
 exact List.perm_iff_count.2 (h inferInstance)
theorem perm_front{r:Rs}: ∀(l:List Rs) (i:Nat),l[i]?=some r→l.Perm (r::l.eraseIdx i)∧ ∀r',(l.set i r').Perm (r'::l.eraseIdx i)
 |[],i,h=>by simp at h
 |x::l,0,h=>by simp at h;subst h;exact⟨List.Perm.refl _,fun _=>List.Perm.refl _⟩
 |x::l,i+1,h=>by
  obtain⟨h1,h2⟩:=perm_front l i (by simpa using h)
  exact⟨(h1.cons x).trans (List.Perm.swap _ _ _),fun r'=>((h2 r').cons x).trans (List.Perm.swap _ _ _)⟩
theorem St.two(hs:St H0 H σ)(i m:Nat){r s:Rs}(hi:σ[i]?=some r)(hm:σ[m]?=some s)(hne:m≠i): ∃σ2,St H0 H (r::s::σ2)∧ ∀{H' r'},St H0 H' (r'::s::σ2)→St H0 H' (σ.set i r'):=by
 obtain⟨h1,h2⟩:=perm_front σ i hi
 have hm':(σ.eraseIdx i)[if m<i then m else m-1]?=some s:=by
  rw[List.getElem?_eraseIdx]
  by_cases h:m<i
  ·rw[if_pos h,if_pos h];exact hm
  ·rw[if_neg h,if_neg (by omega),show m-1+1=m from by omega];exact hm
 obtain⟨h3,_⟩:=perm_front _ _ hm'
 exact⟨_,hs.perm (h1.trans (h3.cons r)),fun hs'=>hs'.perm ((h3.symm.cons _).trans (h2 _).symm)⟩
theorem St.one(hs:St H0 H σ)(i:Nat){r:Rs}(hi:σ[i]?=some r): ∃σ2,St H0 H (r::σ2)∧ ∀{H' r'},St H0 H' (r'::σ2)→St H0 H' (σ.set i r'):=by
 obtain⟨h1,h2⟩:=perm_front σ i hi
 exact⟨_,hs.perm h1,fun hs'=>hs'.perm (h2 _).symm⟩
theorem St.elCell(hs:St H0 H σ)(i:Nat){p:Option Addr}{l c n:Nat}{el:TypeId}{A cs B:List Value}(hi:σ[i]?=some (.sl p l c el 19 (A++cs++B)))(hA:A.length=n*19){j:Nat}{v:Value}(hv:cs[j]?=some v){a:Addr}(ha:p.map (fun a=>a.add (n*19))=some a):
 Sh.cell H (a.add j)=some v:=by
 have hj:=(List.getElem?_eq_some_iff.1 hv).1
 obtain⟨blk,h1,h2⟩:=(hs.rs i hi).cell (i:=n*19+j) (v:=v) (by
  rw[List.append_assoc,List.getElem?_append_right (by omega),hA,show n*19+j-n*19=j from by omega,List.getElem?_append_left hj];exact hv)
 subst h1
 cases ha
 show Sh.cell H (((⟨blk,0,none⟩:Addr).add (n*19)).add j)=some v
 rw[add_none,add_none,Nat.zero_add]
 exact h2
theorem St.elRow(hs:St H0 H σ)(i:Nat){p:Option Addr}{l c n:Nat}{el:TypeId}{A cs B:List Value}(hi:σ[i]?=some (.sl p l c el 19 (A++cs++B)))(hA:A.length=n*19){a:Addr}(ha:p.map (fun a=>a.add (n*19))=some a):
 rowIn H a cs.toArray:=fun j v hv=>hs.elCell i hi hA (by simpa using hv) ha
theorem St.elAd(hs:St H0 H σ)(i:Nat){p:Option Addr}{l c n:Nat}{el:TypeId}{A cs B:List Value}(hi:σ[i]?=some (.sl p l c el 19 (A++cs++B)))(hc:cs.length=19): ∃a,p.map (fun a=>a.add (n*19))=some a:=by
 obtain⟨b,h⟩:=hs.slSome i (j:=0) hi (by simp;omega)
 rw[h];exact⟨_,rfl⟩
theorem St.elPut(hs:St H0 H σ)(i:Nat){p:Option Addr}{l c n:Nat}{el:TypeId}{A cs B:List Value}(hi:σ[i]?=some (.sl p l c el 19 (A++cs++B)))(hA:A.length=n*19){j:Nat}(hj:j<cs.length){v:Value}(hv:v.oneCell'=true){a:Addr}(ha:p.map (fun a=>a.add (n*19))=some a)
 {f:Heap→Prop}(hK: ∀H',St H0 H' (σ.set i (.sl p l c el 19 (A++cs.set j v++B)))→f H'):stAt H (a.add j) [v] f:=by
 obtain⟨b,hb⟩:=hs.slSome i (j:=0) hi (by simp;omega)
 subst hb
 cases ha
 show stAt H (((⟨b,0,none⟩:Addr).add (n*19)).add j) [v] f
 rw[add_none,add_none,Nat.zero_add]
 refine hs.slPut i hi (by simp;omega) hv fun H' hs'=>hK H' ?_
 rw[List.append_assoc,List.set_append_right _ _ (by omega),hA,show n*19+j-n*19=j from by omega,List.set_append_left _ _ hj,←List.append_assoc] at hs'
 exact hs'
end Go.Sh
namespace Go.Proofs
open Go.Sh
variable {H0 H:Heap} {σ:List Rs} {R:Value→Heap→Prop}
def Fr.cells(fr:Fr)(K:Sl3):List Value:=cellsL fr.f fr.P.v fr.M.v fr.A.v K.v
def Fr.node(fr:Fr)(K:Sl3)(ks:List T):T:= .mk fr.f fr.P fr.M fr.A K ks
def plugZ:List Fr→Sl3→List T→Sl3×List T
 |[],K,ks=>(K,ks)
 |fr::up,K,ks=>plugZ up fr.hdr (fr.pre++fr.node K ks::fr.post)
def resFr(fr:Fr)(K:Sl3):List Rs:=
 .sl fr.hdr.p fr.hdr.l fr.hdr.c 118 19 (cellsKs fr.pre++fr.cells K++cellsKs fr.post):: .sl fr.P.p fr.P.l fr.P.c 3 1 (ints fr.f.p):: .sl fr.M.p fr.M.l fr.M.c 5 1 (kints .u8 fr.f.mask):: .sl fr.A.p fr.A.l fr.A.c 3 1 (ints fr.f.params)::(resKs fr.pre++resKs fr.post)
def resUp:List Fr→Sl3→List Rs
 |[],_=>[]
 |fr::up,K=>resFr fr K++resUp up fr.hdr
def openR(fr:Fr)(up:List Fr)(K:Sl3)(ks:List T):List Rs:=
 .sl fr.hdr.p fr.hdr.l fr.hdr.c 118 19 (cellsKs fr.pre++fr.cells K++cellsKs fr.post):: .sl fr.P.p fr.P.l fr.P.c 3 1 (ints fr.f.p):: .sl fr.M.p fr.M.l fr.M.c 5 1 (kints .u8 fr.f.mask):: .sl fr.A.p fr.A.l fr.A.c 3 1 (ints fr.f.params)::
  .sl K.p K.l K.c 118 19 (cellsKs ks)::(resKs ks++(resKs fr.pre++(resKs fr.post++resUp up fr.hdr)))
theorem cells_mid(fr:Fr)(K:Sl3)(ks:List T):cellsKs (fr.pre++fr.node K ks::fr.post)=cellsKs fr.pre++fr.cells K++cellsKs fr.post:=by
 rw[cellsKs_app,cellsKs_cons,List.append_assoc];rfl
theorem resKs_mid(fr:Fr)(K:Sl3)(ks:List T):resKs (fr.pre++fr.node K ks::fr.post)=resKs fr.pre++(resT (fr.node K ks)++resKs fr.post):=by
 rw[resKs_app,resKs_cons]
theorem plug_res: ∀(up:List Fr) (K:Sl3) (ks:List T),(resG (plugZ up K ks).1 (plugZ up K ks).2).Perm (resG K ks++resUp up K)
 |[],K,ks=>by rw[resUp,List.append_nil];exact List.Perm.refl _
 |fr::up,K,ks=>by
  rw[plugZ]
  refine(plug_res up fr.hdr _).trans ?_
  refine permC fun _ x=>?_
  simp only[resG,cells_mid,resKs_mid]
  simp only[Fr.node,resT_mk,resG,resUp,resFr,List.count_append,List.count_cons]
  ac_rfl
theorem open_perm(fr:Fr)(up:List Fr)(K:Sl3)(ks:List T):(resG (plugZ (fr::up) K ks).1 (plugZ (fr::up) K ks).2).Perm (openR fr up K ks):=by
 refine(plug_res (fr::up) K ks).trans (permC fun _ x=>?_)
 simp only[resG,resUp,resFr,openR,List.count_append,List.count_cons]
 ac_rfl
theorem _root_.Go.Sh.St.opened{S:Sl3}{ss:List T}(hs:St H0 H (resG S ss++σ)){fr:Fr}{up:List Fr}{K:Sl3}{ks:List T}(h:plugZ (fr::up) K ks=(S,ss)):St H0 H (openR fr up K ks++σ):=by
 have:=open_perm fr up K ks
 rw[h] at this
 exact hs.perm (this.append_right σ)
theorem _root_.Go.Sh.St.closed{fr:Fr}{up:List Fr}{K:Sl3}{ks:List T}(hs:St H0 H (openR fr up K ks++σ)):St H0 H (resG (plugZ (fr::up) K ks).1 (plugZ (fr::up) K ks).2++σ):=
 hs.perm ((open_perm fr up K ks).symm.append_right σ)
theorem fz_plug(id:Int):(∀(t:T) (up:List Fr) (K:Sl3) (pre post:List T) (z:Z),fzT up K pre post id t=some z→plugZ z.1 z.2.1 z.2.2=plugZ up K (pre++t::post)):=by
 refine T.ind fun f P M A K' ks ih up K pre post z hz=>?_
 rw[fzT] at hz
 split at hz
 ·cases hz;rfl
 ·have: ∀(ts:List T),(∀t∈ts,t∈ks)→ ∀(u:List Fr) (K0:Sl3) (pre0:List T),fzK u K0 pre0 id ts=some z→plugZ z.1 z.2.1 z.2.2=plugZ u K0 (pre0++ts):=by
   intro ts
   induction ts with
   |nil=>intro _ u K0 pre0 h;rw[fzK] at h;cases h
   |cons t ts ih2=>
    intro hm u K0 pre0 h
    rw[fzK] at h
    split at h
    ·rename_i z' hz'
     cases h
     exact ih t (hm t List.mem_cons_self) _ _ _ _ _ hz'
    ·rw[ih2 (fun t ht=>hm t (List.mem_cons_of_mem _ ht)) _ _ _ h,List.append_assoc];rfl
  rw[this ks (fun _ h=>h) _ _ _ hz]
  rfl
theorem fzK_plug{id:Int}: ∀(ts:List T) (up:List Fr) (K:Sl3) (pre:List T) (z:Z),fzK up K pre id ts=some z→plugZ z.1 z.2.1 z.2.2=plugZ up K (pre++ts)
 |[],up,K,pre,z,h=>by rw[fzK] at h;cases h
 |t::ts,up,K,pre,z,h=>by
  rw[fzK] at h
  split at h
  ·rename_i z' hz'
   cases h
   exact fz_plug id t _ _ _ _ _ hz'
  ·rw[fzK_plug ts _ _ _ _ h,List.append_assoc];rfl
theorem fz_suf(id:Int):(∀(t:T) (up:List Fr) (K:Sl3) (pre post:List T) (z:Z),fzT up K pre post id t=some z→ ∃fr u,z.1=fr::u++up∧fr.f.id=id):=by
 refine T.ind fun f P M A K' ks ih up K pre post z hz=>?_
 rw[fzT] at hz
 split at hz
 ·rename_i h;cases hz;exact⟨_,[],rfl,h⟩
 ·have: ∀(ts:List T),(∀t∈ts,t∈ks)→ ∀(u:List Fr) (K0:Sl3) (pre0:List T),fzK u K0 pre0 id ts=some z→ ∃fr u',z.1=fr::u'++u∧fr.f.id=id:=by
   intro ts
   induction ts with
   |nil=>intro _ u K0 pre0 h;rw[fzK] at h;cases h
   |cons t ts ih2=>
    intro hm u K0 pre0 h
    rw[fzK] at h
    split at h
    ·rename_i z' hz'
     cases h
     exact ih t (hm t List.mem_cons_self) _ _ _ _ _ hz'
    ·exact ih2 (fun t ht=>hm t (List.mem_cons_of_mem _ ht)) _ _ _ h
  obtain⟨fr,u',h1,h2⟩:=this ks (fun _ h=>h) _ _ _ hz
  exact⟨fr,u'++[⟨K,pre,f,P,M,A,post⟩],by rw[h1];simp,h2⟩
theorem fzK_suf{id:Int}: ∀(ts:List T) (up:List Fr) (K:Sl3) (pre:List T) (z:Z),fzK up K pre id ts=some z→ ∃fr u,z.1=fr::u++up∧fr.f.id=id
 |[],up,K,pre,z,h=>by rw[fzK] at h;cases h
 |t::ts,up,K,pre,z,h=>by
  rw[fzK] at h
  split at h
  ·rename_i z' hz'
   cases h
   exact fz_suf id t _ _ _ _ _ hz'
  ·exact fzK_suf ts _ _ _ _ h
def rootF:LayF:=⟨0,1,false,0,0,0,0,[],[],⟨0,0,0,0,0,0⟩,false,0,[]⟩
def rootT(K:Sl3)(ks:List T):T:= .mk rootF .nil .nil .nil K ks
def rootS(b:Nat):Sl3:=⟨some ⟨b,0,none⟩,1,1⟩
def rootFr(b:Nat):Fr:=⟨rootS b,[],rootF,.nil,.nil,.nil,[]⟩
theorem root_ad(b:Nat):(rootFr b).ad=some ⟨b,0,none⟩:=by unfold Fr.ad rootFr rootS;simp
theorem plug_root(b:Nat): ∀(u:List Fr) (K:Sl3) (ks:List T),plugZ (u++[rootFr b]) K ks=(rootS b,[rootT (plugZ u K ks).1 (plugZ u K ks).2])
 |[],K,ks=>rfl
 |fr::u,K,ks=>by rw[List.cons_append,plugZ,plug_root b u];rfl
def resRoot(b:Nat)(K:Sl3)(ks:List T):List Rs:=resG (rootS b) [rootT K ks]
theorem found_open{b:Nat}{K:Sl3}{ks:List T}(hs:St H0 H (resRoot b K ks++σ)){id:Int}{fr:Fr}{up:List Fr}{K':Sl3}{ks':List T}(h:fzK [rootFr b] K [] id ks=some (fr::up,K',ks')):St H0 H (openR fr up K' ks'++σ):=
 hs.opened (by
  have:=fzK_plug ks _ _ _ _ h
  rw[this];rfl)
theorem close_at{b:Nat}{fr:Fr}{u:List Fr}{K:Sl3}{ks:List T}(hs:St H0 H (openR fr (u++[rootFr b]) K ks++σ)):St H0 H (resRoot b (plugZ (fr::u) K ks).1 (plugZ (fr::u) K ks).2++σ):=by
 have:=hs.closed
 rw[←List.cons_append,plug_root] at this
 exact this
end Go.Proofs
namespace Go.Proofs
open Go.Sh
variable {H0 H:Heap} {σ:List Rs} {R:Value→Heap→Prop}
structure FrL where
 pre:List Lay
 f:LayF
 post:List Lay
abbrev ZL:=List FrL×List Lay
mutual
def flT(up:List FrL)(pre post:List Lay)(id:Int):Lay→Option ZL
 | .mk f ks=>if f.id=id then some (⟨pre,f,post⟩::up,ks) else flK (⟨pre,f,post⟩::up) [] id ks
def flK(up:List FrL)(pre:List Lay)(id:Int):List Lay→Option ZL
 |[]=>none
 |t::ts=>match flT up pre ts id t with
  |some z=>some z
  |none=>flK up (pre++[t]) id ts
end
def plugL:List FrL→List Lay→List Lay
 |[],ks=>ks
 |fr::up,ks=>plugL up (fr.pre++ .mk fr.f ks::fr.post)
def Fr.lay(fr:Fr):FrL:=⟨layKs fr.pre,fr.f,layKs fr.post⟩
def layZ(z:Z):ZL:=(z.1.map Fr.lay,layKs z.2.2)
theorem fz_lay(id:Int): ∀(t:T) (up:List Fr) (K:Sl3) (pre post:List T),(fzT up K pre post id t).map layZ=flT (up.map Fr.lay) (layKs pre) (layKs post) id (layT t):=by
 refine T.ind fun f P M A K' ks ih up K pre post=>?_
 rw[fzT,layT,flT]
 split
 ·rfl
 ·have: ∀(ts:List T),(∀t∈ts,t∈ks)→ ∀(u:List Fr) (K0:Sl3) (pre0:List T),(fzK u K0 pre0 id ts).map layZ=flK (u.map Fr.lay) (layKs pre0) id (layKs ts):=by
   intro ts
   induction ts with
   |nil=>intro _ u K0 pre0;rfl
   |cons t ts ih2=>
    intro hm u K0 pre0
    rw[fzK,layKs,flK,←ih t (hm t List.mem_cons_self) u K0 pre0 ts]
    cases fzT u K0 pre0 ts id t with
    |some z=>rfl
    |none=>
     have:=ih2 (fun t ht=>hm t (List.mem_cons_of_mem _ ht)) u K0 (pre0++[t])
     rw[layKs_app,show layKs [t]=[layT t] from rfl] at this
     exact this
  exact this ks (fun _ h=>h) _ _ _
theorem fzK_lay{id:Int}: ∀(ts:List T) (up:List Fr) (K:Sl3) (pre:List T),(fzK up K pre id ts).map layZ=flK (up.map Fr.lay) (layKs pre) id (layKs ts)
 |[],up,K,pre=>rfl
 |t::ts,up,K,pre=>by
  rw[fzK,layKs,flK,←fz_lay id t up K pre ts]
  cases fzT up K pre ts id t with
  |some z=>rfl
  |none=>
   have:=fzK_lay (id:=id) ts up K (pre++[t])
   rw[layKs_app,show layKs [t]=[layT t] from rfl] at this
   exact this
def addUp(up:List FrL)(z:ZL):ZL:=(z.1++up,z.2)
theorem fl_up(id:Int): ∀(t:Lay) (v up:List FrL) (pre post:List Lay),flT (v++up) pre post id t=(flT v pre post id t).map (addUp up):=by
 refine Lay.ind fun f ks ih v up pre post=>?_
 rw[flT,flT]
 split
 ·rfl
 ·have: ∀(ts:List Lay),(∀t∈ts,t∈ks)→ ∀(u:List FrL) (pre0:List Lay),flK (u++up) pre0 id ts=(flK u pre0 id ts).map (addUp up):=by
   intro ts
   induction ts with
   |nil=>intro _ u pre0;rfl
   |cons t ts ih2=>
    intro hm u pre0
    rw[flK,flK,ih t (hm t List.mem_cons_self) u up pre0 ts]
    cases flT u pre0 ts id t with
    |some z=>rfl
    |none=>exact ih2 (fun t ht=>hm t (List.mem_cons_of_mem _ ht)) u (pre0++[t])
  exact this ks (fun _ h=>h) (_::v) _
theorem flK_up{id:Int}: ∀(ts:List Lay) (v up:List FrL) (pre:List Lay),flK (v++up) pre id ts=(flK v pre id ts).map (addUp up)
 |[],v,up,pre=>rfl
 |t::ts,v,up,pre=>by
  rw[flK,flK,fl_up id t v up pre ts]
  cases flT v pre ts id t with
  |some z=>rfl
  |none=>exact flK_up ts v up (pre++[t])
theorem plug_lay: ∀(u:List Fr) (K:Sl3) (ks:List T),layKs (plugZ u K ks).2=plugL (u.map Fr.lay) (layKs ks)
 |[],K,ks=>rfl
 |fr::u,K,ks=>by
  rw[plugZ,plug_lay u,List.map_cons,plugL,layKs_app,layKs]
  rfl
theorem find_cases(b:Nat)(K:Sl3)(ks:List T)(id:Int):(fzK [rootFr b] K [] id ks=none∧flK [] [] id (layKs ks)=none)∨
 ∃fr u K' ks',fzK [rootFr b] K [] id ks=some (fr::(u++[rootFr b]),K',ks')∧fr.f.id=id∧flK [] [] id (layKs ks)=some ((fr::u).map Fr.lay,layKs ks'):=by
 have h1:=fzK_lay (id:=id) ks [rootFr b] K []
 have h2:=flK_up (id:=id) (layKs ks) [] ([rootFr b].map Fr.lay) (layKs [])
 rw[List.nil_append] at h2
 rw[h2] at h1
 cases hz:fzK [rootFr b] K [] id ks with
 |none=>
  rw[hz] at h1
  left
  refine⟨rfl,?_⟩
  cases hf:flK [] (layKs []) id (layKs ks) with
  |none=>exact hf
  |some z=>rw[hf] at h1;cases h1
 |some z=>
  right
  obtain⟨fr,u,h3,h4⟩:=fzK_suf ks _ _ _ _ hz
  obtain⟨z1,K',ks'⟩:=z
  simp only at h3
  subst h3
  refine⟨fr,u,K',ks',rfl,h4,?_⟩
  rw[hz] at h1
  cases hf:flK [] (layKs []) id (layKs ks) with
  |none=>rw[hf] at h1;cases h1
  |some z=>
   rw[hf] at h1
   simp only[Option.map_some,Option.some.injEq,layZ,addUp,Prod.mk.injEq,List.map_append] at h1
   have h5:=List.append_cancel_right h1.1
   obtain⟨z1,z2⟩:=z
   simp only at h5 h1
   show flK [] (layKs []) id (layKs ks)=_
   rw[hf,←h5,←h1.2]
structure Ed where
 kind:Int
 id:Int
 to:Int
 at_:Int
 n:Int
 m:Int
 x:Int
 y:Int
 w:Int
 h:Int
 p:List Int
 shape:List (Int×Int)
 map:M6
 params:List Int
structure EdS where
 P:Sl3
 S:Sl3
 A:Sl3
def edL(e:Ed)(s:EdS):List Value:=
 [.int .i64 e.kind,.int .i64 e.id,.int .i64 e.to,.int .i64 e.at_,.int .i64 e.n,.int .i64 e.m,.int .i64 e.x,.int .i64 e.y,.int .i64 e.w,.int .i64 e.h,s.P.v,s.S.v,
  .int .i64 e.map.a,.int .i64 e.map.b,.int .i64 e.map.c,.int .i64 e.map.d,.int .i64 e.map.e,.int .i64 e.map.f,s.A.v]
def workL(r d:Nat)(e:Ed)(s:EdS):List Value:= .pointer (some ⟨r,0,none⟩):: .pointer (some ⟨d,0,none⟩)::edL e s
structure IS2(H:Heap)(p:Option Addr)(l:Nat)(pts:List (Int×Int)):Prop where
 len:pts.length=l
 get: ∀(i:Nat) x y,pts[i]?=some (x,y)→ ∃a,p=some a∧rowIn H (a.add (i*2)) #[.int .i64 x,.int .i64 y]
theorem IS2.ext{H H':Heap}{p:Option Addr}{l:Nat}{pts:List (Int×Int)}(h:IS2 H p l pts)(he:Ext H H'):IS2 H' p l pts:=⟨h.len,fun i x y hi=>let ⟨a,h1,h2⟩:=h.get i x y hi;⟨a,h1,rowAt_ext he h2⟩⟩
structure rdEd(H:Heap)(e:Ed)(s:EdS):Prop where
 p:IS H s.P.p s.P.l (ints e.p)
 shape:IS2 H s.S.p s.S.l e.shape
 params:IS H s.A.p s.A.l (ints e.params)
theorem rdEd.ext{H H':Heap}{e:Ed}{s:EdS}(h:rdEd H e s)(he:Ext H H'):rdEd H' e s:=⟨h.p.ext he,h.shape.ext he,h.params.ext he⟩
theorem find_root{b:Nat}{K:Sl3}{ks:List T}(hs:St H0 H (resRoot b K ks++σ)){id:Int}(hc:cntKs (layKs ks)≤1000000000000)
 (hR: ∀H',Ext H H'→(∀z,fzK [rootFr b] K [] id ks=some z→(resZ (some z)).1≠none)→
  R (.tuple #[.pointer (resZ (fzK [rootFr b] K [] id ks)).1,.pointer (resZ (fzK [rootFr b] K [] id ks)).2.1,.int .i64 (resZ (fzK [rootFr b] K [] id ks)).2.2]) H'):CallsH Tryz.prog 119 #[.pointer (some ⟨b,0,none⟩),.int .i64 id] H R:=by
 obtain⟨a,h1,h2,h3⟩:=hs.grp.get (i:=0) (t:=rootT K ks) rfl
 cases h1
 rw[Nat.zero_mul,add_none] at h2
 exact c119 (rootT K ks) (fr:=rootFr b) (up:=[]) (root_ad b) h2 h3 hc hR
theorem c121{b d:Nat}{e:Ed}{s:EdS}{K:Sl3}{ks:List T}(hs:St H0 H (resRoot b K ks++σ))(hc:cntKs (layKs ks)≤1000000000000)
 (h0:fzK [rootFr b] K [] e.id ks=none→ ∀H',Ext H H'→R (.tuple #[.pointer none,.int .i64 40]) H')
 (h1: ∀z a,fzK [rootFr b] K [] e.id ks=some z→(resZ (some z)).1=some a→ ∀H',Ext H H'→R (.tuple #[.pointer (some a),.int .i64 0]) H'):CallsH Tryz.prog 121 #[.agg (workL b d e s).toArray] H R:=by
 refine Tryz.s121 ?_
 unfold Tryz.S121
 refine hs.alcE fun b2 H3 he hs3=>⟨_,hs3.get 0 rfl rfl,_,hs3.get 0 rfl (j:=3) rfl,?_⟩
 refine find_root hs3.tail hc fun H7 he7 hne=>⟨_,_,_,rfl,?_⟩
 cases hz:fzK [rootFr b] K [] e.id ks with
 |none=>exact br_t rfl (h0 hz H7 (he.trans he7))
 |some z=>
  cases ha:(resZ (some z)).1 with
  |none=>exact absurd ha (hne z hz)
  |some a=>exact br_f rfl (h1 z a hz ha H7 (he.trans he7))
theorem cells_1(fr:Fr)(K:Sl3):(fr.cells K)[1]?=some (.int .i64 fr.f.kind):=rfl
theorem cells_18(fr:Fr)(K:Sl3):(fr.cells K)[18]?=some (.slice K.p K.l K.c):=rfl
theorem c117{b d:Nat}{e:Ed}{s:EdS}{K:Sl3}{ks:List T}(hs:St H0 H (resRoot b K ks++σ))(hc:cntKs (layKs ks)≤1000000000000)
 (h0:e.to=0→ ∀H',Ext H H'→R (.tuple #[.pointer (some ⟨b,0,none⟩),.int .i64 0]) H')
 (h1:e.to≠0→fzK [rootFr b] K [] e.to ks=none→ ∀H',Ext H H'→R (.tuple #[.pointer none,.int .i64 40]) H')
 (h2:e.to≠0→ ∀fr u K' ks',fzK [rootFr b] K [] e.to ks=some (fr::(u++[rootFr b]),K',ks')→fr.f.kind≠1→ ∀H',Ext H H'→R (.tuple #[.pointer none,.int .i64 41]) H')
 (h3:e.to≠0→ ∀fr u K' ks' a,fzK [rootFr b] K [] e.to ks=some (fr::(u++[rootFr b]),K',ks')→fr.f.kind=1→fr.ad=some a→ ∀H',Ext H H'→R (.tuple #[.pointer (some a),.int .i64 0]) H'):
 CallsH Tryz.prog 117 #[.agg (workL b d e s).toArray] H R:=by
 refine Tryz.s117 ?_
 unfold Tryz.S117
 refine hs.alcE fun b2 H3 he hs3=>⟨_,hs3.get 0 rfl (j:=4) rfl,br_eq (fun ht=>?_) fun ht=>?_⟩
 ·exact⟨_,hs3.get 0 rfl rfl,h0 ht H3 he⟩
 ·refine⟨_,hs3.get 0 rfl rfl,_,hs3.get 0 rfl (j:=4) rfl,?_⟩
  refine find_root hs3.tail hc fun H7 he7 hne=>⟨_,_,_,rfl,?_⟩
  rcases find_cases b K ks e.to with ⟨hz,_⟩|⟨fr,u,K',ks',hz,hid,_⟩
  ·rw[hz]
   exact br_t rfl (h1 ht hz H7 (he.trans he7))
  ·have hop:=found_open (hs3.tail.step he7) hz
   obtain⟨a,ha⟩:=hop.elAd (n:=fr.pre.length) 0 rfl (by rfl)
   have hfa:fr.ad=some a:=ha
   have e1:resZ (some (fr::(u++[rootFr b]),K',ks'))=(some a,(resZ (some (fr::(u++[rootFr b]),K',ks'))).2.1,(resZ (some (fr::(u++[rootFr b]),K',ks'))).2.2):=by
    cases u<;>simp[resZ,hfa]
   rw[hz,e1]
   refine br_f rfl ⟨a,rfl,fr.f.kind,hop.elCell 0 rfl (cellsKs_len fr.pre) (cells_1 fr K') ha,br_ne (fun hk=>?_) fun hk=>?_⟩
   ·exact h2 ht fr u K' ks' hz hk H7 (he.trans he7)
   ·exact h3 ht fr u K' ks' a hz hk hfa H7 (he.trans he7)
end Go.Proofs
namespace Go.Proofs
open Go.Sh
variable {H0 H:Heap} {σ:List Rs} {R:Value→Heap→Prop}
def atL(a:Int)(n:Nat):Option Nat:=if a= -1 then some n else if 0≤a∧a≤n then some a.toNat else none
theorem atL_le{a:Int}{n i:Nat}(h:atL a n=some i):i≤n:=by
 unfold atL at h
 split at h
 ·cases h;exact Nat.le_refl _
 ·split at h
  ·cases h;omega
  ·cases h
def homeL(D:List Lay)(to:Int):Int×ZL:=
 if to=0 then(0,[],D) else match flK [] [] to D with
  |some (fr::u,ks)=>if fr.f.kind=1 then(0,fr::u,ks) else(41,[],[])
  |_=>(40,[],[])
def putL(v:List FrL)(kh:List Lay)(a:Int)(l:Lay):Int×List Lay:=
 match atL a kh.length with
 |none=>(43,[])
 |some i=>(if 64<depKs (plugL v (kh.take i++l::kh.drop i)) then 31 else 0,plugL v (kh.take i++l::kh.drop i))
def moveL(D:List Lay)(e:Ed):Int×List Lay:=
 match flK [] [] e.id D with
 |some (fr::u,ks')=>
  if (homeL D e.to).1≠0 then((homeL D e.to).1,[]) else
  if e.to=e.id∨(flK [] [] e.to ks').isSome=true then(42,[]) else
  if (homeL (plugL u (fr.pre++fr.post)) e.to).1≠0 then((homeL (plugL u (fr.pre++fr.post)) e.to).1,[]) else
  putL (homeL (plugL u (fr.pre++fr.post)) e.to).2.1 (homeL (plugL u (fr.pre++fr.post)) e.to).2.2 e.at_ (.mk fr.f ks')
 |_=>(40,[])
def removeL(D:List Lay)(id:Int):Int×List Lay:=
 match flK [] [] id D with
 |some (fr::u,_)=>(0,plugL u (fr.pre++fr.post))
 |_=>(40,[])
def newL(next:Int)(e:Ed):LayF:=
 ⟨next,e.n,false,255,0,if e.n=0 then e.w else 0,if e.n=0 then e.h else 0,if e.n=0 then List.replicate (e.w*e.h).toNat 0 else[],[],⟨65536,0,0,65536,0,0⟩,false,2,[]⟩
def addL(next:Int)(D:List Lay)(e:Ed):Int×List Lay:=
 if e.n<0∨e.n>2 then(41,[]) else
 if e.n=0∧sizedB e.w e.h=false then(31,[]) else
 if (homeL D e.to).1≠0 then((homeL D e.to).1,[]) else
 if (putL (homeL D e.to).2.1 (homeL D e.to).2.2 e.at_ (.mk (newL next e) [])).1≠0 then((putL (homeL D e.to).2.1 (homeL D e.to).2.2 e.at_ (.mk (newL next e) [])).1,[]) else
 if 4096≤cntKs D then(31,[]) else(0,(putL (homeL D e.to).2.1 (homeL D e.to).2.2 e.at_ (.mk (newL next e) [])).2)
def cntUp:List FrL→Nat
 |[]=>0
 |fr::u=>1+cntKs fr.pre+cntKs fr.post+cntUp u
theorem cnt_plug: ∀(u:List FrL) (ks:List Lay),cntKs (plugL u ks)=cntUp u+cntKs ks
 |[],ks=>by rw[plugL,cntUp,Nat.zero_add]
 |fr::u,ks=>by rw[plugL,cnt_plug u,cntKs_app,cntKs,cntL,cntUp];omega
theorem cellsKs_take(ks:List T)(i:Nat):cellsKs (ks.take i)=(cellsKs ks).take (i*19)∧cellsKs (ks.drop i)=(cellsKs ks).drop (i*19):=by
 have h:=cellsKs_app (ks.take i) (ks.drop i)
 rw[List.take_append_drop] at h
 rcases Nat.lt_or_ge i ks.length with hi|hi
 ·have hl:(cellsKs (ks.take i)).length=i*19:=by rw[cellsKs_len,List.length_take];congr 1;omega
  exact⟨by rw[h,List.take_left' hl],by rw[h,List.drop_left' hl]⟩
 ·rw[List.take_of_length_le hi,List.drop_of_length_le hi,List.take_of_length_le (by rw[cellsKs_len];exact Nat.mul_le_mul_right _ hi),List.drop_of_length_le (by rw[cellsKs_len];exact Nat.mul_le_mul_right _ hi)]
  exact⟨rfl,rfl⟩
theorem closed_v{b:Nat}{fr:Fr}{up v:List Fr}{K:Sl3}{ks:List T}(hv:fr::up=v++[rootFr b])(hs:St H0 H (openR fr up K ks++σ)):St H0 H (resRoot b (plugZ v K ks).1 (plugZ v K ks).2++σ):=by
 have:=hs.closed
 rw[hv,plug_root] at this
 exact this
theorem c118{b d:Nat}{e:Ed}{s:EdS}{fr:Fr}{up v:List Fr}{K:Sl3}{ks:List T}{l:T}{a:Addr}(hv:fr::up=v++[rootFr b])(ha:fr.ad=some a)(hs:St H0 H (openR fr up K ks++(resT l++σ)))
 (hlen:ks.length≤1000000000)(hc:cntUp (v.map Fr.lay)+cntKs (layKs ks)+cntL (layT l)≤1000000000000)
 (h43:atL e.at_ ks.length=none→ ∀H',Ext H H'→R (.int .i64 43) H')
 (hR: ∀i K2 H',atL e.at_ ks.length=some i→St H0 H' (openR fr up K2 (ks.take i++l::ks.drop i)++σ)→R (.int .i64 (if 64<depKs (plugL (v.map Fr.lay) (layKs (ks.take i++l::ks.drop i))) then 31 else 0)) H'):
 CallsH Tryz.prog 118 #[.agg (workL b d e s).toArray,.pointer (some a),.agg (cellsT l).toArray] H R:=by
 have hKl:K.l=ks.length:=by have:=(hs.fs 4 rfl).len;rw[cellsKs_len] at this;omega
 refine Tryz.s118 ?_
 unfold Tryz.S118
 refine hs.alcE fun b4 H5 he5 hs5=>hs5.alcE fun b6 H7 he7 hs7=>⟨_,hs7.get 1 rfl (j:=5) rfl,?_⟩
 have he:=he5.trans he7
 have hK18:=hs7.elCell 2 rfl (cellsKs_len fr.pre) (cells_18 fr K) ha
 intro J hJ
 have main: ∀i,atL e.at_ ks.length=some i→J [.int .i64 (i:Int)] H7:=fun i hi=>by
  have hil:=atL_le hi
  refine hJ _ _ ?_
  intro J2 hJ2
  refine br_dec (fun h=>by omega) fun _=>⟨a,rfl,_,_,_,hK18,br_dec (fun h=>by omega) fun _=>hJ2 _ ?_⟩
  refine⟨a,rfl,_,_,_,hK18,(cellsT l).toArray,by simp[cellsT_len],rowIn_whole (hs7.block 0 rfl),by simp[cellsT_len],by decide,?_⟩
  rw[setL_all (by simp[cellsT_len])]
  refine hs7.alcE fun b17 H18 he18 hs18=>⟨.inl he18,?_⟩
  obtain⟨σ2,hs2,hback⟩:=hs18.two 7 0 rfl rfl (by decide)
  refine c162 (K:=K) hs2 (by simp[cellsT_len]) (by simpa using cellsT_one l) (by omega) (by omega) fun K2 H20 hl2 hs20=>⟨_,_,_,rfl,a,rfl,?_⟩
  have hs21:=hback hs20
  refine hs21.elPut 3 rfl (cellsKs_len fr.pre) (j:=18) (Nat.le_of_ble_eq_true rfl) rfl ha fun H23 hs23=>⟨_,hs23.get 2 rfl rfl,_,rfl,?_⟩
  have hcells:(cellsKs ks).take (i*19)++(cellsT l).toArray.toList++(cellsKs ks).drop (i*19)=cellsKs (ks.take i++l::ks.drop i):=by
   rw[cellsKs_app,cellsKs_cons,(cellsKs_take ks i).1,(cellsKs_take ks i).2,List.append_assoc]
  rw[show(List.toArray (Array.toList (cellsT l).toArray)).toList=(cellsT l).toArray.toList from rfl,hcells] at hs23
  have hs24:St H0 H23 (openR fr up K2 (ks.take i++l::ks.drop i)++σ):=by
   refine(hs23.drop 3).perm (permC fun _ x=>?_)
   show List.count x ((.sl fr.hdr.p fr.hdr.l fr.hdr.c 118 19 (cellsKs fr.pre++fr.cells K2++cellsKs fr.post):: .sl fr.P.p fr.P.l fr.P.c 3 1 (ints fr.f.p):: .sl fr.M.p fr.M.l fr.M.c 5 1 (kints .u8 fr.f.mask):: .sl fr.A.p fr.A.l fr.A.c 3 1 (ints fr.f.params)::
    .sl K2.p K2.l K2.c 118 19 (cellsKs (ks.take i++l::ks.drop i))::(resKs ks++(resKs fr.pre++(resKs fr.post++resUp up fr.hdr))))++(resT l++σ))=_
   have hr:resKs ks=resKs (ks.take i)++resKs (ks.drop i):=by rw[←resKs_app,List.take_append_drop]
   rw[hr]
   simp only[openR,resKs_app,resKs_cons,List.count_append,List.count_cons]
   ac_rfl
  have hcl:=closed_v hv hs24
  obtain⟨a0,h1,h2,h3⟩:=hcl.grp.get (i:=0) (t:=rootT _ _) rfl
  cases h1
  rw[Nat.zero_mul,add_none] at h2
  refine⟨_,_,_,h2 18 _ rfl,?_⟩
  have hlay:=plug_lay v K2 (ks.take i++l::ks.drop i)
  refine c163 (K:=(plugZ v K2 (ks.take i++l::ks.drop i)).1) (rdT.grp h3) ?_ fun H28 he28=>⟨_,rfl,?_⟩
  ·show cntKs (layKs (plugZ v K2 (ks.take i++l::ks.drop i)).2)≤_
   rw[hlay,cnt_plug,layKs_app,layKs,cntKs_app,cntKs]
   have:=cntKs_app (layKs (ks.take i)) (layKs (ks.drop i))
   rw[←layKs_app,List.take_append_drop] at this
   omega
  ·have:=hR i K2 H28 hi (hs24.step he28)
   rw[←hlay] at this
   refine br_dec (fun h=>?_) fun h=>?_
   ·rw[if_pos (by have:(64:Int)<(depKs (layKs (rootT (plugZ v K2 (ks.take i++l::ks.drop i)).1 (plugZ v K2 (ks.take i++l::ks.drop i)).2).kids):Int):=h;exact Int.ofNat_lt.1 this)] at this
    exact this
   ·rw[if_neg (by have h': ¬(64:Int)<(depKs (layKs (rootT (plugZ v K2 (ks.take i++l::ks.drop i)).1 (plugZ v K2 (ks.take i++l::ks.drop i)).2).kids):Int):=h;exact fun hh=>h' (Int.ofNat_lt.2 hh))] at this
    exact this
 refine br_eq (fun hm=>?_) fun hm=>?_
 ·refine⟨a,rfl,_,_,_,hK18,?_⟩
  rw[hKl]
  exact main _ (by unfold atL;rw[if_pos hm])
 ·by_cases h0:0≤e.at_∧e.at_≤ks.length
  ·have:=main e.at_.toNat (by unfold atL;rw[if_neg hm,if_pos h0])
   rw[Int.toNat_of_nonneg h0.1] at this
   exact this
  ·have hn:atL e.at_ ks.length=none:=by unfold atL;rw[if_neg hm,if_neg h0]
   refine hJ _ _ ?_
   intro J2 hJ2
   refine br_dec (fun h=>h43 hn H7 he) fun h1=>⟨a,rfl,_,_,_,hK18,br_dec (fun h=>h43 hn H7 he) fun h2=>absurd ⟨by omega,by omega⟩ h0⟩
end Go.Proofs
namespace Go.Proofs
open Go.Sh
variable {H0 H:Heap} {σ:List Rs} {R:Value→Heap→Prop}
theorem open_rdT{fr:Fr}{up:List Fr}{K:Sl3}{ks:List T}(hs:St H0 H (openR fr up K ks++σ)):rdT H (fr.node K ks):=by
 refine St.rdT (fr.node K ks) (σ:= .sl fr.hdr.p fr.hdr.l fr.hdr.c 118 19 (cellsKs fr.pre++fr.cells K++cellsKs fr.post)::(resKs fr.pre++(resKs fr.post++resUp up fr.hdr))++σ) (hs.perm (permC fun _ x=>?_))
 simp only[openR,Fr.node,resT_mk,resG,List.count_append,List.count_cons]
 ac_rfl
theorem up_cases(u:List Fr)(b:Nat): ∃fp up',u++[rootFr b]=fp::up':=by
 cases u with
 |nil=>exact⟨_,_,rfl⟩
 |cons x u=>exact⟨_,_,rfl⟩
theorem c69{b d:Nat}{e:Ed}{s:EdS}{K:Sl3}{ks:List T}(hs:St H0 H (resRoot b K ks++σ))(hc:cntKs (layKs ks)≤1000000000)
 (h0:fzK [rootFr b] K [] e.id ks=none→ ∀H',Ext H H'→R (.int .i64 40) H')
 (h1: ∀fr u K' ks' Kn ksn H',fzK [rootFr b] K [] e.id ks=some (fr::(u++[rootFr b]),K',ks')→layKs ksn=plugL (u.map Fr.lay) (layKs fr.pre++layKs fr.post)→St H0 H' (resRoot b Kn ksn++(resT (fr.node K' ks')++σ))→R (.int .i64 0) H'):
 CallsH Tryz.prog 69 #[.agg (workL b d e s).toArray] H R:=by
 refine Tryz.s69 ?_
 unfold Tryz.S69
 refine hs.alcE fun b2 H3 he hs3=>⟨_,hs3.get 0 rfl rfl,_,hs3.get 0 rfl (j:=3) rfl,?_⟩
 refine find_root hs3.tail (by omega) fun H7 he7 hne=>⟨_,_,_,rfl,?_⟩
 rcases find_cases b K ks e.id with ⟨hz,_⟩|⟨fr,u,K',ks',hz,hid,hfl⟩
 ·rw[hz]
  exact br_t rfl (h0 hz H7 (he.trans he7))
 ·have hop:=found_open (hs3.tail.step he7) hz
  obtain⟨a,ha⟩:=hop.elAd (n:=fr.pre.length) 0 rfl (by rfl)
  have hfa:fr.ad=some a:=ha
  obtain⟨fp,up',hup⟩:=up_cases u b
  have hpl:plugZ (fp::up') fr.hdr (fr.pre++fr.node K' ks'::fr.post)=(rootS b,[rootT K ks]):=by
   have:=fzK_plug ks _ _ _ _ hz
   rw[hup] at this
   exact this.trans rfl
  have hcn:cntKs (layKs ks)=cntUp (u.map Fr.lay)+cntKs (layKs (fr.pre++fr.node K' ks'::fr.post)):=by
   rw[←cnt_plug,←plug_lay u fr.hdr]
   have h2:=hpl
   rw[←hup,plug_root] at h2
   have h3:=congrArg (fun(q:Sl3×List T)=>q.2.map T.kids) h2
   simp only[List.map_cons,List.map_nil,rootT,T.kids,List.cons.injEq,and_true] at h3
   rw[h3]
  have hpre:fr.pre.length+1+fr.post.length≤cntKs (layKs ks):=by
   have h2:=len_cnt (layKs (fr.pre++fr.node K' ks'::fr.post))
   rw[layKs_len,List.length_append,List.length_cons] at h2
   omega
  have hs8:=(hs3.tail.step he7).opened hpl
  obtain⟨a2,ha2⟩:=hs8.elAd (n:=fp.pre.length) 0 rfl (by rfl)
  have hfa2:fp.ad=some a2:=ha2
  have e1:resZ (some (fr::(u++[rootFr b]),K',ks'))=(some a,some a2,(fr.pre.length:Int)):=by
   rw[hup];simp[resZ,hfa,hfa2]
  rw[hz,e1]
  have hhl:fr.hdr.l=fr.pre.length+1+fr.post.length:=by
   have:=(hs8.fs 4 rfl).len
   rw[cellsKs_len,List.length_append,List.length_cons] at this;omega
  refine br_f rfl ⟨a2,rfl,_,_,_,hs8.elCell 0 rfl (cellsKs_len fp.pre) (cells_18 fp fr.hdr) ha2,?_⟩
  rw[wrap_id (n:=((fr.pre.length:Nat):Int)+1) (by omega) (by omega)]
  obtain⟨σ2,hs9,hback⟩:=hs8.one 4 rfl
  refine c120 (K:=fr.hdr) (i:=fr.pre.length) hs9 (by omega) (by omega) fun K2 H14 hl2 hs14=>⟨_,_,_,rfl,a2,rfl,?_⟩
  have hs15:=hback hs14
  refine hs15.elPut 0 rfl (cellsKs_len fp.pre) (j:=18) (Nat.le_of_ble_eq_true rfl) rfl ha2 fun H17 hs17=>?_
  have hcells:(cellsKs (fr.pre++fr.node K' ks'::fr.post)).take (fr.pre.length*19)++(cellsKs (fr.pre++fr.node K' ks'::fr.post)).drop ((fr.pre.length+1)*19)=cellsKs (fr.pre++fr.post):=by
   rw[←(cellsKs_take _ _).1,←(cellsKs_take _ _).2,List.take_left' rfl,cellsKs_app]
   congr 2
   rw[show fr.pre++fr.node K' ks'::fr.post=(fr.pre++[fr.node K' ks'])++fr.post from by simp,List.drop_left' (by simp)]
  rw[hcells] at hs17
  have hs18:St H0 H17 (openR fp up' K2 (fr.pre++fr.post)++(resT (fr.node K' ks')++σ)):=by
   refine hs17.perm (permC fun _ x=>?_)
   show List.count x ((.sl fp.hdr.p fp.hdr.l fp.hdr.c 118 19 (cellsKs fp.pre++fp.cells K2++cellsKs fp.post):: .sl fp.P.p fp.P.l fp.P.c 3 1 (ints fp.f.p):: .sl fp.M.p fp.M.l fp.M.c 5 1 (kints .u8 fp.f.mask):: .sl fp.A.p fp.A.l fp.A.c 3 1 (ints fp.f.params)::
    .sl K2.p K2.l K2.c 118 19 (cellsKs (fr.pre++fr.post))::(resKs (fr.pre++fr.node K' ks'::fr.post)++(resKs fp.pre++(resKs fp.post++resUp up' fp.hdr))))++σ)=_
   simp only[openR,resKs_app,resKs_cons,List.count_append,List.count_cons]
   ac_rfl
  have hs19:=closed_v (v:=u) hup.symm hs18
  refine h1 fr u K' ks' _ _ H17 hz ?_ hs19
  rw[plug_lay,layKs_app]
theorem home_eq(b:Nat)(K:Sl3)(ks:List T)(to:Int):(to=0∧homeL (layKs ks) to=(0,[],layKs ks))∨(to≠0∧fzK [rootFr b] K [] to ks=none∧homeL (layKs ks) to=(40,[],[]))∨
 (to≠0∧ ∃fr u K' ks',fzK [rootFr b] K [] to ks=some (fr::(u++[rootFr b]),K',ks')∧((fr.f.kind≠1∧homeL (layKs ks) to=(41,[],[]))∨(fr.f.kind=1∧homeL (layKs ks) to=(0,(fr::u).map Fr.lay,layKs ks')))):=by
 by_cases h:to=0
 ·exact .inl ⟨h,by unfold homeL;rw[if_pos h]⟩
 ·rcases find_cases b K ks to with ⟨hz,hl⟩|⟨fr,u,K',ks',hz,hid,hl⟩
  ·exact .inr (.inl ⟨h,hz,by unfold homeL;rw[if_neg h,hl]⟩)
  ·refine .inr (.inr ⟨h,fr,u,K',ks',hz,?_⟩)
   by_cases hk:fr.f.kind=1
   ·exact .inr ⟨hk,by unfold homeL;rw[if_neg h,hl];show(if fr.f.kind=1 then _ else _)=_;rw[if_pos hk];rfl⟩
   ·exact .inl ⟨hk,by unfold homeL;rw[if_neg h,hl];show(if fr.f.kind=1 then _ else _)=_;rw[if_neg hk]⟩
theorem home_call{b d:Nat}{e:Ed}{s:EdS}{K:Sl3}{ks:List T}(hs:St H0 H (resRoot b K ks++σ))(hc:cntKs (layKs ks)≤1000000000000)
 (h0: ∀p H',Ext H H'→(homeL (layKs ks) e.to).1≠0→R (.tuple #[.pointer p,.int .i64 (homeL (layKs ks) e.to).1]) H')
 (h1: ∀fr up v K' ks' a H',Ext H H'→homeL (layKs ks) e.to=(0,v.map Fr.lay,layKs ks')→fr::up=v++[rootFr b]→plugZ (fr::up) K' ks'=(rootS b,[rootT K ks])→fr.ad=some a→R (.tuple #[.pointer (some a),.int .i64 0]) H'):
 CallsH Tryz.prog 117 #[.agg (workL b d e s).toArray] H R:=by
 rcases home_eq b K ks e.to with ⟨ht,hh⟩|⟨ht,hz,hh⟩|⟨ht,fr,u,K',ks',hz,⟨hk,hh⟩|⟨hk,hh⟩⟩
 ·exact c117 hs hc (fun _ H' he=>h1 (rootFr b) [] [] K ks _ H' he hh rfl rfl (root_ad b)) (fun h=>absurd ht h) (fun h=>absurd ht h) (fun h=>absurd ht h)
 ·exact c117 hs hc (fun h=>absurd h ht) (fun _ _ H' he=>by have:=h0 none H' he (by rw[hh];decide);rw[hh] at this;exact this) (fun _ fr u K' ks' h=>by rw[hz] at h;cases h) (fun _ fr u K' ks' a h=>by rw[hz] at h;cases h)
 ·exact c117 hs hc (fun h=>absurd h ht) (fun _ h=>by rw[hz] at h;cases h) (fun _ _ _ _ _ _ _ H' he=>by have:=h0 none H' he (by rw[hh];decide);rw[hh] at this;exact this)
   (fun _ fr' u' K'' ks'' a h hk'=>by rw[hz] at h;simp only[Option.some.injEq,Prod.mk.injEq,List.cons.injEq] at h;rw[h.1.1] at hk;exact absurd hk' hk)
 ·refine c117 hs hc (fun h=>absurd h ht) (fun _ h=>by rw[hz] at h;cases h) (fun _ fr' u' K'' ks'' h hk'=>by rw[hz] at h;simp only[Option.some.injEq,Prod.mk.injEq,List.cons.injEq] at h;rw[h.1.1] at hk;exact absurd hk hk')
   (fun _ fr' u' K'' ks'' a h hk' ha H' he=>?_)
  rw[hz] at h
  simp only[Option.some.injEq,Prod.mk.injEq,List.cons.injEq] at h
  obtain⟨⟨rfl,h2⟩,rfl,rfl⟩:=h
  exact h1 fr (u++[rootFr b]) (fr::u) K' ks' a H' he hh rfl ((fzK_plug ks _ _ _ _ hz).trans rfl) ha
end Go.Proofs
namespace Go.Proofs
open Go.Sh
variable {H0 H:Heap} {σ:List Rs} {R:Value→Heap→Prop}
theorem found_cnt{b:Nat}{K:Sl3}{ks:List T}{id:Int}{fr:Fr}{u:List Fr}{K':Sl3}{ks':List T}(h:fzK [rootFr b] K [] id ks=some (fr::(u++[rootFr b]),K',ks')):
 cntKs (layKs ks)=cntUp ((fr::u).map Fr.lay)+cntKs (layKs ks')∧layKs ks=plugL ((fr::u).map Fr.lay) (layKs ks'):=by
 have h1:=fzK_plug ks _ _ _ _ h
 simp only at h1
 rw[←List.cons_append,plug_root] at h1
 have h2:=h1.trans (show plugZ [rootFr b] K ([]++ks)=(rootS b,[rootT K ks]) from rfl)
 have h3:=congrArg (fun(q:Sl3×List T)=>q.2.map T.kids) h2
 simp only[List.map_cons,List.map_nil,rootT,T.kids,List.cons.injEq,and_true] at h3
 have h4:=plug_lay (fr::u) K' ks'
 rw[h3] at h4
 exact⟨by rw[←cnt_plug,←h4],h4⟩
theorem plugZ_cnt{b:Nat}{K:Sl3}{ks:List T}{v:List Fr}{K':Sl3}{ks':List T}(h:plugZ (v++[rootFr b]) K' ks'=(rootS b,[rootT K ks])):
 cntKs (layKs ks)=cntUp (v.map Fr.lay)+cntKs (layKs ks'):=by
 rw[plug_root] at h
 have h3:=congrArg (fun(q:Sl3×List T)=>q.2.map T.kids) h
 simp only[List.map_cons,List.map_nil,rootT,T.kids,List.cons.injEq,and_true] at h3
 rw[←cnt_plug,←plug_lay v K',h3]
theorem cnt_node(fr:Fr)(K:Sl3)(ks:List T):cntL (layT (fr.node K ks))=1+cntKs (layKs ks):=rfl
theorem below_eq(up:List Fr)(K:Sl3)(ks:List T)(id:Int):(fzK up K [] id ks=none∧(flK [] [] id (layKs ks)).isSome=false)∨(∃z,fzK up K [] id ks=some z∧(flK [] [] id (layKs ks)).isSome=true):=by
 have h1:=fzK_lay (id:=id) ks up K []
 have h2:=flK_up (id:=id) (layKs ks) [] (up.map Fr.lay) (layKs [])
 rw[List.nil_append] at h2
 rw[h2] at h1
 cases hz:fzK up K [] id ks with
 |none=>
  rw[hz] at h1
  left
  refine⟨rfl,?_⟩
  cases hf:flK [] [] id (layKs ks) with
  |none=>rfl
  |some z=>rw[show flK [] (layKs []) id (layKs ks)=flK [] [] id (layKs ks) from rfl,hf] at h1;cases h1
 |some z=>
  rw[hz] at h1
  right
  refine⟨z,rfl,?_⟩
  cases hf:flK [] [] id (layKs ks) with
  |none=>rw[show flK [] (layKs []) id (layKs ks)=flK [] [] id (layKs ks) from rfl,hf] at h1;cases h1
  |some z=>rfl
theorem c70{b d:Nat}{e:Ed}{s:EdS}{K:Sl3}{ks:List T}(hs:St H0 H (resRoot b K ks++σ))(hc:cntKs (layKs ks)≤1000000000)
 (hbad: ∀H',(moveL (layKs ks) e).1≠0→St H0 H' σ→R (.int .i64 (moveL (layKs ks) e).1) H')
 (hok: ∀Kn ksn H',(moveL (layKs ks) e).1=0→layKs ksn=(moveL (layKs ks) e).2→St H0 H' (resRoot b Kn ksn++σ)→R (.int .i64 0) H'):
 CallsH Tryz.prog 70 #[.agg (workL b d e s).toArray] H R:=by
 have bad: ∀{H':Heap} {v:Int} {x:List Lay},moveL (layKs ks) e=(v,x)→v≠0→St H0 H' σ→R (.int .i64 v) H':=fun{H' v x} hm hv hs=>by
  have:=hbad H' (by rw[hm];exact hv) hs
  rw[hm] at this;exact this
 refine Tryz.s70 ?_
 unfold Tryz.S70
 refine hs.alcE fun b2 H3 he hs3=>⟨_,hs3.get 0 rfl rfl,_,hs3.get 0 rfl (j:=3) rfl,?_⟩
 refine find_root hs3.tail (by omega) fun H7 he7 hne=>⟨_,_,_,rfl,?_⟩
 have hs7:=hs3.step he7
 rcases find_cases b K ks e.id with ⟨hz,hfl⟩|⟨fr,u,K',ks',hz,hid,hfl⟩
 ·rw[hz]
  exact br_t rfl (bad (by unfold moveL;rw[hfl]) (by decide) hs7.tail.app.2)
 ·have hop:=found_open hs7.tail hz
  obtain⟨a,ha⟩:=hop.elAd (n:=fr.pre.length) 0 rfl (by rfl)
  have hfa:fr.ad=some a:=ha
  have e1:resZ (some (fr::(u++[rootFr b]),K',ks'))=(some a,(resZ (some (fr::(u++[rootFr b]),K',ks'))).2.1,(resZ (some (fr::(u++[rootFr b]),K',ks'))).2.2):=by
   cases u<;>simp[resZ,hfa]
  rw[hz,e1]
  have hcnt:=(found_cnt hz).1
  have hfl':flK [] [] e.id (layKs ks)=some (Fr.lay fr::u.map Fr.lay,layKs ks'):=hfl
  have hM:moveL (layKs ks) e=(if (homeL (layKs ks) e.to).1≠0 then((homeL (layKs ks) e.to).1,[]) else
   if e.to=e.id∨(flK [] [] e.to (layKs ks')).isSome=true then(42,[]) else
   if (homeL (plugL (u.map Fr.lay) (layKs fr.pre++layKs fr.post)) e.to).1≠0 then((homeL (plugL (u.map Fr.lay) (layKs fr.pre++layKs fr.post)) e.to).1,[]) else
   putL (homeL (plugL (u.map Fr.lay) (layKs fr.pre++layKs fr.post)) e.to).2.1 (homeL (plugL (u.map Fr.lay) (layKs fr.pre++layKs fr.post)) e.to).2.2 e.at_ (.mk fr.f (layKs ks'))):=by
   unfold moveL;rw[hfl'];rfl
  refine br_f rfl ⟨_,rfl,rowIn_whole (hs7.block 0 rfl),?_⟩
  refine home_call hs7.tail (by omega) (fun p H13 he13 hne=>⟨_,_,rfl,br_ne (fun _=>?_) fun h=>absurd h hne⟩) fun fr2 up2 v2 K2 ks2 a2 H13 he13 hh _ _ _=>⟨_,_,rfl,br_ne (fun h=>absurd rfl h) fun _=>?_⟩
  ·exact bad (by rw[hM,if_pos hne]) hne (hs7.step he13).tail.app.2
  ·have hs13:=hs7.step he13
   rw[hh,if_neg (by simp)] at hM
   intro J hJ
   have hop13:=hop.step he13
   refine⟨_,hs13.get 0 rfl (j:=4) rfl,?_⟩
   refine c119 (fr.node K' ks') (fr:=fr) (up:=u++[rootFr b]) hfa (hop13.elRow 0 rfl (cellsKs_len fr.pre) ha) (open_rdT hop13) (by show cntKs (layKs ks')≤_;omega) fun H39 he39 hne39=>⟨_,_,_,rfl,?_⟩
   have hs39:=hs13.step he39
   refine⟨_,hs39.get 0 rfl (j:=4) rfl,_,hs39.get 0 rfl (j:=3) rfl,br_eq (fun h=>?_) fun h=>?_⟩
   ·exact bad (by rw[hM,if_pos (.inl h)]) (by decide) hs39.tail.app.2
   rcases below_eq (fr::(u++[rootFr b])) K' ks' e.to with ⟨hb,hb2⟩|⟨z,hb,hb2⟩
   rotate_left
   ·have h2:=hne39 z hb
    refine br_t ?_ (bad (by rw[hM,if_pos (.inr hb2)]) (by decide) hs39.tail.app.2)
    show(!(resZ (fzK (fr::(u++[rootFr b])) K' [] e.to ks')).1.isNone)=true
    rw[hb]
    cases h4:(resZ (some z)).1 with
    |none=>exact absurd h4 h2
    |some _=>rfl
   refine br_f (by show(!(resZ (fzK (fr::(u++[rootFr b])) K' [] e.to ks')).1.isNone)=false;rw[hb];rfl) (hJ _ ?_)
   rw[if_neg (by rintro(h1|h1);exact h h1;rw[hb2] at h1;cases h1)] at hM
   have hop39:=hop13.step he39
   refine⟨a,rfl,(cellsT (fr.node K' ks')).toArray,rfl,hop39.elRow 0 rfl (cellsKs_len fr.pre) ha,?_⟩
   refine hs39.alcE fun b20 H21 he21 hs21=>⟨rfl,hs21.putAll 0 rfl rfl (cellsT_one (fr.node K' ks')) fun H22 hs22=>?_⟩
   refine⟨_,rfl,rowIn_whole (hs22.block 1 rfl),?_⟩
   have hs22':St H0 H22 (resRoot b K ks++(.cell b20 (cellsT (fr.node K' ks')).toArray 118:: .cell b2 (workL b d e s).toArray 130::σ)):=by
    refine hs22.perm (permC fun _ x=>?_)
    show List.count x (.cell b20 (cellsT (fr.node K' ks')).toArray 118:: .cell b2 (workL b d e s).toArray 130::(resRoot b K ks++σ))=_
    simp only[List.count_append,List.count_cons]
    ac_rfl
   refine c69 hs22' hc (fun h=>by rw[hz] at h;cases h) fun fr0 u0 K0 ks0 Kn ksn H25 hz0 hlay hs25=>⟨_,rfl,?_⟩
   rw[hz] at hz0
   simp only[Option.some.injEq,Prod.mk.injEq,List.cons.injEq] at hz0
   obtain⟨⟨rfl,hu0⟩,rfl,rfl⟩:=hz0
   have hu0:=List.append_cancel_right hu0
   subst hu0
   have hs26:St H0 H25 (.cell b20 (cellsT (fr.node K' ks')).toArray 118:: .cell b2 (workL b d e s).toArray 130::(resRoot b Kn ksn++(resT (fr.node K' ks')++σ))):=by
    refine hs25.perm (permC fun _ x=>?_)
    simp only[List.count_append,List.count_cons]
    ac_rfl
   have hcn:cntKs (layKs ksn)+cntL (layT (fr.node K' ks'))=cntKs (layKs ks):=by
    rw[hlay,cnt_plug,cntKs_app,cnt_node,hcnt,List.map_cons,cntUp]
    show _=1+cntKs (layKs fr.pre)+cntKs (layKs fr.post)+cntUp (u.map Fr.lay)+_
    omega
   refine⟨_,rfl,rowIn_whole (hs26.block 1 rfl),?_⟩
   rw[←hlay] at hM
   refine home_call (hs26.drop 2) (by omega) (fun p H29 he29 hne=>⟨_,_,rfl,br_ne (fun _=>?_) fun h=>absurd h hne⟩) fun fr3 up3 v3 K3 ks3 a3 H29 he29 hh3 hv3 hp3 ha3=>⟨_,_,rfl,br_ne (fun h=>absurd rfl h) fun _=>?_⟩
   ·exact bad (by rw[hM,if_pos hne]) hne ((hs26.drop 2).step he29).app.2.app.2
   ·have hs29:=hs26.step he29
    rw[hh3,if_neg (by simp)] at hM
    have hop29:=(hs29.drop 2).opened hp3
    have hc3:=plugZ_cnt (hv3▸hp3)
    have hlen3:=len_cnt (layKs ks3)
    rw[layKs_len] at hlen3
    refine⟨_,rfl,rowIn_whole (hs29.block 1 rfl),_,rfl,rowIn_whole (hs29.block 0 rfl),?_⟩
    refine c118 (l:=fr.node K' ks') hv3 ha3 hop29 (by omega) (by omega) (fun hn H35 he35=>⟨_,rfl,?_⟩) fun i K4 H35 hi hs35=>⟨_,rfl,?_⟩
    ·refine bad (v:=43) (x:=[]) ?_ (by decide) (hop29.step he35).app.2.app.2
     rw[hM];unfold putL;rw[layKs_len,hn]
    ·have hput:moveL (layKs ks) e=((if 64<depKs (plugL (v3.map Fr.lay) (layKs (ks3.take i++fr.node K' ks'::ks3.drop i))) then 31 else 0),plugL (v3.map Fr.lay) (layKs (ks3.take i++fr.node K' ks'::ks3.drop i))):=by
      rw[hM];unfold putL;rw[layKs_len,hi]
      have:(layKs ks3).take i++Lay.mk fr.f (layKs ks')::(layKs ks3).drop i=layKs (ks3.take i++fr.node K' ks'::ks3.drop i):=by
       rw[layKs_app,layKs,layKs_map (ks3.take i),layKs_map (ks3.drop i),layKs_map ks3,List.map_take,List.map_drop];rfl
      simp only[this]
     by_cases h64:64<depKs (plugL (v3.map Fr.lay) (layKs (ks3.take i++fr.node K' ks'::ks3.drop i)))
     ·rw[if_pos h64] at hput ⊢
      exact bad hput (by decide) hs35.app.2
     ·rw[if_neg h64] at hput ⊢
      exact hok _ _ H35 (by rw[hput]) (by rw[hput,←plug_lay v3 K4]) (closed_v hv3 hs35)
end Go.Proofs
namespace Go.Proofs
open Go.Sh
variable {H0 H:Heap} {σ:List Rs} {R:Value→Heap→Prop}
theorem c89(hR: ∀H',Ext H H'→R (.agg #[.int .i64 65536,.int .i64 0,.int .i64 0,.int .i64 65536,.int .i64 0,.int .i64 0]) H'):CallsH Tryz.prog 89 #[] H R:=by
 refine Tryz.s89 (_u:=()) ?_
 unfold Tryz.S89
 refine(St.nil H).alc fun b1 H2 hs2=>⟨rfl,hs2.putAll 0 rfl rfl (by simp[Value.oneCell']) fun H3 hs3=>⟨_,rfl,rowIn_whole (hs3.block 0 rfl),hR H3 hs3.ext⟩⟩
def f0L(next n:Int):LayF:=⟨next,n,false,255,0,0,0,[],[],⟨65536,0,0,65536,0,0⟩,false,2,[]⟩
theorem reps_ints(n:Nat):(reps n (Array.toList #[Value.int .i64 0])).toArray.toList=ints (List.replicate n 0):=by
 show reps n [Value.int .i64 0]=_
 rw[reps_rep];simp[ints]
theorem c68{b d:Nat}{e:Ed}{s:EdS}{K K0:Sl3}{ks:List T}{w h next:Int}(hs:St H0 H (resRoot b K ks++(.cell d (docA w h next K0) 46::σ)))(hc:cntKs (layKs ks)≤1000000000)(hnx:0≤next∧next≤1000000000000000)
 (hbad: ∀H',(addL next (layKs ks) e).1≠0→St H0 H' σ→R (.int .i64 (addL next (layKs ks) e).1) H')
 (hok: ∀Kn ksn H',(addL next (layKs ks) e).1=0→layKs ksn=(addL next (layKs ks) e).2→St H0 H' (resRoot b Kn ksn++(.cell d (docA w h (next+1) K0) 46::σ))→R (.int .i64 0) H'):
 CallsH Tryz.prog 68 #[.agg (workL b d e s).toArray] H R:=by
 have bad: ∀{H':Heap} {v:Int} {x:List Lay},addL next (layKs ks) e=(v,x)→v≠0→St H0 H' σ→R (.int .i64 v) H':=fun{H' v x} hm hv hs=>by
  have:=hbad H' (by rw[hm];exact hv) hs
  rw[hm] at this;exact this
 have hs:St H0 H (.cell d (docA w h next K0) 46::(resRoot b K ks++σ)):=hs.perm (permC fun _ x=>by simp only[List.count_append,List.count_cons];ac_rfl)
 refine Tryz.s68 ?_
 unfold Tryz.S68
 refine hs.alcE fun b2 H3 he hs3=>?_
 intro J4 hJ4
 have main4: ∀lb H6,St H0 H6 (.cell lb (cellsL (f0L next e.n) Sl3.nil.v Sl3.nil.v Sl3.nil.v Sl3.nil.v).toArray 118:: .cell b2 (workL b d e s).toArray 130:: .cell d (docA w h next K0) 46::(resRoot b K ks++σ))→J4 [.pointer (some ⟨lb,0,none⟩)] H6:=by
  intro lb H6 hs6
  refine hJ4 _ _ ?_
  intro J7 hJ7
  refine⟨_,hs6.get 0 rfl (j:=1) rfl,br_dec (fun h=>bad (by unfold addL;rw[if_pos (.inl h)]) (by decide) (hs6.drop 3).app.2) fun hn1=>⟨_,hs6.get 0 rfl (j:=1) rfl,br_dec (fun h=>bad (by unfold addL;rw[if_pos (.inr h)]) (by decide) (hs6.drop 3).app.2) fun hn2=>hJ7 _ ?_⟩⟩
  have hn1: ¬e.n<0:=hn1
  have hn2: ¬e.n>2:=hn2
  intro J9 hJ9
  have main9: ∀(P:Sl3) H10,¬(e.n=0∧sizedB e.w e.h=false)→St H0 H10 (.cell lb (cellsL (newL next e) P.v Sl3.nil.v Sl3.nil.v Sl3.nil.v).toArray 118:: .cell b2 (workL b d e s).toArray 130:: .cell d (docA w h next K0) 46::
   .sl P.p P.l P.c 3 1 (ints (newL next e).p)::(resRoot b K ks++σ))→J9 [] H10:=by
   intro P H10 hsz hs10
   have hA:addL next (layKs ks) e=(if (homeL (layKs ks) e.to).1≠0 then((homeL (layKs ks) e.to).1,[]) else
    if (putL (homeL (layKs ks) e.to).2.1 (homeL (layKs ks) e.to).2.2 e.at_ (.mk (newL next e) [])).1≠0 then((putL (homeL (layKs ks) e.to).2.1 (homeL (layKs ks) e.to).2.2 e.at_ (.mk (newL next e) [])).1,[]) else
    if 4096≤cntKs (layKs ks) then(31,[]) else(0,(putL (homeL (layKs ks) e.to).2.1 (homeL (layKs ks) e.to).2.2 e.at_ (.mk (newL next e) [])).2)):=by
    unfold addL
    rw[if_neg (show ¬(e.n<0∨e.n>2) by omega),if_neg hsz]
   refine hJ9 _ ⟨_,rfl,rowIn_whole (hs10.block 1 rfl),?_⟩
   refine home_call (hs10.drop 4) (by omega) (fun p H13 he13 hne=>⟨_,_,rfl,br_ne (fun _=>?_) fun h=>absurd h hne⟩) fun fr up v K' ks' a H13 he13 hh hv hp ha=>⟨_,_,rfl,br_ne (fun h=>absurd rfl h) fun _=>?_⟩
   ·exact bad (by rw[hA,if_pos hne]) hne ((hs10.drop 4).step he13).app.2
   ·have hs13:=hs10.step he13
    rw[hh,if_neg (by simp)] at hA
    obtain⟨a0,g1,g2,g3⟩:=(hs13.drop 4).grp.get (i:=0) (t:=rootT _ _) rfl
    cases g1
    rw[Nat.zero_mul,add_none] at g2
    refine⟨_,hs13.get 1 rfl rfl,_,rfl,_,_,_,g2 18 _ rfl,?_⟩
    refine c26 (K:=K) (ks:=ks) (rdT.grp g3) (by omega) fun H20 he20=>⟨_,rfl,?_⟩
    have hs20:=hs13.step he20
    refine⟨_,rfl,rowIn_whole (hs20.block 1 rfl),_,rfl,rowIn_whole (hs20.block 0 rfl),?_⟩
    have hs21:St H0 H20 (resG (rootS b) [rootT K ks]++(resT (.mk (newL next e) P .nil .nil .nil [])++(.cell lb (cellsL (newL next e) P.v Sl3.nil.v Sl3.nil.v Sl3.nil.v).toArray 118:: .cell b2 (workL b d e s).toArray 130:: .cell d (docA w h next K0) 46::σ))):=by
     have h1:=((hs20.nilSl 5 1).nilSl 3 1).nilSl 118 19
     refine h1.perm (permC fun _ x=>?_)
     have e1:resT (.mk (newL next e) P .nil .nil .nil [])=[.sl P.p P.l P.c 3 1 (ints (newL next e).p),.sl none 0 0 5 1 [],.sl none 0 0 3 1 [],.sl none 0 0 118 19 []]:=rfl
     rw[e1,show resRoot b K ks=resG (rootS b) [rootT K ks] from rfl]
     simp only[List.count_append,List.count_cons,List.count_nil]
     ac_rfl
    have hop:=hs21.opened hp
    have hc3:=plugZ_cnt (hv▸hp)
    have hlen3:=len_cnt (layKs ks')
    rw[layKs_len] at hlen3
    refine c118 (l:= .mk (newL next e) P .nil .nil .nil []) hv ha hop (by omega) (by show _+_+(1+0)≤_;omega) (fun hn H25 he25=>⟨_,rfl,?_⟩) fun i K4 H25 hi hs25=>⟨_,rfl,?_⟩
    ·refine br_ne (fun _=>bad (v:=43) (x:=[]) ?_ (by decide) ((hop.step he25).app.2.app.2.drop 3)) fun h=>absurd h (by decide)
     rw[hA];unfold putL;rw[layKs_len,hn];rfl
    ·have hput:putL (v.map Fr.lay) (layKs ks') e.at_ (.mk (newL next e) [])=((if 64<depKs (plugL (v.map Fr.lay) (layKs (ks'.take i++ .mk (newL next e) P .nil .nil .nil []::ks'.drop i))) then 31 else 0),plugL (v.map Fr.lay) (layKs (ks'.take i++ .mk (newL next e) P .nil .nil .nil []::ks'.drop i))):=by
      unfold putL;rw[layKs_len,hi]
      have:(layKs ks').take i++Lay.mk (newL next e) []::(layKs ks').drop i=layKs (ks'.take i++ .mk (newL next e) P .nil .nil .nil []::ks'.drop i):=by
       rw[layKs_app,layKs,layKs_map (ks'.take i),layKs_map (ks'.drop i),layKs_map ks',List.map_take,List.map_drop];rfl
      simp only[this]
     simp only[hput] at hA
     by_cases h64:64<depKs (plugL (v.map Fr.lay) (layKs (ks'.take i++ .mk (newL next e) P .nil .nil .nil []::ks'.drop i)))
     ·rw[if_pos h64] at hA ⊢
      exact br_ne (fun _=>bad (v:=31) (x:=[]) (by rw[hA];rfl) (by decide) (hs25.app.2.drop 3)) fun h=>absurd h (by decide)
     ·rw[if_neg h64] at hA ⊢
      rw[if_neg (by simp)] at hA
      refine br_ne (fun h=>absurd rfl h) fun _=>br_dec (fun h4=>?_) fun h4=>?_
      ·exact bad (v:=31) (x:=[]) (by rw[hA,if_pos (by omega)]) (by decide) (hs25.app.2.drop 3)
      ·rw[if_neg (by omega)] at hA
       have hs26:St H0 H25 (.cell lb (cellsL (newL next e) P.v Sl3.nil.v Sl3.nil.v Sl3.nil.v).toArray 118:: .cell b2 (workL b d e s).toArray 130:: .cell d (docA w h next K0) 46::(openR fr up K4 (ks'.take i++ .mk (newL next e) P .nil .nil .nil []::ks'.drop i)++σ)):=
        hs25.perm (permC fun _ x=>by simp only[List.count_append,List.count_cons];ac_rfl)
       refine⟨_,hs26.get 1 rfl (j:=1) rfl,_,rfl,_,hs26.get 2 rfl (j:=2) rfl,_,rfl,?_⟩
       rw[wrap_id (by omega) (by omega)]
       refine hs26.put 2 rfl (j:=2) (Nat.le_of_ble_eq_true rfl) rfl fun H31 hs31=>?_
       refine hok (plugZ v K4 (ks'.take i++ .mk (newL next e) P .nil .nil .nil []::ks'.drop i)).1 (plugZ v K4 (ks'.take i++ .mk (newL next e) P .nil .nil .nil []::ks'.drop i)).2 H31 (by rw[hA]) (by rw[hA,←plug_lay v K4]) ?_
       have hs32:=closed_v hv (σ:= .cell d (docA w h (next+1) K0) 46::σ) ((hs31.drop 2).perm (permC fun _ x=>by
        show List.count x (.cell d (docA w h (next+1) K0) 46::(openR fr up K4 (ks'.take i++ .mk (newL next e) P .nil .nil .nil []::ks'.drop i)++σ))=_
        simp only[List.count_append,List.count_cons];ac_rfl))
       exact hs32
  refine⟨_,hs6.get 0 rfl (j:=1) rfl,br_eq (fun hn0=>?_) fun hn0=>?_⟩
  ·have hn0:e.n=0:=hn0
   have hnew:newL next e=⟨next,e.n,false,255,0,e.w,e.h,List.replicate (e.w*e.h).toNat 0,[],⟨65536,0,0,65536,0,0⟩,false,2,[]⟩:=by unfold newL;rw[if_pos hn0,if_pos hn0,if_pos hn0]
   refine⟨_,hs6.get 1 rfl (j:=10) rfl,_,hs6.get 1 rfl (j:=11) rfl,?_⟩
   refine c28 (fun hsz H36 he36=>⟨_,_,rfl,?_⟩) fun hsz H36 he36=>⟨_,_,rfl,?_⟩
   rotate_left
   ·refine(hs6.step he36).alc fun b39 H40 hs40=>⟨rfl,hs40.putAll 0 rfl rfl (by simp[docA,Value.oneCell',Sl3.v,Sl3.nil]) fun H41 hs41=>br_ne (fun _=>?_) fun h=>absurd h (by decide)⟩
    refine bad (v:=31) (x:=[]) ?_ (by decide) (hs41.drop 4).app.2
    unfold addL
    rw[if_neg (show ¬(e.n<0∨e.n>2) by omega),if_pos ⟨hn0,hsz⟩]
   refine(hs6.step he36).alc fun b39 H40 hs40=>⟨rfl,hs40.putAll 0 rfl rfl (by simp[docA,Value.oneCell',Sl3.v,Sl3.nil]) fun H41 hs41=>br_ne (fun h=>absurd rfl h) fun _=>?_⟩
   have hsz':=of_decide_eq_true hsz
   obtain⟨q1,q2,q3,q4,q5⟩:=hsz'
   have hw:IntKind.wrap .i64 (e.w*e.h)=e.w*e.h:=wrap_area q1 q2 q3 q4
   have hpos:0≤e.w*e.h:=Int.mul_nonneg (by omega) (by omega)
   have hnsz: ¬(e.n=0∧sizedB e.w e.h=false):=fun hh=>by rw[hsz] at hh;exact absurd hh.2 (by simp)
   refine⟨_,hs41.get 0 rfl (j:=0) rfl,_,hs41.get 0 rfl (j:=1) rfl,_,hs41.get 0 rfl (j:=0) rfl,_,hs41.get 0 rfl (j:=1) rfl,?_⟩
   rw[hw]
   have hbnd:0≤e.w*e.h∧e.w*e.h≤e.w*e.h∧((8:Nat):Int)*(e.w*e.h)≤281474976710656∧e.w*e.h≤281474976710656:=⟨hpos,Int.le_refl _,by omega,by omega⟩
   have fin: ∀(pb:Nat) (H':Heap) (τ:List Rs),St H0 H' (.cell lb (cellsL (newL next e) (Value.slice (some ⟨pb,0,none⟩) (e.w*e.h).toNat (e.w*e.h).toNat) Sl3.nil.v Sl3.nil.v Sl3.nil.v).toArray 118:: .cell b2 (workL b d e s).toArray 130:: .cell d (docA w h next K0) 46::
    .cell pb (reps (e.w*e.h).toNat (Array.toList #[Value.int .i64 0])).toArray 3::(resRoot b K ks++σ))→J9 [] H':=fun pb H' τ hs=>by
    refine main9 ⟨some ⟨pb,0,none⟩,(e.w*e.h).toNat,(e.w*e.h).toNat⟩ H' hnsz ?_
    have:=hs.toSl 3 (l:=(e.w*e.h).toNat) (k:=1) (fs:=ints (newL next e).p) rfl (by simp[reps_length]) (by rw[reps_ints,hnew]) (ints_one _)
    exact this
   refine⟨⟨hbnd.1,hbnd.2.1,hbnd.2.2.1,hbnd.2.2.2,?_⟩,?_⟩
   ·refine hs41.alcE fun b46 H47 he47 hs47=>⟨.inl he47,hs47.put 2 rfl (j:=5) (Nat.le_of_ble_eq_true rfl) rfl fun H48 hs48=>⟨.inr ⟨_,hs48.get 1 rfl (j:=1) rfl,rfl⟩,hs48.put 2 rfl (j:=6) (Nat.le_of_ble_eq_true rfl) rfl fun H49 hs49=>hs49.put 2 rfl (j:=7) (Nat.le_of_ble_eq_true rfl) rfl fun H50 hs50=>?_⟩⟩
    refine fin b46 H50 [] ?_
    rw[hnew]
    have h1:=St.del hs50 1
    have h2:=h1.front 1 rfl
    have h3:=h2.front 2 rfl
    exact(h1.perm (permC fun _ x=>by
     show List.count x (.cell b46 (reps (e.w*e.h).toNat (Array.toList #[Value.int .i64 0])).toArray 3:: .cell lb _ 118:: .cell b2 (workL b d e s).toArray 130:: .cell d (docA w h next K0) 46::(resRoot b K ks++σ))=_
     simp only[List.count_append,List.count_cons];ac_rfl))
   ·refine hs41.put 1 rfl (j:=5) (Nat.le_of_ble_eq_true rfl) rfl fun H54 hs54=>⟨.inr ⟨⟨_,hs54.get 0 rfl (j:=1) rfl,rfl⟩,⟨_,hs54.get 0 rfl (j:=0) rfl,rfl⟩,⟨_,hs54.get 0 rfl (j:=1) rfl,rfl⟩⟩,⟨⟨hbnd.1,hbnd.2.1,hbnd.2.2.1,hbnd.2.2.2,?_⟩,?_⟩⟩
    ·refine hs54.alcE fun b55 H56 he56 hs56=>⟨.inl he56,hs56.put 2 rfl (j:=6) (Nat.le_of_ble_eq_true rfl) rfl fun H57 hs57=>hs57.put 2 rfl (j:=7) (Nat.le_of_ble_eq_true rfl) rfl fun H58 hs58=>?_⟩
     refine fin b55 H58 [] ?_
     rw[hnew]
     exact((St.del hs58 1).perm (permC fun _ x=>by
      show List.count x (.cell b55 (reps (e.w*e.h).toNat (Array.toList #[Value.int .i64 0])).toArray 3:: .cell lb _ 118:: .cell b2 (workL b d e s).toArray 130:: .cell d (docA w h next K0) 46::(resRoot b K ks++σ))=_
      simp only[List.count_append,List.count_cons];ac_rfl))
    ·refine hs54.put 1 rfl (j:=6) (Nat.le_of_ble_eq_true rfl) rfl fun H60 hs60=>⟨.inr ⟨⟨_,hs60.get 0 rfl (j:=1) rfl,rfl⟩,⟨_,hs60.get 0 rfl (j:=0) rfl,rfl⟩⟩,hbnd.1,hbnd.2.1,hbnd.2.2.1,hbnd.2.2.2,?_⟩
     refine hs60.alcE fun b61 H62 he62 hs62=>hs62.put 2 rfl (j:=7) (Nat.le_of_ble_eq_true rfl) rfl fun H63 hs63=>?_
     refine fin b61 H63 [] ?_
     rw[hnew]
     exact((St.del hs63 1).perm (permC fun _ x=>by
      show List.count x (.cell b61 (reps (e.w*e.h).toNat (Array.toList #[Value.int .i64 0])).toArray 3:: .cell lb _ 118:: .cell b2 (workL b d e s).toArray 130:: .cell d (docA w h next K0) 46::(resRoot b K ks++σ))=_
      simp only[List.count_append,List.count_cons];ac_rfl))
  ·have hn0:e.n≠0:=hn0
   have hnew:newL next e=f0L next e.n:=by unfold newL f0L;rw[if_neg hn0,if_neg hn0,if_neg hn0]
   refine main9 .nil H6 (fun hh=>hn0 hh.1) ?_
   rw[hnew]
   exact(hs6.nilSl 3 1).perm (permC fun _ x=>by
    show _=List.count x (.cell lb _ 118:: .cell b2 (workL b d e s).toArray 130:: .cell d (docA w h next K0) 46:: .sl none 0 0 3 1 []::(resRoot b K ks++σ))
    simp only[List.count_append,List.count_cons];ac_rfl)
 refine⟨_,hs3.get 0 rfl (j:=1) rfl,_,rfl,_,hs3.get 1 rfl (j:=2) rfl,_,hs3.get 0 rfl (j:=6) rfl,?_,?_⟩
 ·refine c89 fun H76 he76=>⟨_,rfl,.inl he76,rfl,by decide,?_⟩
  refine(hs3.step he76).alcE fun b78 H79 he79 hs79=>⟨.inl he79,rfl,hs79.putAll 0 rfl rfl (cellsL_one (f0L next e.n) .nil .nil .nil .nil) fun H80 hs80=>main4 b78 H80 hs80⟩
 ·refine hs3.alcE fun b87 H88 he88 hs88=>⟨.inl he88,?_⟩
  refine c89 fun H90 he90=>⟨_,rfl,.inl he90,rfl,by decide,rfl,?_⟩
  exact(hs88.step he90).putAll 0 rfl rfl (cellsL_one (f0L next e.n) .nil .nil .nil .nil) fun H92 hs92=>main4 b87 H92 hs92
end Go.Proofs
namespace Go.Proofs
open Go.Sh
variable {H0 H:Heap} {σ:List Rs} {R:Value→Heap→Prop}
def chgL(g:LayF→Int×LayF)(D:List Lay)(id:Int):Int×List Lay:=
 match flK [] [] id D with
 |some (fr::u,ks)=>if (g fr.f).1≠0 then((g fr.f).1,[]) else(0,plugL (⟨fr.pre,(g fr.f).2,fr.post⟩::u) ks)
 |_=>(40,[])
theorem tgt{b d:Nat}{e:Ed}{s:EdS}{K:Sl3}{ks:List T}{r:Rs}(hs:St H0 H (r::(resRoot b K ks++σ)))(hc:cntKs (layKs ks)≤1000000000000)
 (h0:flK [] [] e.id (layKs ks)=none→ ∀H',St H0 H' (r::(resRoot b K ks++σ))→R (.tuple #[.pointer none,.int .i64 40]) H')
 (h1: ∀fr u K' ks' a H',flK [] [] e.id (layKs ks)=some (Fr.lay fr::u.map Fr.lay,layKs ks')→fr.ad=some a→St H0 H' (r::(openR fr (u++[rootFr b]) K' ks'++σ))→R (.tuple #[.pointer (some a),.int .i64 0]) H'):
 CallsH Tryz.prog 121 #[.agg (workL b d e s).toArray] H R:=by
 refine c121 (hs.tail) hc (fun hz H' he=>?_) fun z a hz ha H' he=>?_
 ·rcases find_cases b K ks e.id with ⟨_,hl⟩|⟨fr,u,K',ks',hz',hid,hl⟩
  ·exact h0 hl H' (hs.step he)
  ·rw[hz] at hz';cases hz'
 ·rcases find_cases b K ks e.id with ⟨hz',hl⟩|⟨fr,u,K',ks',hz',hid,hl⟩
  ·rw[hz] at hz';cases hz'
  ·rw[hz] at hz'
   cases hz'
   have hfa:fr.ad=some a:=by rw[←ha];cases u<;>rfl
   refine h1 fr u K' ks' a H' hl hfa ?_
   have hp:=fzK_plug ks _ _ _ _ hz
   have:=(hs.step he).perm (τ:=(resRoot b K ks++(r::σ))) (permC fun _ x=>by simp only[List.count_append,List.count_cons];ac_rfl)
   exact(this.opened (hp.trans rfl)).perm (permC fun _ x=>by simp only[List.count_append,List.count_cons];ac_rfl)
theorem chg_none{g:LayF→Int×LayF}{D:List Lay}{id:Int}(h:flK [] [] id D=none):chgL g D id=(40,[]):=by unfold chgL;rw[h]
theorem chg_bad{g:LayF→Int×LayF}{D:List Lay}{id:Int}{fr:FrL}{u:List FrL}{ks:List Lay}{v:Int}{x:LayF}(h:flK [] [] id D=some (fr::u,ks))(hg:g fr.f=(v,x))(hv:v≠0):chgL g D id=(v,[]):=by
 unfold chgL;rw[h];simp only[hg,ne_eq,hv,not_false_eq_true,if_true]
theorem chg_ok{g:LayF→Int×LayF}{D:List Lay}{id:Int}{fr:FrL}{u:List FrL}{ks:List Lay}{x:LayF}(h:flK [] [] id D=some (fr::u,ks))(hg:g fr.f=(0,x)):chgL g D id=(0,plugL (⟨fr.pre,x,fr.post⟩::u) ks):=by
 unfold chgL;rw[h];simp only[hg,ne_eq,not_true_eq_false,if_false]
structure Chg(g:LayF→Int×LayF)(H0:Heap)(σ:List Rs)(R:Value→Heap→Prop)(b:Nat)(ks:List T)(id:Int):Prop where
 bad: ∀H',(chgL g (layKs ks) id).1≠0→St H0 H' σ→R (.int .i64 (chgL g (layKs ks) id).1) H'
 ok: ∀Kn ksn H',(chgL g (layKs ks) id).1=0→layKs ksn=(chgL g (layKs ks) id).2→St H0 H' (resRoot b Kn ksn++σ)→R (.int .i64 0) H'
theorem Chg.none{g:LayF→Int×LayF}{b:Nat}{ks:List T}{id:Int}(hc:Chg g H0 σ R b ks id)(h:flK [] [] id (layKs ks)=none){H':Heap}(hs:St H0 H' σ):R (.int .i64 40) H':=by
 have:=hc.bad H' (by rw[chg_none h];decide) hs
 rw[chg_none h] at this;exact this
theorem Chg.err{g:LayF→Int×LayF}{b:Nat}{ks:List T}{id:Int}(hc:Chg g H0 σ R b ks id){fr:Fr}{u:List Fr}{ks':List T}(h:flK [] [] id (layKs ks)=some (Fr.lay fr::u.map Fr.lay,layKs ks')){v:Int}{x:LayF}(hg:g fr.f=(v,x))(hv:v≠0){H':Heap}(hs:St H0 H' σ):R (.int .i64 v) H':=by
 have e:=chg_bad (g:=g) h hg hv
 have:=hc.bad H' (by rw[e];exact hv) hs
 rw[e] at this;exact this
theorem Chg.done{g:LayF→Int×LayF}{b:Nat}{ks:List T}{id:Int}(hc:Chg g H0 σ R b ks id){fr:Fr}{u:List Fr}{K':Sl3}{ks':List T}(h:flK [] [] id (layKs ks)=some (Fr.lay fr::u.map Fr.lay,layKs ks')){f:LayF}{P M A:Sl3}(hg:g fr.f=(0,f)){H':Heap}
 (hs:St H0 H' (openR ⟨fr.hdr,fr.pre,f,P,M,A,fr.post⟩ (u++[rootFr b]) K' ks'++σ)):R (.int .i64 0) H':=by
 have e:=chg_ok (g:=g) h hg
 refine hc.ok (plugZ (⟨fr.hdr,fr.pre,f,P,M,A,fr.post⟩::u) K' ks').1 (plugZ (⟨fr.hdr,fr.pre,f,P,M,A,fr.post⟩::u) K' ks').2 H' (by rw[e]) ?_ (close_at hs)
 rw[e,plug_lay];rfl
def lookF(e:Ed)(f:LayF):Int×LayF:=if e.n<0∨e.n>255∨e.m<0∨e.m>11 then(32,f) else if f.kind=2∧e.m≠0 then(41,f) else(0,{f with opacity:=e.n,mode:=e.m})
theorem c72{b d:Nat}{e:Ed}{s:EdS}{K:Sl3}{ks:List T}(hs:St H0 H (resRoot b K ks++σ))(hc:cntKs (layKs ks)≤1000000000)(hR:Chg (lookF e) H0 σ R b ks e.id):
 CallsH Tryz.prog 72 #[.agg (workL b d e s).toArray] H R:=by
 refine Tryz.s72 ?_
 unfold Tryz.S72
 refine hs.alc fun b2 H3 hs3=>⟨_,rfl,rowIn_whole (hs3.block 0 rfl),?_⟩
 refine tgt hs3 (by omega) (fun hl H6 hs6=>⟨_,_,rfl,?_⟩) fun fr u K' ks' a H6 hl ha hs6=>⟨_,_,rfl,?_⟩
 ·intro J hJ
  exact br_ne (fun _=>hR.none hl hs6.tail.app.2) fun h=>absurd h (by decide)
 intro J hJ
 have bad: ∀{v:Int} {x:LayF},lookF e fr.f=(v,x)→v≠0→R (.int .i64 v) H6:=fun hg hv=>hR.err hl hg hv hs6.tail.app.2
 refine br_ne (fun h=>absurd rfl h) fun _=>?_
 refine⟨_,hs6.get 0 rfl (j:=6) rfl,br_dec (fun c=>bad (x:=fr.f) (by unfold lookF;rw[if_pos (.inl c)]) (by decide)) fun c1=>?_⟩
 refine⟨_,hs6.get 0 rfl (j:=6) rfl,br_dec (fun c=>bad (x:=fr.f) (by unfold lookF;rw[if_pos (.inr (.inl c))]) (by decide)) fun c2=>?_⟩
 refine⟨_,hs6.get 0 rfl (j:=7) rfl,br_dec (fun c=>bad (x:=fr.f) (by unfold lookF;rw[if_pos (.inr (.inr (.inl c)))]) (by decide)) fun c3=>?_⟩
 refine⟨_,hs6.get 0 rfl (j:=7) rfl,br_dec (fun c=>bad (x:=fr.f) (by unfold lookF;rw[if_pos (.inr (.inr (.inr c)))]) (by decide)) fun c4=>?_⟩
 have hF:lookF e fr.f=if fr.f.kind=2∧e.m≠0 then(41,fr.f) else(0,{fr.f with opacity:=e.n,mode:=e.m}):=by
  unfold lookF;rw[if_neg (by rintro(h|h|h|h)<;>contradiction)]
 refine⟨a,rfl,_,hs6.elCell 1 rfl (cellsKs_len fr.pre) (cells_1 fr K') ha,?_⟩
 have go: ¬(fr.f.kind=2∧e.m≠0)→J [] H6:=fun hk=>by
  rw[if_neg hk] at hF
  refine hJ _ ⟨_,hs6.get 0 rfl (j:=6) rfl,_,hs6.get 0 rfl (j:=7) rfl,a,rfl,?_⟩
  refine hs6.elPut 1 rfl (cellsKs_len fr.pre) (j:=3) (Nat.le_of_ble_eq_true rfl) rfl ha fun H14 hs14=>⟨.inr ⟨_,hs14.get 0 rfl (j:=7) rfl,rfl⟩,a,rfl,?_⟩
  refine hs14.elPut 1 rfl (cellsKs_len fr.pre) (j:=4) (Nat.le_of_ble_eq_true rfl) rfl ha fun H16 hs16=>?_
  exact hR.done hl (P:=fr.P) (M:=fr.M) (A:=fr.A) hF hs16.tail
 refine br_eq (fun hk=>?_) fun hk=>go fun h=>hk h.1
 refine⟨_,hs6.get 0 rfl (j:=7) rfl,br_ne (fun hm=>?_) fun hm=>go fun h=>h.2 hm⟩
 exact bad (x:=fr.f) (by rw[hF,if_pos ⟨hk,hm⟩]) (by decide)
def hideF(e:Ed)(f:LayF):Int×LayF:=if e.n≠0∧e.n≠1 then(32,f) else(0,{f with hidden:=e.n==1})
theorem c73{b d:Nat}{e:Ed}{s:EdS}{K:Sl3}{ks:List T}(hs:St H0 H (resRoot b K ks++σ))(hc:cntKs (layKs ks)≤1000000000)(hR:Chg (hideF e) H0 σ R b ks e.id):
 CallsH Tryz.prog 73 #[.agg (workL b d e s).toArray] H R:=by
 refine Tryz.s73 ?_
 unfold Tryz.S73
 refine hs.alc fun b2 H3 hs3=>⟨_,rfl,rowIn_whole (hs3.block 0 rfl),?_⟩
 refine tgt hs3 (by omega) (fun hl H6 hs6=>⟨_,_,rfl,?_⟩) fun fr u K' ks' a H6 hl ha hs6=>⟨_,_,rfl,?_⟩
 ·intro J hJ
  exact br_ne (fun _=>hR.none hl hs6.tail.app.2) fun h=>absurd h (by decide)
 intro J hJ
 refine br_ne (fun h=>absurd rfl h) fun _=>?_
 have go: ¬(e.n≠0∧e.n≠1)→J [] H6:=fun hn=>by
  have hF:hideF e fr.f=(0,{fr.f with hidden:=e.n==1}):=by unfold hideF;rw[if_neg hn]
  refine hJ _ ⟨_,hs6.get 0 rfl (j:=6) rfl,a,rfl,?_⟩
  refine hs6.elPut 1 rfl (cellsKs_len fr.pre) (j:=2) (Nat.le_of_ble_eq_true rfl) rfl ha fun H14 hs14=>?_
  exact hR.done hl (P:=fr.P) (M:=fr.M) (A:=fr.A) hF hs14.tail
 refine⟨_,hs6.get 0 rfl (j:=6) rfl,br_ne (fun h0=>⟨_,hs6.get 0 rfl (j:=6) rfl,br_ne (fun h1=>?_) fun h1=>go fun h=>h.2 h1⟩) fun h0=>go fun h=>h.1 h0⟩
 exact hR.err hl (v:=32) (x:=fr.f) (by unfold hideF;rw[if_pos ⟨h0,h1⟩]) (by decide) hs6.tail.app.2
end Go.Proofs
namespace Go.Proofs
open Go.Sh
variable {H0 H:Heap} {σ:List Rs} {R:Value→Heap→Prop}
theorem and255(a:Int):andI .i64 a (255:Int)=a%256:=by
 unfold andI
 rw[show IntKind.bits .i64=64 from rfl,BitVec.toNat_and,BitVec.toNat_ofInt,BitVec.toNat_ofInt]
 rw[show((255:Int)%((2^64:Nat):Int)).toNat=2^8-1 from by decide,Nat.and_two_pow_sub_one_eq_mod]
 have h2:(((a%((2^64:Nat):Int)).toNat%2^8:Nat):Int)=a%256:=by
  rw[show((2^64:Nat):Int)=18446744073709551616 from by decide];omega
 rw[h2]
 exact wrap_id (by omega) (by omega)
theorem shrTo(x:Int){n:Int}{d:Int}(hn:min n.toNat 64=n.toNat)(hd:(2:Int)^n.toNat=d)(h0:0≤d):shrI .i64 x n=x/d:=by
 unfold shrI
 rw[show min n.toNat (IntKind.bits .i64)=n.toNat from hn,hd]
 exact Int.fdiv_eq_ediv_of_nonneg _ h0
theorem shr24(x:Int):shrI .i64 x (24:Int)=x/16777216:=shrTo x rfl rfl (by decide)
theorem shr16'(x:Int):shrI .i64 x (16:Int)=x/65536:=shrTo x rfl rfl (by decide)
theorem shr8'(x:Int):shrI .i64 x (8:Int)=x/256:=shrTo x rfl rfl (by decide)
def splitL(v:Int):List Int:=[v/16777216%256,v/65536%256,v/256%256,v%256]
def pixelB(v:Int):Bool:=decide (0≤v∧v<4294967296∧v/16777216%256≤v%256∧v/65536%256≤v%256∧v/256%256≤v%256)
theorem c103{v:Int}(hR: ∀H',Ext H H'→R (.agg (ints (splitL v)).toArray) H'):CallsH Tryz.prog 103 #[.int .i64 v] H R:=by
 refine Tryz.s103 ?_
 unfold Tryz.S103
 simp only[and255,shr24,shr16',shr8']
 refine(St.nil H).alc fun b2 H3 hs3=>⟨by decide,by decide,by decide,rfl,hs3.putAllA 0 (l:=splitL v) rfl rfl fun H4 hs4=>⟨_,rfl,rowIn_whole (hs4.block 0 rfl),hR H4 hs4.ext⟩⟩
theorem c124{v:Int}(hR: ∀H',Ext H H'→R (.bool (pixelB v)) H'):CallsH Tryz.prog 124 #[.int .i64 v] H R:=by
 refine Tryz.s124 ?_
 unfold Tryz.S124
 refine c103 fun H3 he3=>⟨_,rfl,?_⟩
 refine((St.of_ext he3)).alc fun b5 H6 hs6=>⟨rfl,hs6.putAllA 0 (l:=splitL v) rfl rfl fun H7 hs7=>?_⟩
 have bad: ¬(0≤v∧v<4294967296)→R (.bool false) H7:=fun h=>by
  have:=hR H7 hs7.ext
  rw[show pixelB v=false from decide_eq_false fun hh=>h ⟨hh.1,hh.2.1⟩] at this
  exact this
 refine br_dec (fun h0=>br_dec (fun h1=>?_) fun h1=>bad (by omega)) fun h0=>bad (by omega)
 refine⟨by decide,by decide,_,hs7.rdA 0 (j:=0) rfl rfl,by decide,by decide,_,hs7.rdA 0 (j:=1) rfl rfl,by decide,by decide,_,hs7.rdA 0 (j:=2) rfl rfl,by decide,by decide,_,hs7.rdA 0 (j:=3) rfl rfl,?_⟩
 have:=hR H7 hs7.ext
 rw[show pixelB v=decide (max (max (v/16777216%256) (v/65536%256)) (v/256%256)≤v%256) from by unfold pixelB;exact decide_eq_decide.2 (by omega)] at this
 exact this
theorem c123{v:Int}(hR: ∀H',Ext H H'→R (.bool (!pixelB v)) H'):CallsH Tryz.prog 123 #[.int .i64 v] H R:=by
 refine Tryz.s123 ?_
 unfold Tryz.S123
 exact c124 fun H3 he=>⟨_,rfl,hR H3 he⟩
theorem c122{p:Option Addr}{l c g:Nat}{xs:List Int}{T:Int→Bool}(h:IS H p l (ints xs))(hl:l≤1000000000000)
 (hg: ∀{H1:Heap} {R1:Value→Heap→Prop} (v:Int),v∈xs→Ext H H1→(∀H',Ext H1 H'→R1 (.bool (T v)) H')→CallsH Tryz.prog g #[.int .i64 v] H1 R1)
 (hR: ∀H',Ext H H'→R (.bool (xs.any T)) H'):CallsH Tryz.prog 122 #[.slice p l c,.func (.func g) #[] #[]] H R:=by
 refine Tryz.s122 ?_
 unfold Tryz.S122
 refine Tryz.s164 ?_
 unfold Tryz.S164
 intro X hX
 have hlen:=h.length
 have go: ∀k,k≤xs.length→ ∀H1,Ext H H1→(xs.take k).any T=false→X [.int .i64 (k:Nat)] H1:=by
  refine upto fun k hk ih H1 he hT=>hX _ _ (br_dec (fun hlt=>?_) fun hge=>?_)
  ·have hk':k<xs.length:=by omega
   have hx:=List.getElem?_eq_getElem hk'
   have hm:=List.getElem_mem hk'
   generalize xs[k]=v at hx hm
   refine IS.rd (i:=(k:Int)) (h.ext he) (by omega) (by omega) (x:=v) hx ?_
   refine hg v hm he fun H9 he9=>⟨_,rfl,br_i (fun ht=>⟨_,rfl,?_⟩) fun ht=>?_⟩
   ·have:=hR H9 (he.trans he9)
    rw[List.any_eq_true.2 ⟨v,hm,ht⟩] at this
    rw[show decide ((k:Int)≥0)=true from decide_eq_true (by omega)]
    exact this
   ·rw[wrap_id (by omega) (by omega)]
    refine ih hk' H9 (he.trans he9) ?_
    rw[take_succ hx,List.any_append,hT]
    simp[ht]
  ·have:k=xs.length:=by omega
   subst this
   rw[List.take_of_length_le (Nat.le_refl _)] at hT
   have:=hR H1 he
   rw[hT] at this
   exact⟨_,rfl,this⟩
 exact go 0 (by omega) H (Ext.refl H) rfl
def insideB(e:Ed)(W:Int)(q:Nat):Bool:=decide (e.x≤(q:Int)%W∧(q:Int)%W<e.x+e.w∧e.y≤(q:Int)/W∧(q:Int)/W<e.y+e.h)
def idxP(e:Ed)(W:Int)(q:Nat):Int:=((q:Int)/W-e.y)*e.w+((q:Int)%W-e.x)
def paintTo(e:Ed)(W:Int)(p:List Int)(k:Int):List Int:=(List.range p.length).map fun q=>if insideB e W q=true∧idxP e W q<k then e.p.getD (idxP e W q).toNat 0 else p.getD q 0
def paintP(e:Ed)(W:Int)(p:List Int):List Int:=(List.range p.length).map fun q=>if insideB e W q=true then e.p.getD (idxP e W q).toNat 0 else p.getD q 0
def paintF(e:Ed)(f:LayF):Int×LayF:=
 if f.kind≠0 then(41,f) else if e.w<1∨e.h<1∨e.w>32768∨e.h>32768∨(e.p.length:Int)≠e.w*e.h then(25,f) else
 if e.p.any (fun v=> !pixelB v)=true then(25,f) else if e.x< -32768∨e.x>32768∨e.y< -32768∨e.y>32768 then(31,f) else(0,{f with p:=paintP e f.w f.p})
theorem idxP_rng{e:Ed}{W:Int}{q:Nat}(h:insideB e W q=true):0≤idxP e W q∧idxP e W q<e.w*e.h:=by
 have hd:=of_decide_eq_true h
 obtain⟨h1,h2,h3,h4⟩:=hd
 unfold idxP
 have a1:0≤((q:Int)/W-e.y)*e.w:=Int.mul_nonneg (by omega) (by omega)
 have a2:((q:Int)/W-e.y)*e.w≤(e.h-1)*e.w:=Int.mul_le_mul_of_nonneg_right (by omega) (by omega)
 have a3:(e.h-1)*e.w=e.w*e.h-e.w:=by rw[Int.sub_mul,Int.mul_comm e.h];omega
 omega
theorem paintTo_len(e:Ed)(W:Int)(p:List Int)(k:Int):(paintTo e W p k).length=p.length:=by simp[paintTo]
theorem paintTo_zero(e:Ed)(W:Int)(p:List Int):paintTo e W p 0=p:=by
 apply List.ext_getElem?
 intro q
 unfold paintTo
 by_cases hq:q<p.length
 ·rw[tab_get' hq,if_neg (fun h=>by have:=(idxP_rng h.1).1;omega),←getD_some p 0 hq]
 ·rw[List.getElem?_eq_none (by simpa using hq),List.getElem?_eq_none (by omega)]
where
 tab_get' {n:Nat} {f:Nat→Int} {i:Nat} (h:i<n):((List.range n).map f)[i]?=some (f i):=by simp[h]
theorem paintTo_all{e:Ed}{W:Int}{p:List Int}{k:Int}(hk:e.w*e.h≤k):paintTo e W p k=paintP e W p:=by
 unfold paintTo paintP
 refine List.map_congr_left fun q _=>?_
 by_cases h:insideB e W q=true
 ·have:=(idxP_rng h).2
  rw[if_pos h,if_pos ⟨h,by omega⟩]
 ·rw[if_neg h,if_neg fun hh=>h hh.1]
theorem div_uniq{n w a b:Int}(hw:0<w)(hb0:0≤b)(hb1:b<w)(h:n=a*w+b):n/w=a∧n%w=b:=by
 have h1:n/w=a:=by
  rw[h,Int.add_comm,Int.add_mul_ediv_right _ _ (by omega),Int.ediv_eq_zero_of_lt hb0 hb1];omega
 refine⟨h1,?_⟩
 have:=Int.emod_add_mul_ediv n w
 rw[h1,Int.mul_comm] at this
 omega
theorem paintTo_in{e:Ed}{W:Int}{p:List Int}{k q:Nat}{Hh:Int}(hw:1≤e.w)(hW:1≤W)(hl:(p.length:Int)=W*Hh)(hk:(k:Int)<e.w*e.h)(h0:0≤e.x+(k:Int)%e.w)(h1:e.x+(k:Int)%e.w<W)(h2:0≤e.y+(k:Int)/e.w)(h3:e.y+(k:Int)/e.w<Hh)
 (hq:(q:Int)=(e.y+(k:Int)/e.w)*W+(e.x+(k:Int)%e.w)):q<p.length∧(paintTo e W p k).set q (e.p.getD k 0)=paintTo e W p (k+1):=by
 obtain⟨q1,q2⟩:=div_uniq (by omega) h0 h1 hq
 have hke:=Int.emod_add_mul_ediv (k:Int) e.w
 have hk0:=Int.emod_nonneg (k:Int) (show e.w≠0 by omega)
 have hk1:=Int.emod_lt_of_pos (k:Int) (show 0<e.w by omega)
 have hk2:(k:Int)/e.w<e.h:=by
  refine Int.ediv_lt_of_lt_mul (by omega) ?_
  rw[Int.mul_comm];exact hk
 have hk3:0≤(k:Int)/e.w:=Int.ediv_nonneg (by omega) (by omega)
 have hql:q<p.length:=by
  have b1:(e.y+(k:Int)/e.w)*W≤(Hh-1)*W:=Int.mul_le_mul_of_nonneg_right (by omega) (by omega)
  have b3:(Hh-1)*W=W*Hh-W:=by rw[Int.sub_mul,Int.mul_comm Hh];omega
  omega
 refine⟨hql,?_⟩
 have hin:insideB e W q=true:=decide_eq_true ⟨by omega,by omega,by omega,by omega⟩
 have hid:idxP e W q=k:=by
  unfold idxP
  rw[q1,q2,show e.y+(k:Int)/e.w-e.y=(k:Int)/e.w from by omega,show e.x+(k:Int)%e.w-e.x=(k:Int)%e.w from by omega,Int.mul_comm]
  omega
 apply List.ext_getElem?
 intro r
 rw[List.getElem?_set,paintTo_len]
 by_cases hr:q=r
 ·subst hr
  rw[if_pos rfl,if_pos hql]
  unfold paintTo
  rw[paintTo_zero.tab_get' hql,if_pos ⟨hin,by omega⟩,hid]
  rfl
 ·rw[if_neg hr]
  by_cases hrl:r<p.length
  ·unfold paintTo
   rw[paintTo_zero.tab_get' hrl,paintTo_zero.tab_get' hrl]
   by_cases hir:insideB e W r=true
   ·have hne:idxP e W r≠k:=fun hh=>hr (by
     obtain⟨i1,i2,i3,i4⟩:=of_decide_eq_true hir
     have:=div_uniq (n:=(k:Int)) (w:=e.w) (a:=(r:Int)/W-e.y) (b:=(r:Int)%W-e.x) (by omega) (by omega) (by omega) (by rw[←hh];rfl)
     have hre:=Int.emod_add_mul_ediv (r:Int) W
     have:(r:Int)/W=(q:Int)/W:=by rw[q1];omega
     have h6:(r:Int)%W=(q:Int)%W:=by rw[q2];omega
     have hqe:=Int.emod_add_mul_ediv (q:Int) W
     rw[this,h6] at hre
     omega)
    by_cases hlt:idxP e W r<k
    ·rw[if_pos ⟨hir,hlt⟩,if_pos ⟨hir,by omega⟩]
    ·rw[if_neg fun h=>hlt h.2,if_neg fun h=>by have:=h.2;omega]
   ·rw[if_neg fun h=>hir h.1,if_neg fun h=>hir h.1]
  ·rw[List.getElem?_eq_none (by rw[paintTo_len];omega),List.getElem?_eq_none (by rw[paintTo_len];omega)]
theorem paintTo_out{e:Ed}{W:Int}{p:List Int}{k:Nat}{Hh:Int}(hw:1≤e.w)(hW:1≤W)(hl:(p.length:Int)=W*Hh)
 (h: ¬(0≤e.x+(k:Int)%e.w∧e.x+(k:Int)%e.w<W∧0≤e.y+(k:Int)/e.w∧e.y+(k:Int)/e.w<Hh)):paintTo e W p k=paintTo e W p (k+1):=by
 unfold paintTo
 refine List.map_congr_left fun r hr=>?_
 have hrl:r<p.length:=List.mem_range.1 hr
 by_cases hir:insideB e W r=true
 ·have hne:idxP e W r≠k:=fun hh=>h (by
   obtain⟨i1,i2,i3,i4⟩:=of_decide_eq_true hir
   have h5:=div_uniq (n:=(k:Int)) (w:=e.w) (a:=(r:Int)/W-e.y) (b:=(r:Int)%W-e.x) (by omega) (by omega) (by omega) (by rw[←hh];rfl)
   have r0:=Int.emod_nonneg (r:Int) (show W≠0 by omega)
   have r1:=Int.emod_lt_of_pos (r:Int) (show 0<W by omega)
   have r2:0≤(r:Int)/W:=Int.ediv_nonneg (by omega) (by omega)
   have r3:(r:Int)/W<Hh:=Int.ediv_lt_of_lt_mul (by omega) (by rw[Int.mul_comm];omega)
   exact⟨by omega,by omega,by omega,by omega⟩)
  by_cases hlt:idxP e W r<k
  ·rw[if_pos ⟨hir,hlt⟩,if_pos ⟨hir,by omega⟩]
  ·rw[if_neg fun h=>hlt h.2,if_neg fun h=>by have:=h.2;omega]
 ·rw[if_neg fun h=>hir h.1,if_neg fun h=>hir h.1]
end Go.Proofs
namespace Go.Proofs
open Go.Sh
variable {H0 H:Heap} {σ:List Rs} {R:Value→Heap→Prop}
def okRas(f:LayF):Prop:=f.kind=0→sizedB f.w f.h=true∧(f.p.length:Int)=f.w*f.h
theorem c71{b d:Nat}{e:Ed}{s:EdS}{K:Sl3}{ks:List T}(hs:St H0 H (resRoot b K ks++σ))(hc:cntKs (layKs ks)≤1000000000)(hed:rdEd H0 e s)(hras: ∀fr u ks',flK [] [] e.id (layKs ks)=some (fr::u,ks')→okRas fr.f)(hR:Chg (paintF e) H0 σ R b ks e.id):
 CallsH Tryz.prog 71 #[.agg (workL b d e s).toArray] H R:=by
 refine Tryz.s71 ?_
 unfold Tryz.S71
 refine hs.alc fun b2 H3 hs3=>⟨_,rfl,rowIn_whole (hs3.block 0 rfl),?_⟩
 refine tgt hs3 (by omega) (fun hl H6 hs6=>⟨_,_,rfl,?_⟩) fun fr u K' ks' a H6 hl ha hs6=>⟨_,_,rfl,?_⟩
 ·intro J hJ
  exact br_ne (fun _=>hR.none hl hs6.tail.app.2) fun h=>absurd h (by decide)
 intro J hJ
 have bad: ∀{v:Int} {H':Heap},paintF e fr.f=(v,fr.f)→v≠0→St H0 H' (.cell b2 (workL b d e s).toArray 130::(openR fr (u++[rootFr b]) K' ks'++σ))→R (.int .i64 v) H':=fun hg hv hs=>hR.err hl hg hv hs.tail.app.2
 have hplen:=(hed.p.ext hs6.ext).length
 refine br_ne (fun h=>absurd rfl h) fun _=>?_
 refine⟨a,rfl,_,hs6.elCell 1 rfl (cellsKs_len fr.pre) (cells_1 fr K') ha,br_ne (fun hk=>?_) fun hk=>?_⟩
 ·exact bad (v:=41) (by unfold paintF;rw[if_pos hk]) (by decide) hs6
 have hF1: ∀x,paintF e fr.f=x↔(if e.w<1∨e.h<1∨e.w>32768∨e.h>32768∨(e.p.length:Int)≠e.w*e.h then(25,fr.f) else
  if e.p.any (fun v=> !pixelB v)=true then(25,fr.f) else if e.x< -32768∨e.x>32768∨e.y< -32768∨e.y>32768 then(31,fr.f) else(0,{fr.f with p:=paintP e fr.f.w fr.f.p}))=x:=fun x=>by
  unfold paintF;rw[if_neg (fun h=>h hk)]
 refine⟨_,hs6.get 0 rfl (j:=10) rfl,br_dec (fun c=>bad (v:=25) ((hF1 _).2 (if_pos (.inl c))) (by decide) hs6) fun c1=>?_⟩
 refine⟨_,hs6.get 0 rfl (j:=11) rfl,br_dec (fun c=>bad (v:=25) ((hF1 _).2 (if_pos (.inr (.inl c)))) (by decide) hs6) fun c2=>?_⟩
 refine⟨_,hs6.get 0 rfl (j:=10) rfl,br_dec (fun c=>bad (v:=25) ((hF1 _).2 (if_pos (.inr (.inr (.inl c))))) (by decide) hs6) fun c3=>?_⟩
 refine⟨_,hs6.get 0 rfl (j:=11) rfl,br_dec (fun c=>bad (v:=25) ((hF1 _).2 (if_pos (.inr (.inr (.inr (.inl c)))))) (by decide) hs6) fun c4=>?_⟩
 have c1: ¬e.w<1:=c1
 have c2: ¬e.h<1:=c2
 have c3: ¬e.w>32768:=c3
 have c4: ¬e.h>32768:=c4
 have hwh:IntKind.wrap .i64 (e.w*e.h)=e.w*e.h:=wrap_area (by omega) (by omega) (by omega) (by omega)
 have hbd:=mul_bd (x:=e.w) (y:=e.h) (A:=32768) (B:=32768) (by omega) (by omega)
 refine⟨_,_,_,hs6.get 0 rfl (j:=12) rfl,_,hs6.get 0 rfl (j:=10) rfl,_,hs6.get 0 rfl (j:=11) rfl,?_⟩
 rw[hwh]
 refine br_ne (fun c=>bad (v:=25) ((hF1 _).2 (if_pos (.inr (.inr (.inr (.inr (by rw[hplen];exact c))))))) (by decide) hs6) fun c5=>hJ _ ?_
 have hF2: ∀x,paintF e fr.f=x↔(if e.p.any (fun v=> !pixelB v)=true then(25,fr.f) else if e.x< -32768∨e.x>32768∨e.y< -32768∨e.y>32768 then(31,fr.f) else(0,{fr.f with p:=paintP e fr.f.w fr.f.p}))=x:=fun x=>by
  rw[hF1,if_neg (by rintro(h|h|h|h|h);exact c1 h;exact c2 h;exact c3 h;exact c4 h;rw[hplen] at h;exact h c5)]
 have c5:(s.P.l:Int)=e.w*e.h:=c5
 refine⟨_,_,_,hs6.get 0 rfl (j:=12) rfl,?_⟩
 refine c122 (hed.p.ext hs6.ext) (by omega) (T:=fun v=> !pixelB v) (fun v _ _ hK=>c123 hK) fun H13 he13=>⟨_,rfl,?_⟩
 have hs13:=hs6.step he13
 refine br_i (fun ht=>bad (v:=25) ((hF2 _).2 (if_pos ht)) (by decide) hs13) fun ht=>?_
 have hF3: ∀x,paintF e fr.f=x↔(if e.x< -32768∨e.x>32768∨e.y< -32768∨e.y>32768 then(31,fr.f) else(0,{fr.f with p:=paintP e fr.f.w fr.f.p}))=x:=fun x=>by
  rw[hF2,if_neg (by rw[ht];exact Bool.false_ne_true)]
 intro J15 hJ15
 refine⟨_,hs13.get 0 rfl (j:=8) rfl,br_dec (fun c=>bad (v:=31) ((hF3 _).2 (if_pos (.inl c))) (by decide) hs13) fun d1=>?_⟩
 refine⟨_,hs13.get 0 rfl (j:=8) rfl,br_dec (fun c=>bad (v:=31) ((hF3 _).2 (if_pos (.inr (.inl c)))) (by decide) hs13) fun d2=>?_⟩
 refine⟨_,hs13.get 0 rfl (j:=9) rfl,br_dec (fun c=>bad (v:=31) ((hF3 _).2 (if_pos (.inr (.inr (.inl c))))) (by decide) hs13) fun d3=>?_⟩
 refine⟨_,hs13.get 0 rfl (j:=9) rfl,br_dec (fun c=>bad (v:=31) ((hF3 _).2 (if_pos (.inr (.inr (.inr c))))) (by decide) hs13) fun d4=>hJ15 _ ?_⟩
 have d1: ¬e.x< -32768:=d1
 have d2: ¬e.x>32768:=d2
 have d3: ¬e.y< -32768:=d3
 have d4: ¬e.y>32768:=d4
 have hF4:paintF e fr.f=(0,{fr.f with p:=paintP e fr.f.w fr.f.p}):=(hF3 _).2 (if_neg (by omega))
 refine⟨_,_,_,hs13.get 0 rfl (j:=12) rfl,?_⟩
 intro X hX
 obtain⟨hsz,hpl⟩:=hras (Fr.lay fr) (u.map Fr.lay) (layKs ks') hl hk
 have hsz:sizedB fr.f.w fr.f.h=true:=hsz
 have hpl:(fr.f.p.length:Int)=fr.f.w*fr.f.h:=hpl
 obtain⟨q1,q2,q3,q4,q5⟩:=of_decide_eq_true hsz
 have hPl:fr.P.l=fr.f.p.length:=by have:=(hs13.fs 2 rfl).len;rw[ints_len] at this;omega
 have go: ∀k,k≤e.p.length→ ∀H1,St H0 H1 (.cell b2 (workL b d e s).toArray 130::(openR ⟨fr.hdr,fr.pre,{fr.f with p:=paintTo e fr.f.w fr.f.p (k:Nat)},fr.P,fr.M,fr.A,fr.post⟩ (u++[rootFr b]) K' ks'++σ))→X [.int .i64 (k:Nat)] H1:=by
  refine upto fun k hk2 ih H1 hs1=>hX _ _ (br_dec (fun hlt=>?_) fun hge=>?_)
  ·have hk':k<e.p.length:=by omega
   intro J21 hJ21
   obtain⟨pa,hpa,hpc⟩:=(hed.p.ext hs1.ext).get k _ (ints_get (List.getElem?_eq_getElem hk'))
   have hpk:e.p.getD k 0=e.p[k]:=by rw[List.getD_eq_getElem?_getD,List.getElem?_eq_getElem hk'];rfl
   have next: ∀H2,St H0 H2 (.cell b2 (workL b d e s).toArray 130::(openR ⟨fr.hdr,fr.pre,{fr.f with p:=paintTo e fr.f.w fr.f.p ((k:Nat)+1)},fr.P,fr.M,fr.A,fr.post⟩ (u++[rootFr b]) K' ks'++σ))→J21 [] H2:=fun H2 hs2=>by
    refine hJ21 _ ?_
    rw[wrap_id (by omega) (by omega)]
    exact ih hk' H2 hs2
   refine⟨pa,hpa,by omega,hlt,e.p[k],by rw[show Int.toNat (k:Int)*1=k from Nat.mul_one k];exact hpc,_,hs1.get 0 rfl (j:=8) rfl,_,hs1.get 0 rfl (j:=10) rfl,by show e.w≠0;omega,_,hs1.get 0 rfl (j:=9) rfl,_,hs1.get 0 rfl (j:=10) rfl,by show e.w≠0;omega,?_⟩
   have m0:=Int.emod_nonneg (k:Int) (show e.w≠0 by omega)
   have m1:=Int.emod_lt_of_pos (k:Int) (show 0<e.w by omega)
   have m2:0≤(k:Int)/e.w:=Int.ediv_nonneg (by omega) (by omega)
   have m3:(k:Int)/e.w≤k:=Int.ediv_le_self _ (by omega)
   rw[Int.tmod_eq_emod_of_nonneg (by omega),Int.tdiv_eq_ediv_of_nonneg (by omega)]
   rw[wrap_id (n:=e.x+(k:Int)%e.w) (by omega) (by omega),wrap_id (n:=(k:Int)/e.w) (by omega) (by omega),wrap_id (n:=e.y+(k:Int)/e.w) (by omega) (by omega)]
   have hpl':(fr.f.p.length:Int)=fr.f.w*fr.f.h:=hpl
   have out: ¬(0≤e.x+(k:Int)%e.w∧e.x+(k:Int)%e.w<fr.f.w∧0≤e.y+(k:Int)/e.w∧e.y+(k:Int)/e.w<fr.f.h)→J21 [] H1:=fun h=>by
    refine next H1 ?_
    have:=paintTo_out (e:=e) (p:=fr.f.p) (by omega) q1 hpl' h
    rw[←this];exact hs1
   refine br_dec (fun g1=>⟨a,rfl,fr.f.w,hs1.elCell 1 rfl (cellsKs_len fr.pre) (j:=5) rfl ha,br_dec (fun g2=>br_dec (fun g3=>⟨a,rfl,fr.f.h,hs1.elCell 1 rfl (cellsKs_len fr.pre) (j:=6) rfl ha,br_dec (fun g4=>?_) fun g4=>out (by omega)⟩) fun g3=>out (by omega)) fun g2=>out (by omega)⟩) fun g1=>out (by omega)
   refine⟨a,rfl,_,_,_,hs1.elCell 1 rfl (cellsKs_len fr.pre) (j:=7) rfl ha,a,rfl,_,hs1.elCell 1 rfl (cellsKs_len fr.pre) (j:=5) rfl ha,?_⟩
   have r1:0≤(e.y+(k:Int)/e.w)*fr.f.w:=Int.mul_nonneg (by omega) (by omega)
   have r2:(e.y+(k:Int)/e.w)*fr.f.w≤(fr.f.h-1)*fr.f.w:=Int.mul_le_mul_of_nonneg_right (by omega) (by omega)
   have r3:(fr.f.h-1)*fr.f.w=fr.f.w*fr.f.h-fr.f.w:=by rw[Int.sub_mul,Int.mul_comm fr.f.h];omega
   show ∃a37:Addr,fr.P.p=some a37∧0≤(IntKind.wrap .i64 ((IntKind.wrap .i64 ((e.y+(k:Int)/e.w)*fr.f.w))+(e.x+(k:Int)%e.w)))∧(IntKind.wrap .i64 ((IntKind.wrap .i64 ((e.y+(k:Int)/e.w)*fr.f.w))+(e.x+(k:Int)%e.w)))<((fr.P.l:Nat):Int)∧stAt H1 (Addr.add a37 (Int.toNat (IntKind.wrap .i64 ((IntKind.wrap .i64 ((e.y+(k:Int)/e.w)*fr.f.w))+(e.x+(k:Int)%e.w)))*1)) [Value.int .i64 e.p[k]] fun H_38=>J21 [] H_38
   rw[wrap_id (n:=(e.y+(k:Int)/e.w)*fr.f.w) (by omega) (by omega),wrap_id (n:=(e.y+(k:Int)/e.w)*fr.f.w+(e.x+(k:Int)%e.w)) (by omega) (by omega)]
   obtain⟨q,hq⟩: ∃q:Nat,(q:Int)=(e.y+(k:Int)/e.w)*fr.f.w+(e.x+(k:Int)%e.w):=⟨((e.y+(k:Int)/e.w)*fr.f.w+(e.x+(k:Int)%e.w)).toNat,by omega⟩
   obtain⟨p1,p2⟩:=paintTo_in (e:=e) (p:=fr.f.p) (k:=k) (q:=q) (by omega) q1 hpl' (by omega) g1 g2 g3 g4 hq
   rw[←hq]
   obtain⟨blk,hblk⟩:=hs1.slSome 2 rfl (j:=q) (by rw[ints_len];show q<(paintTo e fr.f.w fr.f.p k).length;rw[paintTo_len];exact p1)
   have hblk:fr.P.p=some ⟨blk,0,none⟩:=hblk
   refine⟨⟨blk,0,none⟩,hblk,by omega,by omega,?_⟩
   rw[show Int.toNat (q:Int)*1=q from Nat.mul_one q,add_none,Nat.zero_add]
   have hs1':=hs1
   have hsl:(.cell b2 (workL b d e s).toArray 130::(openR ⟨fr.hdr,fr.pre,{fr.f with p:=paintTo e fr.f.w fr.f.p (k:Nat)},fr.P,fr.M,fr.A,fr.post⟩ (u++[rootFr b]) K' ks'++σ):List Rs)[2]?=some (.sl (some ⟨blk,0,none⟩) fr.P.l fr.P.c 3 1 (ints (paintTo e fr.f.w fr.f.p (k:Nat)))):=by rw[←hblk];rfl
   refine hs1.slPut 2 hsl (by rw[ints_len,paintTo_len];exact p1) rfl fun H2 hs2=>next H2 ?_
   rw[ints_set,←hpk,p2,←hblk] at hs2
   exact hs2
  ·have:k=e.p.length:=by omega
   subst this
   have hall:=paintTo_all (e:=e) (W:=fr.f.w) (p:=fr.f.p) (k:=(e.p.length:Nat)) (by omega)
   rw[hall] at hs1
   exact hR.done hl hF4 hs1.tail
 have h0:=go 0 (Nat.zero_le _) H13 (by
  have:=paintTo_zero e fr.f.w fr.f.p
  rw[show((0:Nat):Int)=0 from rfl,this]
  exact hs13)
 exact h0
end Go.Proofs
namespace Go.Sh
open Ieee
def sg(s:Bool)(m:Nat):Int:=if s then-(m:Int) else m
theorem signed_eq(s:Bool)(m u:Nat):signed s m u=sg s m*2^u:=by
 unfold signed sg
 rw[Nat.shiftLeft_eq]
 cases s<;>simp[Int.neg_mul]
theorem sg_not(s:Bool)(m:Nat):sg (!s) m= -sg s m:=by cases s<;>simp[sg]
theorem sg_xor(s t:Bool)(m n:Nat):sg (s ^^ t) (m*n)=sg s m*sg t n:=by cases s<;>cases t<;>simp[sg,Int.neg_mul,Int.mul_neg]
theorem sg_abs(x:Int):sg (decide (x<0)) x.natAbs=x:=by unfold sg;split<;>simp_all<;>omega
theorem natAbs_sg(s:Bool)(m:Nat):(sg s m).natAbs=m:=by cases s<;>simp[sg]
def nv(s:Bool)(m:Nat)(e n:Int):Prop:= ∃k:Nat,0≤e+k∧sg s m*2^(e+k).toNat=n*2^k
theorem p2(a b:Nat):(2:Int)^(a+b)=2^a*2^b:=Int.pow_add 2 a b
theorem nv.up{s:Bool}{m:Nat}{e n:Int}(h:nv s m e n): ∃k:Nat,∀K:Nat,k≤K→0≤e+K∧sg s m*2^(e+K).toNat=n*2^K:=by
 obtain⟨k,h0,h1⟩:=h
 refine⟨k,fun K hK=>⟨by omega,?_⟩⟩
 rw[show(e+(K:Int)).toNat=(e+(k:Int)).toNat+(K-k) from by omega,p2,←Int.mul_assoc,h1,Int.mul_assoc,←p2,show k+(K-k)=K from by omega]
def FZ(b:Nat)(n:Int):Prop:= ∃s m e,double.read b= .number s m e∧nv s m e n
theorem log2_mul_pow{n:Nat}(h:n≠0)(k:Nat):(n*2^k).log2=n.log2+k:=by
 have h1:=Nat.log2_self_le h
 have h2:=Nat.lt_log2_self (n:=n)
 refine(Nat.log2_eq_iff (Nat.mul_ne_zero h (Nat.pos_iff_ne_zero.1 (Nat.two_pow_pos k)))).2 ⟨?_,?_⟩
 ·rw[Nat.pow_add];exact Nat.mul_le_mul_right _ h1
 ·rw[show n.log2+k+1=(n.log2+1)+k from by omega,Nat.pow_add];exact Nat.mul_lt_mul_of_pos_right h2 (Nat.two_pow_pos k)
theorem read_word{s:Bool}{q M:Nat}(hq:q≤52)(h1:4503599627370496≤M)(h2:M<9007199254740992):
 double.read (double.word s (min ((1074-q)*4503599627370496+M) 9218868437227405312))= .number s M (-(q:Int)):=by
 have e1:min ((1074-q)*4503599627370496+M) 9218868437227405312=(1074-q)*4503599627370496+M:=Nat.min_eq_left (by omega)
 rw[e1]
 have hb:double.binade=4503599627370496:=rfl
 have hw:double.signWeight=9223372036854775808:=rfl
 have hi:double.infRung=9218868437227405312:=rfl
 have hl:double.leastPlace= -1074:=rfl
 generalize hR:(1074-q)*4503599627370496+M=R
 have hR1:R<9223372036854775808:=by omega
 have hR2:R/4503599627370496=1075-q:=by omega
 have hR3:R%4503599627370496=M-4503599627370496:=by omega
 unfold Format.read Format.word
 simp only[hb,hw,hi,hl]
 have hs:((if s=true then 9223372036854775808+R else R)/9223372036854775808%2==1)=s:=by
  cases s
  ·simp only[Bool.false_eq_true,if_false];rw[Nat.div_eq_of_lt hR1];rfl
  ·simp only[if_true]
   rw[show(9223372036854775808+R)/9223372036854775808=1 from by omega];rfl
 have hm:(if s=true then 9223372036854775808+R else R)%9223372036854775808=R:=by
  cases s
  ·simp only[Bool.false_eq_true,if_false];exact Nat.mod_eq_of_lt hR1
  ·simp only[if_true];omega
 rw[hs,hm,if_neg (by omega),if_pos (by omega),hR2,hR3]
 have e2:4503599627370496+(M-4503599627370496)=M:=by omega
 have e3:(-1074:Int)+((1075-q-1:Nat):Int)= -(q:Int):=by omega
 rw[e2,e3]
theorem cut_exact(s:Bool)(N q d:Nat)(hN:N≠0)(hd:d≤(N*2^q*2^d).log2+2):Toward.even.cut s (N*2^q*2^d) d=N*2^q:=by
 unfold Toward.cut
 rw[Nat.min_eq_left hd]
 have hg:1 <<< d=2^d:=by rw[Nat.shiftLeft_eq,Nat.one_mul]
 have h1:N*2^q*2^d/2^d=N*2^q:=Nat.mul_div_cancel _ (Nat.two_pow_pos d)
 have h2:N*2^q*2^d%2^d=0:=Nat.mul_mod_left _ _
 have hp:=Nat.two_pow_pos d
 simp only[hg,h1,h2]
 have e1:decide (2^d<2*0)=false:=by simp
 have e2:(2^d==2*0)=false:=by
  rw[beq_eq_false_iff_ne];omega
 rw[e1,e2]
 rfl
theorem FZ.write{s:Bool}{m:Nat}{e n:Int}(h:nv s m e n)(h0: -9007199254740992<n)(h1:n<9007199254740992):FZ (double.write (.number s m e)) n:=by
 obtain⟨k,hk⟩:=h.up
 show FZ (double.nearest s m e) n
 unfold Format.nearest
 by_cases hm:m=0
 ·rw[if_pos hm]
  have hn:n=0:=by
   have:=(hk k (Nat.le_refl _)).2
   rw[hm] at this
   have hz:sg s 0=0:=by cases s<;>rfl
   rw[hz,Int.zero_mul] at this
   rcases Int.mul_eq_zero.1 this.symm with h|h
   ·exact h
   ·exact absurd h (Int.ne_of_gt (Int.pow_pos (by decide)))
  subst hn
  refine⟨s,0,-1074,?_,1074,by decide,?_⟩
  ·cases s<;>rfl
  ·rw[show sg s 0=0 from by cases s<;>rfl,Int.zero_mul,Int.zero_mul]
 ·rw[if_neg hm]
  -- N,the number without its sign
  have habs: ∀K:Nat,k≤K→m*2^(e+K).toNat=n.natAbs*2^K:=fun K hK=>by
   have:=congrArg Int.natAbs (hk K hK).2
   rw[Int.natAbs_mul,Int.natAbs_mul,natAbs_sg,Int.natAbs_pow,Int.natAbs_pow] at this
   exact this
  generalize hN:n.natAbs=N at habs
  have hN0:N≠0:=fun h0=>by
   have:=habs k (Nat.le_refl _)
   rw[h0,Nat.zero_mul] at this
   rcases Nat.mul_eq_zero.1 this with h|h
   ·exact hm h
   ·exact absurd h (Nat.pos_iff_ne_zero.1 (Nat.two_pow_pos _))
  have hNlt:N<2^53:=by
   have:(2:Nat)^53=9007199254740992:=rfl
   omega
  have hL:N.log2≤52:=by
   have:=(Nat.log2_lt hN0 (k:=53)).2 hNlt
   omega
  have hlog:e+(m.log2:Int)=N.log2:=by
   have h3:=congrArg Nat.log2 (habs k (Nat.le_refl _))
   rw[log2_mul_pow hm,log2_mul_pow hN0] at h3
   have:=(hk k (Nat.le_refl _)).1
   omega
  generalize hq:52-N.log2=q
  have hlast:max (e+(m.log2:Int)-(double.fractionBits:Nat)) double.leastPlace= -(q:Int):=by
   have a:(double.fractionBits:Int)=52:=rfl
   have b:double.leastPlace= -1074:=rfl
   rw[hlog,a,b,Int.max_def]
   split<;>omega
  dsimp only
  rw[hlast]
  have hl:double.leastPlace= -1074:=rfl
  have hb:double.binade=4503599627370496:=rfl
  have hi:double.infRung=9218868437227405312:=rfl
  rw[hl,hb,hi]
  have hM1:4503599627370496≤N*2^q:=by
   have h4:=Nat.mul_le_mul_right (2^q) (Nat.log2_self_le hN0)
   rw[←Nat.pow_add,show N.log2+q=52 from by omega] at h4
   exact h4
  have hM2:N*2^q<9007199254740992:=by
   have h4:=Nat.mul_lt_mul_of_pos_right (Nat.lt_log2_self (n:=N)) (Nat.two_pow_pos q)
   rw[←Nat.pow_add,show N.log2+1+q=53 from by omega] at h4
   exact h4
  have hkept:Toward.even.cut s (m <<< (e- -(q:Int)).toNat) (-(q:Int)-e).toNat=N*2^q:=by
   by_cases hc:0≤e+q
   ·rw[show(-(q:Int)-e).toNat=0 from by omega,Nat.shiftLeft_eq,show(e- -(q:Int)).toNat=(e+q).toNat from by omega]
    have h5:=habs (k+q) (by omega)
    rw[show(e+((k+q:Nat):Int)).toNat=(e+q).toNat+k from by omega,Nat.pow_add,←Nat.mul_assoc,Nat.add_comm k q,Nat.pow_add,←Nat.mul_assoc] at h5
    have h6:m*2^(e+q).toNat=N*2^q:=Nat.eq_of_mul_eq_mul_right (Nat.two_pow_pos k) h5
    have h7:=cut_exact s N q 0 hN0 (by omega)
    rw[Nat.pow_zero,Nat.mul_one] at h7
    rw[h6];exact h7
   ·generalize hd:(-(q:Int)-e).toNat=d
    rw[show(e- -(q:Int)).toNat=0 from by omega,Nat.shiftLeft_eq,Nat.pow_zero,Nat.mul_one]
    have h5:=habs (k+q+d) (by omega)
    rw[show(e+((k+q+d:Nat):Int)).toNat=k from by omega,show k+q+d=q+d+k from by omega,Nat.pow_add _ (q+d),←Nat.mul_assoc] at h5
    have h6:m=N*2^(q+d):=Nat.eq_of_mul_eq_mul_right (Nat.two_pow_pos k) h5
    rw[Nat.pow_add,←Nat.mul_assoc] at h6
    rw[h6]
    refine cut_exact s N q d hN0 ?_
    rw[←h6];omega
  rw[hkept,show(-(q:Int)- -1074).toNat=1074-q from by omega]
  refine⟨s,_,_,read_word (by omega) hM1 hM2,q,by omega,?_⟩
  rw[show(-(q:Int)+(q:Int)).toNat=0 from by omega,Int.pow_zero,Int.mul_one]
  have hs:sg s N=n:=by
   have h5:=(hk k (Nat.le_refl _)).2
   have h6:0<(2:Int)^(e+k).toNat:=Int.pow_pos (by decide)
   have h7:0<(2:Int)^k:=Int.pow_pos (by decide)
   cases s with
   |false=>
    have h8:sg false m=(m:Int):=rfl
    rw[h8] at h5
    have h9:(0:Int)<m*2^(e+k).toNat:=Int.mul_pos (by omega) h6
    have h10:0<n:=by
     by_cases h:0<n
     ·exact h
     ·have h:=Int.not_lt.1 h
      have:=Int.mul_le_mul_of_nonneg_right h (Int.le_of_lt h7);rw[Int.zero_mul] at this;omega
    show(N:Int)=n
    omega
   |true=>
    have h8:sg true m= -(m:Int):=rfl
    rw[h8] at h5
    have h9:(0:Int)<m*2^(e+k).toNat:=Int.mul_pos (by omega) h6
    rw[Int.neg_mul] at h5
    have h10:n<0:=by
     by_cases h:n<0
     ·exact h
     ·have h:=Int.not_lt.1 h
      have:=Int.mul_nonneg h (Int.le_of_lt h7);omega
    show-(N:Int)=n
    omega
  have:sg s (N*2^q)=sg s N*2^q:=by cases s<;>simp[sg,Int.neg_mul]
  rw[this,hs]
theorem FZ.ofInt{n:Int}(h0: -9007199254740992<n)(h1:n<9007199254740992):FZ (floatOfInt .f64 n) n:=
 FZ.write (s:=decide (n<0)) (m:=n.natAbs) (e:=0) ⟨0,by omega,by rw[sg_abs];simp⟩ h0 h1
theorem FZ.add{a b:Nat}{x y:Int}(ha:FZ a x)(hb:FZ b y)(h0: -9007199254740992<x+y)(h1:x+y<9007199254740992): ∃r,floatBits .add .f64 a b=some r∧FZ r (x+y):=by
 obtain⟨s,m,i,ra,hx⟩:=ha
 obtain⟨t,n,j,rb,hy⟩:=hb
 obtain⟨k1,h2⟩:=hx.up
 obtain⟨k2,h3⟩:=hy.up
 refine⟨_,by show((double.read a).sum (double.read b)).map double.write=_;rw[ra,rb];rfl,?_⟩
 refine FZ.write ⟨max k1 k2+i.natAbs+j.natAbs,by omega,?_⟩ h0 h1
 obtain⟨h4,h5⟩:=h2 (max k1 k2+i.natAbs+j.natAbs) (by omega)
 obtain⟨h6,h7⟩:=h3 (max k1 k2+i.natAbs+j.natAbs) (by omega)
 generalize max k1 k2+i.natAbs+j.natAbs=K at h4 h5 h6 h7
 rw[signed_eq,signed_eq]
 generalize ht:sg s m*2^(i-min i j).toNat+sg t n*2^(j-min i j).toNat=T
 have hsg:sg (if T=0 then s&&t else decide (T<0)) T.natAbs=T:=by
  by_cases hT:T=0
  ·rw[if_pos hT,hT];cases (s&&t)<;>rfl
  ·rw[if_neg hT];exact sg_abs T
 rw[hsg,←ht,Int.add_mul,Int.mul_assoc,Int.mul_assoc,←p2,←p2,show(i-min i j).toNat+(min i j+(K:Int)).toNat=(i+K).toNat from by omega,show(j-min i j).toNat+(min i j+(K:Int)).toNat=(j+K).toNat from by omega,h5,h7,Int.add_mul]
theorem FZ.sub{a b:Nat}{x y:Int}(ha:FZ a x)(hb:FZ b y)(h0: -9007199254740992<x-y)(h1:x-y<9007199254740992): ∃r,floatBits .sub .f64 a b=some r∧FZ r (x-y):=by
 obtain⟨s,m,i,ra,hx⟩:=ha
 obtain⟨t,n,j,rb,hy⟩:=hb
 obtain⟨k1,h2⟩:=hx.up
 obtain⟨k2,h3⟩:=hy.up
 refine⟨_,by show((double.read a).sum (double.read b).opposite).map double.write=_;rw[ra,rb];rfl,?_⟩
 refine FZ.write ⟨max k1 k2+i.natAbs+j.natAbs,by omega,?_⟩ h0 h1
 obtain⟨h4,h5⟩:=h2 (max k1 k2+i.natAbs+j.natAbs) (by omega)
 obtain⟨h6,h7⟩:=h3 (max k1 k2+i.natAbs+j.natAbs) (by omega)
 generalize max k1 k2+i.natAbs+j.natAbs=K at h4 h5 h6 h7
 rw[signed_eq,signed_eq]
 generalize ht:sg s m*2^(i-min i j).toNat+sg (!t) n*2^(j-min i j).toNat=T
 have hsg:sg (if T=0 then s&& !t else decide (T<0)) T.natAbs=T:=by
  by_cases hT:T=0
  ·rw[if_pos hT,hT];cases (s&& !t)<;>rfl
  ·rw[if_neg hT];exact sg_abs T
 rw[hsg,←ht,Int.add_mul,Int.mul_assoc,Int.mul_assoc,←p2,←p2,show(i-min i j).toNat+(min i j+(K:Int)).toNat=(i+K).toNat from by omega,show(j-min i j).toNat+(min i j+(K:Int)).toNat=(j+K).toNat from by omega,h5,sg_not,Int.neg_mul,h7,Int.sub_mul]
 omega
theorem FZ.mul{a b:Nat}{x y:Int}(ha:FZ a x)(hb:FZ b y)(h0: -9007199254740992<x*y)(h1:x*y<9007199254740992): ∃r,floatBits .mul .f64 a b=some r∧FZ r (x*y):=by
 obtain⟨s,m,i,ra,hx⟩:=ha
 obtain⟨t,n,j,rb,hy⟩:=hb
 obtain⟨k1,h2,h3⟩:=hx
 obtain⟨k2,h4,h5⟩:=hy
 refine⟨_,by show((double.read a).product (double.read b)).map double.write=_;rw[ra,rb];rfl,?_⟩
 refine FZ.write ⟨k1+k2,by omega,?_⟩ h0 h1
 rw[sg_xor,show(i+j+((k1+k2:Nat):Int)).toNat=(i+k1).toNat+(j+k2).toNat from by omega,p2,p2]
 have e: ∀p q r u:Int,p*q*(r*u)=(p*r)*(q*u):=fun p q r u=>by rw[Int.mul_assoc,Int.mul_assoc,Int.mul_left_comm q r u]
 rw[e,h3,h5,e]
theorem xor_top(b:Nat):(b ^^^ 9223372036854775808)%9223372036854775808=b%9223372036854775808∧((b ^^^ 9223372036854775808)/9223372036854775808%2==1)= !(b/9223372036854775808%2==1):=by
 have e:(9223372036854775808:Nat)=2^63:=rfl
 constructor
 ·rw[e,Nat.xor_mod_two_pow];simp
 ·have h1:(b ^^^ 2^63)/2^63=(b/2^63) ^^^ 1:=by rw[Nat.xor_div_two_pow]
  rw[e,h1]
  have h2:((b/2^63) ^^^ 1)%2=((b/2^63)%2 ^^^ 1):=by
   have:=Nat.xor_mod_two_pow (a:=b/2^63) (b:=1) (n:=1)
   simpa using this
  rw[h2]
  rcases Nat.mod_two_eq_zero_or_one (b/2^63) with h|h<;>rw[h]<;>rfl
theorem FZ.neg{a:Nat}{x:Int}(ha:FZ a x):FZ (Op.negFloat .f64 a) (-x):=by
 obtain⟨s,m,i,ra,k,h2,h3⟩:=ha
 refine⟨!s,m,i,?_,k,h2,by rw[sg_not,Int.neg_mul,h3,Int.neg_mul]⟩
 have he:Op.negFloat .f64 a=a ^^^ 9223372036854775808:=rfl
 rw[he]
 obtain⟨h4,h5⟩:=xor_top a
 have hw:double.signWeight=9223372036854775808:=rfl
 unfold Format.read at ra ⊢
 simp only[hw] at ra ⊢
 rw[h4,h5]
 generalize (a/9223372036854775808%2==1)=u at ra ⊢
 split at ra
 ·rename_i hc;rw[if_pos hc];cases ra;rfl
 ·rename_i hc;rw[if_neg hc]
  split at ra
  ·rename_i hc2;rw[if_pos hc2];cases ra;rfl
  ·split at ra<;>cases ra
theorem FZ.order{a b:Nat}{x y:Int}(ha:FZ a x)(hb:FZ b y):Ieee.Format.order (FloatKind.format .f64) a b=some (compare x y):=by
 obtain⟨s,m,i,ra,hx⟩:=ha
 obtain⟨t,n,j,rb,hy⟩:=hb
 obtain⟨k1,h2⟩:=hx.up
 obtain⟨k2,h3⟩:=hy.up
 show(double.read a).order (double.read b)=_
 rw[ra,rb]
 show some (compare (signed s m (i-min i j).toNat) (signed t n (j-min i j).toNat))=_
 rw[signed_eq,signed_eq]
 obtain⟨h4,h5⟩:=h2 (max k1 k2+i.natAbs+j.natAbs) (by omega)
 obtain⟨h6,h7⟩:=h3 (max k1 k2+i.natAbs+j.natAbs) (by omega)
 generalize hK:max k1 k2+i.natAbs+j.natAbs=K at h4 h5 h6 h7
 rw[show(i+(K:Int)).toNat=(i-min i j).toNat+(min i j+K).toNat from by omega,p2,←Int.mul_assoc] at h5
 rw[show(j+(K:Int)).toNat=(j-min i j).toNat+(min i j+K).toNat from by omega,p2,←Int.mul_assoc] at h7
 generalize sg s m*2^(i-min i j).toNat=A at h5
 generalize sg t n*2^(j-min i j).toNat=B at h7
 have hp:(0:Int)<2^(min i j+(K:Int)).toNat:=Int.pow_pos (by decide)
 have hq:(0:Int)<2^K:=Int.pow_pos (by decide)
 generalize (2:Int)^(min i j+(K:Int)).toNat=p at h5 h7 hp
 generalize (2:Int)^K=q at h5 h7 hq
 have key:(A<B↔x<y)∧(A=B↔x=y):=by
  have e1:A*p<B*p↔A<B:=Int.mul_lt_mul_right hp
  have e2:x*q<y*q↔x<y:=Int.mul_lt_mul_right hq
  have e3:A*p=B*p↔A=B:=Int.mul_eq_mul_right_iff (by omega)
  have e4:x*q=y*q↔x=y:=Int.mul_eq_mul_right_iff (by omega)
  rw[h5,h7] at e1 e3
  exact⟨e1.symm.trans e2,e3.symm.trans e4⟩
 congr 1
 show(if A<B then Ordering.lt else if A=B then .eq else .gt)=(if x<y then Ordering.lt else if x=y then .eq else .gt)
 by_cases h8:A<B
 ·rw[if_pos h8,if_pos (key.1.1 h8)]
 ·rw[if_neg h8,if_neg (fun h=>h8 (key.1.2 h))]
  by_cases h9:A=B
  ·rw[if_pos h9,if_pos (key.2.1 h9)]
  ·rw[if_neg h9,if_neg (fun h=>h9 (key.2.2 h))]
theorem FZ.gt{a b:Nat}{x y:Int}(ha:FZ a x)(hb:FZ b y):(Ieee.Format.order (FloatKind.format .f64) a b==some Ordering.gt)=decide (x>y):=by
 rw[ha.order hb]
 show((some (if x<y then Ordering.lt else if x=y then .eq else .gt))==some Ordering.gt)=_
 by_cases h8:x<y
 ·rw[if_pos h8];simp;omega
 ·rw[if_neg h8]
  by_cases h9:x=y
  ·rw[if_pos h9];simp;omega
  ·rw[if_neg h9];simp;omega
theorem FZ.zero:FZ 0 0:=⟨false,0,-1074,rfl,1074,by decide,by rw[show sg false 0=0 from rfl,Int.zero_mul,Int.zero_mul]⟩
theorem FZ.two:FZ 4611686018427387904 2:=⟨false,4503599627370496,-51,by rfl,51,by decide,by decide⟩
end Go.Sh
namespace Go.Proofs
open Go.Sh
variable {H0 H:Heap} {σ:List Rs} {R:Value→Heap→Prop}
abbrev Pt:=Int×Int
def ptB(p:Pt):Bool:=decide (-1048576≤p.1∧p.1≤1048576∧ -1048576≤p.2∧p.2≤1048576)
def shapeB(l:List Pt):Bool:=decide (3≤l.length∧l.length≤256)&&l.all ptB
def nMet(a b:Pt)(x y:Int):Int:=(2*b.1-2*a.1)*(2*y+1-2*a.2)+(2*a.1-(2*x+1))*(2*b.2-2*a.2)
def metB(a b:Pt)(x y:Int):Bool:=
 if decide (2*a.2>2*y+1)=decide (2*b.2>2*y+1) then false else if 2*b.2-2*a.2<0 then decide (nMet a b x y<0) else decide (nMet a b x y>0)
def xorN:Nat→(Nat→Bool)→Bool
 |0,_=>false
 |n+1,f=>xorN n f ^^ f n
theorem xorN_front(f:Nat→Bool): ∀n,xorN (n+1) f=(f 0 ^^ xorN n fun i=>f (i+1))
 |0=>by simp[xorN]
 |n+1=>by rw[xorN,xorN_front f n,xorN,Bool.xor_assoc]
theorem xorN_congr{f g:Nat→Bool}: ∀{n:Nat},(∀i,i<n→f i=g i)→xorN n f=xorN n g
 |0,_=>rfl
 |n+1,h=>by rw[xorN,xorN,xorN_congr fun i hi=>h i (by omega),h n (by omega)]
def nthP(l:List Pt)(i:Nat):Pt:=l.getD i (0,0)
def withinB(l:List Pt)(x y:Int):Bool:=xorN l.length fun i=>metB (nthP l i) (nthP l (if i+1=l.length then 0 else i+1)) x y
theorem within_prev(l:List Pt)(x y:Int):withinB l x y=xorN l.length fun k=>metB (nthP l (if k=0 then l.length-1 else k-1)) (nthP l k) x y:=by
 unfold withinB
 cases hl:l.length with
 |zero=>rfl
 |succ m=>
  rw[xorN,xorN_front,Bool.xor_comm]
  congr 1
  ·simp
  ·refine xorN_congr fun i hi=>?_
   rw[if_neg (by omega),if_neg (by omega),show i+1-1=i from by omega]
def ptV(p:Pt):Array Value:=#[.int .i64 p.1,.int .i64 p.2]
theorem IS2.row{H:Heap}{p:Option Addr}{l:Nat}{pts:List Pt}(h:IS2 H p l pts){i:Nat}(hi:i<pts.length): ∃a,p=some a∧rowIn H (a.add (i*2)) (ptV (nthP pts i)):=by
 have hx:=List.getElem?_eq_getElem hi
 have hn:nthP pts i=pts[i]:=by unfold nthP;rw[List.getD_eq_getElem?_getD,hx];rfl
 rw[hn]
 exact h.get i _ _ hx
theorem CZ.sub{a b c d:Nat}{x y u v:Int}(ha:FZ a x)(hb:FZ b y)(hc:FZ c u)(hd:FZ d v)(h1: -1000000000000≤x-u∧x-u≤1000000000000)(h2: -1000000000000≤y-v∧y-v≤1000000000000):
 ∃re im,cSumBits .sub .f64 a b c d=some (re,im)∧FZ re (x-u)∧FZ im (y-v):=by
 obtain⟨re,e1,f1⟩:=ha.sub hc (by omega) (by omega)
 obtain⟨im,e2,f2⟩:=hb.sub hd (by omega) (by omega)
 exact⟨re,im,by unfold cSumBits;rw[e1,e2];rfl,f1,f2⟩
theorem CZ.mul{a b c d:Nat}{x y u v:Int}(ha:FZ a x)(hb:FZ b y)(hc:FZ c u)(hd:FZ d v)(h1: -1000000000000000≤x*u∧x*u≤1000000000000000)(h2: -1000000000000000≤y*v∧y*v≤1000000000000000)
 (h3: -1000000000000000≤x*v∧x*v≤1000000000000000)(h4: -1000000000000000≤y*u∧y*u≤1000000000000000): ∃re im,cMulBits a b c d=some (re,im)∧FZ re (x*u-y*v)∧FZ im (x*v+y*u):=by
 obtain⟨p,e1,f1⟩:=ha.mul hc (by omega) (by omega)
 obtain⟨q,e2,f2⟩:=hb.mul hd (by omega) (by omega)
 obtain⟨r,e3,f3⟩:=ha.mul hd (by omega) (by omega)
 obtain⟨s,e4,f4⟩:=hb.mul hc (by omega) (by omega)
 obtain⟨re,e5,f5⟩:=f1.sub f2 (by omega) (by omega)
 obtain⟨im,e6,f6⟩:=f3.add f4 (by omega) (by omega)
 exact⟨re,im,by unfold cMulBits;simp only[e1,e2,e3,e4,e5,e6,Option.bind_some],f5,f6⟩
theorem c208{p:Pt}(hR: ∀H',Ext H H'→R (.complex .f64 (floatOfInt .f64 p.1) (floatOfInt .f64 p.2)) H'):CallsH Tryz.prog 208 #[.agg (ptV p)] H R:=by
 refine Tryz.s208 ?_
 unfold Tryz.S208
 exact(St.nil H).alcE fun b2 H3 he hs3=>⟨_,hs3.get 0 rfl (j:=0) rfl,_,hs3.get 0 rfl (j:=1) rfl,rfl,hR H3 he⟩
theorem c209{a b c d:Nat}{x y u v:Int}(ha:FZ a x)(hb:FZ b y)(hc:FZ c u)(hd:FZ d v)(hx: -10000000≤x∧x≤10000000)(hy: -10000000≤y∧y≤10000000)(hu: -10000000≤u∧u≤10000000)(hv: -10000000≤v∧v≤10000000)
 (hR: ∀r,FZ r (x*v+ -y*u)→R (.float .f64 r) H):CallsH Tryz.prog 209 #[.complex .f64 a b,.complex .f64 c d] H R:=by
 refine Tryz.s209 ?_
 unfold Tryz.S209
 have b1:=mul_bd hx hu
 have b2:=mul_bd (x:= -y) (y:=v) (A:=10000000) (B:=10000000) (by omega) hv
 have b3:=mul_bd hx hv
 have b4:=mul_bd (x:= -y) (y:=u) (A:=10000000) (B:=10000000) (by omega) hu
 obtain⟨re,im,e1,_,f2⟩:=CZ.mul ha hb.neg hc hd (by omega) (by omega) (by omega) (by omega)
 exact⟨rfl,rfl,rfl,re,im,e1,hR im f2⟩
theorem mul2{c d:Nat}{u v:Int}(hc:FZ c u)(hd:FZ d v)(hu: -10000000≤u∧u≤10000000)(hv: -10000000≤v∧v≤10000000): ∃re im,cMulBits (4611686018427387904:Nat) (0:Nat) c d=some (re,im)∧FZ re (2*u)∧FZ im (2*v):=by
 obtain⟨re,im,e1,f1,f2⟩:=CZ.mul FZ.two FZ.zero hc hd (by omega) (by omega) (by omega) (by omega)
 rw[Int.zero_mul,Int.sub_zero] at f1
 rw[Int.zero_mul,Int.add_zero] at f2
 exact⟨re,im,e1,f1,f2⟩
theorem met_prog(a b:Pt)(x y:Int):metB a b x y=if decide (2*a.2>2*y+1)=decide (2*b.2>2*y+1) then false else
 if 2*b.2>2*y+1 then decide ((2*b.1-2*a.1)*(2*y+1-2*a.2)+ -(2*b.2-2*a.2)*(2*x+1-2*a.1)>0) else decide ((2*a.1-2*b.1)*(2*y+1-2*b.2)+ -(2*a.2-2*b.2)*(2*x+1-2*b.1)>0):=by
 unfold metB nMet
 split
 ·rfl
 ·rename_i hne
  have hne': ¬((2*a.2>2*y+1)↔(2*b.2>2*y+1)):=fun h=>hne (decide_eq_decide.2 h)
  obtain⟨ax,ay⟩:=a
  obtain⟨bx,by_⟩:=b
  simp only at hne' ⊢
  by_cases hb:2*by_>2*y+1
  ·rw[if_pos hb,if_neg (by omega)]
   refine decide_eq_decide.2 ?_
   have e:(2*bx-2*ax)*(2*y+1-2*ay)+(2*ax-(2*x+1))*(2*by_-2*ay)=(2*bx-2*ax)*(2*y+1-2*ay)+ -(2*by_-2*ay)*(2*x+1-2*ax):=by
    congr 1
    rw[show(2*ax-(2*x+1))= -(2*x+1-2*ax) from by omega,Int.neg_mul,Int.neg_mul,Int.mul_comm]
   rw[e]
  ·rw[if_neg hb,if_pos (by omega)]
   refine decide_eq_decide.2 ?_
   have e:(2*bx-2*ax)*(2*y+1-2*ay)+(2*ax-(2*x+1))*(2*by_-2*ay)= -((2*ax-2*bx)*(2*y+1-2*by_)+ -(2*ay-2*by_)*(2*x+1-2*bx)):=by
    generalize hm:2*x+1=m
    generalize hn:2*y+1=n
    generalize 2*ax=p
    generalize 2*bx=q
    generalize 2*ay=r
    generalize 2*by_=t
    rw[Int.neg_mul]
    simp only[Int.sub_mul,Int.mul_sub]
    rw[Int.mul_comm m t,Int.mul_comm m r,Int.mul_comm p t,Int.mul_comm p r,Int.mul_comm q r,Int.mul_comm q t]
    omega
   rw[e];omega
theorem pt_bd{l:List Pt}(h:l.all ptB=true)(i:Nat):(-1048576≤(nthP l i).1∧(nthP l i).1≤1048576)∧(-1048576≤(nthP l i).2∧(nthP l i).2≤1048576):=by
 by_cases hi:i<l.length
 ·have hn:nthP l i=l[i]:=by unfold nthP;rw[List.getD_eq_getElem?_getD,List.getElem?_eq_getElem hi];rfl
  have:=of_decide_eq_true (List.all_eq_true.1 h _ (List.getElem_mem hi))
  rw[hn]
  exact⟨⟨this.1,this.2.1⟩,this.2.2⟩
 ·have hn:nthP l i=(0,0):=by unfold nthP;rw[List.getD_eq_getElem?_getD,List.getElem?_eq_none (by omega)];rfl
  rw[hn];decide
theorem c166{p:Option Addr}{n c:Nat}{l:List Pt}(h:IS2 H p n l)(hn:1≤n)(hn2:n≤1000000)(hb:l.all ptB=true){x y:Int}(hx:0≤x∧x≤100000)(hy:0≤y∧y≤100000)(hR: ∀H',Ext H H'→R (.bool (withinB l x y)) H'):
 CallsH Tryz.prog 166 #[.slice p n c,.int .i64 x,.int .i64 y] H R:=by
 refine Tryz.s166 ?_
 unfold Tryz.S166
 have hlen:=h.len
 rw[wrap_id (n:=(n:Int)-1) (by omega) (by omega),show Int.toNat ((n:Int)-1)=n-1 from by omega]
 have m1:IntKind.wrap .i64 (IntKind.wrap .i64 ((2:Int)*x)+(1:Int))=2*x+1:=by rw[wrap_id (n:=2*x) (by omega) (by omega),wrap_id (by omega) (by omega)]
 have m2:IntKind.wrap .i64 (IntKind.wrap .i64 ((2:Int)*y)+(1:Int))=2*y+1:=by rw[wrap_id (n:=2*y) (by omega) (by omega),wrap_id (by omega) (by omega)]
 rw[m1,m2]
 have fmx:FZ (floatOfInt .f64 (2*x+1)) (2*x+1):=FZ.ofInt (by omega) (by omega)
 have fmy:FZ (floatOfInt .f64 (2*y+1)) (2*y+1):=FZ.ofInt (by omega) (by omega)
 obtain⟨a0,hp,hrow⟩:=h.row (i:=n-1) (by omega)
 refine⟨rfl,a0,hp,by omega,by omega,_,rfl,hrow,?_⟩
 refine(St.nil H).alc fun b6 H7 hs7=>⟨rfl,hs7.putAll 0 rfl rfl (by simp[ptV,Value.oneCell']) fun H8 hs8=>?_⟩
 intro X hX
 have go: ∀k,k≤n→ ∀H1,St H H1 [.cell b6 (ptV (nthP l (if k=0 then l.length-1 else k-1))) 146]→X [.bool (xorN k fun k=>metB (nthP l (if k=0 then l.length-1 else k-1)) (nthP l k) x y),.int .i64 (k:Nat)] H1:=by
  refine upto fun k hk ih H1 hs1=>hX _ _ _ (br_dec (fun hlt=>?_) fun hge=>?_)
  ·have hk':k<n:=by omega
   obtain⟨a1,hp1,hrow1⟩:=(h.ext hs1.ext).row (i:=k) (by omega)
   generalize hA:nthP l (if k=0 then l.length-1 else k-1)=A at hs1
   have hAb:=pt_bd hb (if k=0 then l.length-1 else k-1)
   rw[hA] at hAb
   have hBb:=pt_bd hb k
   have hxs:xorN (k+1) (fun k=>metB (nthP l (if k=0 then l.length-1 else k-1)) (nthP l k) x y)=((xorN k fun k=>metB (nthP l (if k=0 then l.length-1 else k-1)) (nthP l k) x y) ^^ metB A (nthP l k) x y):=by rw[xorN,hA]
   generalize hB:nthP l k=B at hrow1 hBb hxs
   generalize hO:(xorN k fun k=>metB (nthP l (if k=0 then l.length-1 else k-1)) (nthP l k) x y)=O at hxs
   refine⟨a1,hp1,by omega,hlt,_,rfl,hrow1,hs1.alc fun b15 H16 hs16=>⟨rfl,hs16.putAll 0 rfl rfl (by simp[ptV,Value.oneCell']) fun H17 hs17=>?_⟩⟩
   refine⟨_,rfl,rowIn_whole (hs17.block 1 rfl),_,rfl,rowIn_whole (hs17.block 0 rfl),?_⟩
   refine c208 (p:=A) fun H21 he21=>⟨_,_,rfl,.inl he21,rfl,rfl,?_⟩
   obtain⟨ar,ai,ea,far,fai⟩:=mul2 (FZ.ofInt (n:=A.1) (by omega) (by omega)) (FZ.ofInt (n:=A.2) (by omega) (by omega)) (by omega) (by omega)
   refine⟨ar,ai,ea,?_⟩
   refine c208 (p:=B) fun H26 he26=>⟨_,_,rfl,rfl,rfl,?_⟩
   obtain⟨br',bi,eb,fbr,fbi⟩:=mul2 (FZ.ofInt (n:=B.1) (by omega) (by omega)) (FZ.ofInt (n:=B.2) (by omega) (by omega)) (by omega) (by omega)
   refine⟨br',bi,eb,rfl,rfl,?_⟩
   have hs26:=(hs17.step he21).step he26
   -- what is left of a round
   have next: ∀(t:Bool),metB A B x y=t→ ∀H2,St H H2 (.cell b15 (ptV B) 146:: .cell b6 (ptV A) 146::[])→
    ∃v41:Array Value,v41.size=2∧rowIn H2 ⟨b15,0,none⟩ v41∧v41.size=2∧stAt H2 ⟨b6,0,none⟩ (Array.toList v41) fun H_42=>X [Value.bool (O ^^ t),Value.int .i64 (IntKind.wrap .i64 ((k:Int)+(1:Int)))] H_42:=fun t ht H2 hs2=>by
    refine⟨_,?_,rowIn_whole (hs2.block 0 rfl),?_,?_⟩
    ·rfl
    ·rfl
    refine hs2.putAll 1 rfl rfl (by simp[ptV,Value.oneCell']) fun H3 hs3=>?_
    rw[wrap_id (by omega) (by omega)]
    have:=ih hk' H3 (by
     rw[if_neg (by omega),show k+1-1=k from by omega,hB]
     exact hs3.tail)
    rw[hxs,ht] at this
    exact this
   rw[fai.gt fmy,fbi.gt fmy]
   -- the cross product of a and b,a the lower
   have cross: ∀(cr ci dr di:Nat) (C D:Pt),FZ cr (2*C.1)→FZ ci (2*C.2)→FZ dr (2*D.1)→FZ di (2*D.2)→(-1048576≤C.1∧C.1≤1048576)→(-1048576≤C.2∧C.2≤1048576)→(-1048576≤D.1∧D.1≤1048576)→(-1048576≤D.2∧D.2≤1048576)→
    metB A B x y=decide ((2*C.1-2*D.1)*(2*y+1-2*D.2)+ -(2*C.2-2*D.2)*(2*x+1-2*D.1)>0)→
    (FloatKind.f64=FloatKind.f64∧ ∃re34 im35:Nat,cSumBits .sub .f64 cr ci dr di=some (re34,im35)∧(FloatKind.f64=FloatKind.f64∧ ∃re36 im37:Nat,cSumBits .sub .f64 (floatOfInt .f64 (2*x+1)) (floatOfInt .f64 (2*y+1)) dr di=some (re36,im37)∧CallsH Tryz.prog 209 #[Value.complex .f64 re34 im35,Value.complex .f64 re36 im37] H26 fun r38 H_39=> ∃r40:Nat,r38=Value.float .f64 r40∧(FloatKind.f64=FloatKind.f64∧br (Ieee.Format.order (FloatKind.format .f64) r40 (0:Nat)==some Ordering.gt)
     (∃v41:Array Value,v41.size=2∧rowIn H_39 ⟨b15,0,none⟩ v41∧v41.size=2∧stAt H_39 ⟨b6,0,none⟩ (Array.toList v41) fun H_42=>X [Value.bool (!O),Value.int .i64 (IntKind.wrap .i64 ((k:Int)+(1:Int)))] H_42)
     (∃v43:Array Value,v43.size=2∧rowIn H_39 ⟨b15,0,none⟩ v43∧v43.size=2∧stAt H_39 ⟨b6,0,none⟩ (Array.toList v43) fun H_44=>X [Value.bool O,Value.int .i64 (IntKind.wrap .i64 ((k:Int)+(1:Int)))] H_44)))):=by
    intro cr ci dr di C D fcr fci fdr fdi hc1 hc2 hd1 hd2 hm
    obtain⟨r1,i1,e1,f1,f2⟩:=CZ.sub fcr fci fdr fdi (by omega) (by omega)
    obtain⟨r2,i2,e2,f3,f4⟩:=CZ.sub fmx fmy fdr fdi (by omega) (by omega)
    refine⟨rfl,r1,i1,e1,rfl,r2,i2,e2,?_⟩
    refine c209 f1 f2 f3 f4 (by omega) (by omega) (by omega) (by omega) fun r fr=>⟨r,rfl,rfl,?_⟩
    rw[fr.gt FZ.zero,←hm]
    refine br_i (fun ht=>?_) fun ht=>?_
    ·have:=next true ht H26 hs26
     rw[Bool.xor_true] at this
     exact this
    ·have:=next false ht H26 hs26
     rw[Bool.xor_false] at this
     exact this
   have hmp:=met_prog A B x y
   by_cases hab:decide (2*A.2>2*y+1)=decide (2*B.2>2*y+1)
   ·rw[if_pos hab] at hmp
    refine br_f (by rw[hab];simp) ?_
    have:=next false hmp H26 hs26
    rw[Bool.xor_false] at this
    exact this
   ·rw[if_neg hab] at hmp
    refine br_t (by simpa using hab) ?_
    intro J hJ
    refine br_dec (fun hB2=>?_) fun hB2=>?_
    ·rw[if_pos hB2] at hmp
     exact hJ _ _ _ _ _ (cross _ _ _ _ B A fbr fbi far fai hBb.1 hBb.2 hAb.1 hAb.2 hmp)
    ·rw[if_neg hB2] at hmp
     exact hJ _ _ _ _ _ (cross _ _ _ _ A B far fai fbr fbi hAb.1 hAb.2 hBb.1 hBb.2 hmp)
  ·have:k=n:=by omega
   subst this
   have:=hR H1 hs1.ext
   rw[within_prev,hlen] at this
   rw[hlen]
   exact this
 exact go 0 (Nat.zero_le _) H8 (by rw[if_pos rfl,hlen];exact hs8)
end Go.Proofs
namespace Go.Proofs
open Go.Sh
variable {H0 H:Heap} {σ:List Rs} {R:Value→Heap→Prop}
theorem c207{p:Pt}(hR: ∀H',Ext H H'→R (.bool (ptB p)) H'):CallsH Tryz.prog 207 #[.agg (ptV p)] H R:=by
 refine Tryz.s207 ?_
 unfold Tryz.S207
 refine(St.nil H).alcE fun b2 H3 he hs3=>?_
 have bad: ¬(-1048576≤p.1∧p.1≤1048576∧ -1048576≤p.2∧p.2≤1048576)→R (.bool false) H3:=fun h=>by
  have:=hR H3 he
  rw[show ptB p=false from decide_eq_false h] at this;exact this
 refine⟨_,hs3.get 0 rfl (j:=0) rfl,br_dec (fun h1=>⟨_,hs3.get 0 rfl (j:=0) rfl,br_dec (fun h2=>⟨_,hs3.get 0 rfl (j:=1) rfl,br_dec (fun h3=>⟨_,hs3.get 0 rfl (j:=1) rfl,?_⟩) fun h=>bad (by omega)⟩) fun h=>bad (by omega)⟩) fun h=>bad (by omega)⟩
 have:=hR H3 he
 rw[show ptB p=decide (p.2≤1048576) from decide_eq_decide.2 ⟨fun h=>h.2.2.2,fun h=>⟨h1,h2,h3,h⟩⟩] at this
 exact this
theorem IS2.nil(H:Heap):IS2 H none 0 []:=⟨rfl,fun i x y h=>by simp at h⟩
theorem nthP_eq{l:List Pt}{i:Nat}(h:i<l.length):nthP l i=l[i]:=by unfold nthP;rw[List.getD_eq_getElem?_getD,List.getElem?_eq_getElem h];rfl
theorem c165{p:Option Addr}{n c:Nat}{l:List Pt}(h:IS2 H p n l)(hn:n≤1000000000)(hR: ∀H',Ext H H'→R (.int .i64 (if shapeB l=true then 0 else 31)) H'):
 CallsH Tryz.prog 165 #[.slice p n c,.slice none 0 0] H R:=by
 refine Tryz.s165 ?_
 unfold Tryz.S165
 have hlen:=h.len
 have bad: ¬(shapeB l=true)→ ∀{H'},Ext H H'→R (.int .i64 31) H':=fun hb {H'} he=>by
  have:=hR H' he
  rw[if_neg hb] at this;exact this
 intro J hJ
 refine br_dec (fun h3=>bad (fun hh=>?_) (Ext.refl H)) fun h3=>br_dec (fun h4=>bad (fun hh=>?_) (Ext.refl H)) fun h4=>hJ _ ?_
 ·unfold shapeB at hh;rw[Bool.and_eq_true] at hh;have:=of_decide_eq_true hh.1;omega
 ·unfold shapeB at hh;rw[Bool.and_eq_true] at hh;have:=of_decide_eq_true hh.1;omega
 refine(St.nil H).alcE fun b5 H6 he6 hs6=>?_
 intro X hX
 have two: ∀H1,l.all ptB=true→St H H1 [.cell b5 #[Value.slice p n c,Value.slice none 0 0] 36]→X [.int .i64 2] H1:=fun H1 hall hs1=>by
  refine hX _ _ (br_f (by decide) ?_)
  have:=hR H1 hs1.ext
  rw[if_pos (by unfold shapeB;rw[Bool.and_eq_true];exact⟨decide_eq_true (by omega),hall⟩)] at this
  exact this
 have one: ∀H1,l.all ptB=true→St H H1 [.cell b5 #[Value.slice p n c,Value.slice none 0 0] 36]→X [.int .i64 1] H1:=fun H1 hall hs1=>by
  refine hX _ _ (br_t (by decide) ⟨_,rfl,by decide,by decide,_,_,_,hs1.get 0 rfl (j:=1) rfl,?_⟩)
  intro X2 hX2
  exact hX2 _ _ (br_f (by decide) (two H1 hall hs1))
 refine hX _ _ (br_t (by decide) ⟨_,rfl,by decide,by decide,_,_,_,hs6.get 0 rfl (j:=0) rfl,?_⟩)
 intro X2 hX2
 have go: ∀k,k≤n→ ∀H1,(l.take k).all ptB=true→St H H1 [.cell b5 #[Value.slice p n c,Value.slice none 0 0] 36]→X2 [.int .i64 (k:Nat)] H1:=by
  refine upto fun k hk ih H1 hall hs1=>hX2 _ _ (br_dec (fun hlt=>?_) fun hge=>?_)
  ·have hk':k<n:=by omega
   obtain⟨a1,hp1,hrow1⟩:=(h.ext hs1.ext).row (i:=k) (by omega)
   refine⟨a1,hp1,by omega,hlt,_,rfl,hrow1,hs1.alc fun b17 H18 hs18=>⟨rfl,hs18.putAll 0 rfl rfl (by simp[ptV,Value.oneCell']) fun H19 hs19=>?_⟩⟩
   refine⟨_,rfl,rowIn_whole (hs19.block 0 rfl),?_⟩
   refine c207 (p:=nthP l k) fun H22 he22=>⟨_,rfl,br_not (fun hb=>?_) fun hb=>?_⟩
   ·refine bad (fun hh=>?_) (hs19.ext.trans he22)
    unfold shapeB at hh;rw[Bool.and_eq_true] at hh
    have:=List.all_eq_true.1 hh.2 _ (List.getElem_mem (n:=k) (show k<l.length by omega))
    rw[nthP_eq (by omega),this] at hb;cases hb
   ·rw[wrap_id (by omega) (by omega)]
    refine ih hk' H22 ?_ ((hs19.tail).step he22)
    rw[take_succ (List.getElem?_eq_getElem (show k<l.length by omega)),List.all_append,hall,Bool.true_and]
    rw[nthP_eq (by omega)] at hb
    simp[hb]
  ·have:k=n:=by omega
   subst this
   rw[List.take_of_length_le (by omega)] at hall
   exact one H1 hall hs1
 exact go 0 (Nat.zero_le _) H6 rfl hs6
def maskL(w h:Int)(f:Int→Int→Bool):List Int:=(List.range (w*h).toNat).map fun(i:Nat)=>if f ((i:Int)%w) ((i:Int)/w)=true then 255 else 0
theorem reps_u8(n:Nat):(reps n (Array.toList #[Value.int .u8 0])).toArray.toList=kints .u8 (List.replicate n 0):=by
 show reps n [Value.int .u8 0]=_
 rw[reps_rep];simp[kints]
theorem c125{p:Option Addr}{n c:Nat}{l:List Pt}{w h:Int}(hl:IS2 H p n l)(hn:n≤1000000000)(hsz:sizedB w h=true)
 (h0:shapeB l=false→ ∀H',Ext H H'→R (.tuple #[.slice none 0 0,.int .i64 31]) H')
 (h1:shapeB l=true→ ∀(m:Sl3) H',St H H' [.sl m.p m.l m.c 5 1 (kints .u8 (maskL w h (withinB l)))]→R (.tuple #[.slice m.p m.l m.c,.int .i64 0]) H'):
 CallsH Tryz.prog 125 #[.slice p n c,.int .i64 w,.int .i64 h] H R:=by
 obtain⟨q1,q2,q3,q4,q5⟩:=of_decide_eq_true hsz
 have hwh:IntKind.wrap .i64 (w*h)=w*h:=wrap_area q1 q2 q3 q4
 have hpos:0≤w*h:=Int.mul_nonneg (by omega) (by omega)
 refine Tryz.s125 ?_
 unfold Tryz.S125
 rw[hwh]
 refine c165 hl hn fun H5 he5=>⟨_,rfl,?_⟩
 cases hsh:shapeB l with
 |false=>exact br_ne (fun _=>h0 hsh H5 he5) fun h=>absurd h (by decide)
 |true=>
  refine br_ne (fun h=>absurd rfl h) fun _=>?_
  intro J hJ
  refine br_n (by omega) (br_n (by omega) (br_n (by omega) (br_n (by omega) (br_n (by omega) (hJ _ ?_)))))
  refine⟨hpos,Int.le_refl _,by omega,by omega,?_⟩
  refine(St.of_ext he5).alc fun b9 H10 hs10=>?_
  intro X hX
  have hs10:=hs10.toSl 0 (l:=(w*h).toNat) (k:=1) (fs:=kints .u8 (List.replicate (w*h).toNat 0)) rfl (by simp[reps_length]) (reps_u8 _) (kints_one _ _)
  have hsb:=hsh
  unfold shapeB at hsb
  rw[Bool.and_eq_true] at hsb
  have hlen:=hl.len
  have hlb:=of_decide_eq_true hsb.1
  have hML:(maskL w h (withinB l)).length=(w*h).toNat:=by simp[maskL]
  have go: ∀k,k≤(w*h).toNat→ ∀H1,St H H1 [.sl (some ⟨b9,0,none⟩) (w*h).toNat (w*h).toNat 5 1 (kints .u8 (fillA (maskL w h (withinB l)) k))]→X [.int .i64 (k:Nat)] H1:=by
   refine upto fun k hk ih H1 hs1=>hX _ _ (br_dec (fun hlt=>?_) fun hge=>?_)
   ·have hk':k<(w*h).toNat:=by omega
    have m0:=Int.emod_nonneg (k:Int) (show w≠0 by omega)
    have m1:=Int.emod_lt_of_pos (k:Int) (show 0<w by omega)
    have m2:0≤(k:Int)/w:=Int.ediv_nonneg (by omega) (by omega)
    have m3:(k:Int)/w<h:=Int.ediv_lt_of_lt_mul (by omega) (by rw[Int.mul_comm];omega)
    rw[Int.tmod_eq_emod_of_nonneg (by omega),Int.tdiv_eq_ediv_of_nonneg (by omega),wrap_id (n:=(k:Int)/w) (by omega) (by omega)]
    have hget:(maskL w h (withinB l)).getD k 0=if withinB l ((k:Int)%w) ((k:Int)/w)=true then 255 else 0:=by unfold maskL;rw[tab_getD hk']
    refine⟨by omega,by omega,?_⟩
    refine c166 (hl.ext hs1.ext) (by omega) (by omega) hsb.2 (by omega) (by omega) fun H15 he15=>⟨_,rfl,br_i (fun ht=>?_) fun ht=>?_⟩
    ·refine⟨_,rfl,by omega,by omega,?_⟩
     rw[show Int.toNat (k:Int)*1=k from Nat.mul_one k,add_none,Nat.zero_add]
     refine(hs1.step he15).slPut 0 rfl (by rw[kints_len,fillA_len (by omega)];omega) rfl fun H18 hs18=>?_
     rw[wrap_id (by omega) (by omega)]
     refine ih hk' H18 ?_
     rw[kints_set] at hs18
     rw[←fillA_set (by omega),hget,if_pos ht]
     exact hs18
    ·rw[wrap_id (by omega) (by omega)]
     refine ih hk' H15 ?_
     rw[←fillA_set (by omega),hget,if_neg (by rw[ht];exact Bool.false_ne_true),fillA_set0 (by omega)]
     exact hs1.step he15
   ·have:k=(w*h).toNat:=by omega
    subst this
    have hfa:=fillA_all (maskL w h (withinB l))
    rw[hML] at hfa
    rw[hfa] at hs1
    exact h1 hsh ⟨some ⟨b9,0,none⟩,(w*h).toNat,(w*h).toNat⟩ H1 hs1
  refine go 0 (Nat.zero_le _) H10 ?_
  rw[fillA_zero,hML]
  exact hs10
def maskF(w h:Int)(e:Ed)(f:LayF):Int×LayF:=
 if e.n<0∨e.n>2 then(32,f) else if e.n=2 then(0,{f with mask:=[]}) else if shapeB e.shape=false then(31,f) else
 (0,{f with mask:=maskL w h fun x y=>withinB e.shape x y != (e.n==1)})
theorem c74{b d:Nat}{e:Ed}{s:EdS}{K K0:Sl3}{ks:List T}{w h next:Int}(hs:St H0 H (resRoot b K ks++(.cell d (docA w h next K0) 46::σ)))(hc:cntKs (layKs ks)≤1000000000)(hed:rdEd H0 e s)(hsl:s.S.l≤1000000000)(hsz:sizedB w h=true)(hR:Chg (maskF w h e) H0 (.cell d (docA w h next K0) 46::σ) R b ks e.id):
 CallsH Tryz.prog 74 #[.agg (workL b d e s).toArray] H R:=by
 refine Tryz.s74 ?_
 unfold Tryz.S74
 refine hs.alc fun b2 H3 hs3=>⟨_,rfl,rowIn_whole (hs3.block 0 rfl),?_⟩
 refine tgt hs3 (by omega) (fun hl H6 hs6=>⟨_,_,rfl,?_⟩) fun fr u K' ks' a H6 hl ha hs6=>⟨_,_,rfl,?_⟩
 ·intro J hJ
  exact br_ne (fun _=>hR.none hl hs6.tail.app.2) fun h=>absurd h (by decide)
 intro J hJ
 have bad: ∀{v:Int} {H':Heap},maskF w h e fr.f=(v,fr.f)→v≠0→St H0 H' (.cell b2 (workL b d e s).toArray 130::(openR fr (u++[rootFr b]) K' ks'++(.cell d (docA w h next K0) 46::σ)))→R (.int .i64 v) H':=fun hg hv hs=>hR.err hl hg hv hs.tail.app.2
 refine br_ne (fun h=>absurd rfl h) fun _=>?_
 refine⟨_,hs6.get 0 rfl (j:=6) rfl,br_dec (fun c=>bad (v:=32) (by unfold maskF;rw[if_pos (.inl c)]) (by decide) hs6) fun c1=>?_⟩
 refine⟨_,hs6.get 0 rfl (j:=6) rfl,br_dec (fun c=>bad (v:=32) (by unfold maskF;rw[if_pos (.inr c)]) (by decide) hs6) fun c2=>?_⟩
 have c1: ¬e.n<0:=c1
 have c2: ¬e.n>2:=c2
 refine⟨_,hs6.get 0 rfl (j:=6) rfl,br_eq (fun hn2=>⟨a,rfl,?_⟩) fun hn2=>hJ _ ?_⟩
 ·have hF:maskF w h e fr.f=(0,{fr.f with mask:=[]}):=by unfold maskF;rw[if_neg (by omega),if_pos hn2]
  refine hs6.elPut 1 rfl (cellsKs_len fr.pre) (j:=8) (Nat.le_of_ble_eq_true rfl) rfl ha fun H14 hs14=>?_
  refine hR.done hl (P:=fr.P) (M:= .nil) (A:=fr.A) (K':=K') (ks':=ks') hF ?_
  refine(((hs14.nilSl 5 1).perm (τ:= .cell b2 (workL b d e s).toArray 130:: .sl fr.M.p fr.M.l fr.M.c 5 1 (kints .u8 fr.f.mask)::(openR ⟨fr.hdr,fr.pre,{fr.f with mask:=[]},fr.P,.nil,fr.A,fr.post⟩ (u++[rootFr b]) K' ks'++(.cell d (docA w h next K0) 46::σ))) (permC fun _ x=>?_)).drop 2)
  show List.count x (.sl none 0 0 5 1 []:: .cell b2 (workL b d e s).toArray 130::((.sl fr.hdr.p fr.hdr.l fr.hdr.c 118 19 (cellsKs fr.pre++cellsL {fr.f with mask:=[]} fr.P.v Sl3.nil.v fr.A.v K'.v++cellsKs fr.post):: .sl fr.P.p fr.P.l fr.P.c 3 1 (ints fr.f.p):: .sl fr.M.p fr.M.l fr.M.c 5 1 (kints .u8 fr.f.mask):: .sl fr.A.p fr.A.l fr.A.c 3 1 (ints fr.f.params)::
   .sl K'.p K'.l K'.c 118 19 (cellsKs ks')::(resKs ks'++(resKs fr.pre++(resKs fr.post++resUp (u++[rootFr b]) fr.hdr))))++(.cell d (docA w h next K0) 46::σ)))=
   List.count x (.cell b2 (workL b d e s).toArray 130:: .sl fr.M.p fr.M.l fr.M.c 5 1 (kints .u8 fr.f.mask)::((.sl fr.hdr.p fr.hdr.l fr.hdr.c 118 19 (cellsKs fr.pre++cellsL {fr.f with mask:=[]} fr.P.v Sl3.nil.v fr.A.v K'.v++cellsKs fr.post):: .sl fr.P.p fr.P.l fr.P.c 3 1 (ints fr.f.p):: .sl none 0 0 5 1 []:: .sl fr.A.p fr.A.l fr.A.c 3 1 (ints fr.f.params):: .sl K'.p K'.l K'.c 118 19 (cellsKs ks')::(resKs ks'++(resKs fr.pre++(resKs fr.post++resUp (u++[rootFr b]) fr.hdr))))++(.cell d (docA w h next K0) 46::σ)))
  simp only[List.count_append,List.count_cons]
  ac_rfl
 ·have hn2:e.n≠2:=hn2
  have hF1: ∀x,maskF w h e fr.f=x↔(if shapeB e.shape=false then(31,fr.f) else(0,{fr.f with mask:=maskL w h fun x y=>withinB e.shape x y != (e.n==1)}))=x:=fun x=>by
   unfold maskF;rw[if_neg (by omega),if_neg hn2]
  have hsd: ∀{H':Heap} {τ:List Rs},St H0 H' (.cell b2 (workL b d e s).toArray 130::(τ++(.cell d (docA w h next K0) 46::σ)))→St H0 H' (.cell d (docA w h next K0) 46:: .cell b2 (workL b d e s).toArray 130::(τ++σ)):=fun hs=>
   hs.perm (permC fun _ x=>by simp only[List.count_append,List.count_cons];ac_rfl)
  have hd6:=hsd hs6
  refine⟨_,_,_,hs6.get 0 rfl (j:=13) rfl,_,hs6.get 0 rfl (j:=1) rfl,_,rfl,_,hd6.get 0 rfl (j:=0) rfl,_,hs6.get 0 rfl (j:=1) rfl,_,rfl,_,hd6.get 0 rfl (j:=1) rfl,?_⟩
  refine c125 (hed.shape.ext hs6.ext) hsl hsz (fun hsh H19 he19=>⟨_,_,_,_,rfl,br_ne (fun _=>?_) fun h=>absurd h (by decide)⟩) fun hsh m H19 hm19=>⟨_,_,_,_,rfl,br_ne (fun h=>absurd rfl h) fun _=>?_⟩
  ·exact bad (v:=31) ((hF1 _).2 (if_pos hsh)) (by decide) (hs6.step he19)
  ·have hs19:=hs6.call hm19
   intro J2 hJ2
   have fin: ∀H2,St H0 H2 ([.sl m.p m.l m.c 5 1 (kints .u8 (maskL w h fun x y=>withinB e.shape x y != (e.n==1)))]++(.cell b2 (workL b d e s).toArray 130::(openR fr (u++[rootFr b]) K' ks'++(.cell d (docA w h next K0) 46::σ))))→J2 [] H2:=fun H2 hs2=>by
    refine hJ2 _ ⟨a,rfl,?_⟩
    refine hs2.elPut 2 rfl (cellsKs_len fr.pre) (j:=8) (Nat.le_of_ble_eq_true rfl) rfl ha fun H14 hs14=>?_
    refine hR.done hl (P:=fr.P) (M:=m) (A:=fr.A) (K':=K') (ks':=ks') ((hF1 _).2 (if_neg (by rw[hsh];simp))) ?_
    generalize hmk:(maskL w h fun x y=>withinB e.shape x y != (e.n==1))=mk at hs14 ⊢
    refine((hs14.perm (τ:= .cell b2 (workL b d e s).toArray 130:: .sl fr.M.p fr.M.l fr.M.c 5 1 (kints .u8 fr.f.mask)::(openR ⟨fr.hdr,fr.pre,{fr.f with mask:=mk},fr.P,m,fr.A,fr.post⟩ (u++[rootFr b]) K' ks'++(.cell d (docA w h next K0) 46::σ))) (permC fun _ x=>?_)).drop 2)
    show List.count x (.sl m.p m.l m.c 5 1 (kints .u8 mk):: .cell b2 (workL b d e s).toArray 130::((.sl fr.hdr.p fr.hdr.l fr.hdr.c 118 19 (cellsKs fr.pre++cellsL {fr.f with mask:=mk} fr.P.v m.v fr.A.v K'.v++cellsKs fr.post):: .sl fr.P.p fr.P.l fr.P.c 3 1 (ints fr.f.p):: .sl fr.M.p fr.M.l fr.M.c 5 1 (kints .u8 fr.f.mask):: .sl fr.A.p fr.A.l fr.A.c 3 1 (ints fr.f.params)::
     .sl K'.p K'.l K'.c 118 19 (cellsKs ks')::(resKs ks'++(resKs fr.pre++(resKs fr.post++resUp (u++[rootFr b]) fr.hdr))))++(.cell d (docA w h next K0) 46::σ)))=
     List.count x (.cell b2 (workL b d e s).toArray 130:: .sl fr.M.p fr.M.l fr.M.c 5 1 (kints .u8 fr.f.mask)::((.sl fr.hdr.p fr.hdr.l fr.hdr.c 118 19 (cellsKs fr.pre++cellsL {fr.f with mask:=mk} fr.P.v m.v fr.A.v K'.v++cellsKs fr.post):: .sl fr.P.p fr.P.l fr.P.c 3 1 (ints fr.f.p):: .sl m.p m.l m.c 5 1 (kints .u8 mk):: .sl fr.A.p fr.A.l fr.A.c 3 1 (ints fr.f.params):: .sl K'.p K'.l K'.c 118 19 (cellsKs ks')::(resKs ks'++(resKs fr.pre++(resKs fr.post++resUp (u++[rootFr b]) fr.hdr))))++(.cell d (docA w h next K0) 46::σ)))
    simp only[List.count_append,List.count_cons]
    ac_rfl
   refine⟨_,hs19.get 1 rfl (j:=6) rfl,br_eq (fun hn1=>?_) fun hn1=>?_⟩
   ·have hn1:e.n=1:=hn1
    intro X hX
    have hML:(maskL w h (withinB e.shape)).length=(w*h).toNat:=by simp[maskL]
    have hml:m.l=(w*h).toNat:=by have:=(hs19.fs 0 rfl).len;rw[kints_len,hML] at this;omega
    obtain⟨q1,q2,q3,q4,q5⟩:=of_decide_eq_true hsz
    have hpos:0≤w*h:=Int.mul_nonneg (by omega) (by omega)
    -- turned up to k
    have go: ∀k,k≤(w*h).toNat→ ∀H2 (L:List Int),L.length=(w*h).toNat→(∀i,i<(w*h).toNat→L.getD i 0=if i<k then 255-(maskL w h (withinB e.shape)).getD i 0 else(maskL w h (withinB e.shape)).getD i 0)→
     St H0 H2 ([.sl m.p m.l m.c 5 1 (kints .u8 L)]++(.cell b2 (workL b d e s).toArray 130::(openR fr (u++[rootFr b]) K' ks'++(.cell d (docA w h next K0) 46::σ))))→X [.int .i64 (k:Nat)] H2:=by
     refine upto fun k hk ih H2 L hL hLv hs2=>hX _ _ (br_dec (fun hlt=>?_) fun hge=>?_)
     ·have hk':k<(w*h).toNat:=by omega
      obtain⟨blk,hblk⟩:=hs2.slSome 0 rfl (j:=k) (by rw[kints_len];omega)
      have hget:L[k]?=some (L.getD k 0):=getD_some L 0 (by omega)
      have hv:=hLv k hk'
      rw[if_neg (by omega)] at hv
      have hmv:(maskL w h (withinB e.shape)).getD k 0=0∨(maskL w h (withinB e.shape)).getD k 0=255:=by
       unfold maskL;rw[tab_getD hk'];split<;>simp
      have hb2:St H0 H2 ((.sl (some ⟨blk,0,none⟩) m.l m.c 5 1 (kints .u8 L))::(.cell b2 (workL b d e s).toArray 130::(openR fr (u++[rootFr b]) K' ks'++(.cell d (docA w h next K0) 46::σ)))):=by rw[←hblk];exact hs2
      refine IS.rd (i:=(k:Int)) (hs2.is 0 rfl) (by omega) (by omega) (x:=L.getD k 0) hget ⟨⟨blk,0,none⟩,hblk,by omega,hlt,?_⟩
      rw[show Int.toNat (k:Int)*1=k from Nat.mul_one k,add_none,Nat.zero_add,wrap_u8 (by omega) (by omega)]
      refine hb2.slPut 0 rfl (by rw[kints_len];omega) rfl fun H3 hs3=>?_
      rw[wrap_id (by omega) (by omega)]
      rw[kints_set] at hs3
      refine ih hk' H3 (L.set k (255-L.getD k 0)) (by rw[List.length_set];exact hL) (fun i hi=>?_) (by rw[hblk];exact hs3)
      rw[List.getD_eq_getElem?_getD,List.getElem?_set]
      by_cases hik:k=i
      ·subst hik
       rw[if_pos rfl,if_pos (by omega),if_pos (by omega),hv];rfl
      ·rw[if_neg hik,←List.getD_eq_getElem?_getD,hLv i hi]
       by_cases h1:i<k
       ·rw[if_pos h1,if_pos (by omega)]
       ·rw[if_neg h1,if_neg (by omega)]
     ·have:k=(w*h).toNat:=by omega
      subst this
      refine fin H2 ?_
      have:L=maskL w h fun x y=>withinB e.shape x y != (e.n==1):=by
       apply List.ext_getElem?
       intro i
       by_cases hi:i<(w*h).toNat
       ·rw[getD_some L 0 (by omega),hLv i hi,if_pos hi]
        unfold maskL
        rw[tab_getD hi,tab_get hi,hn1]
        have: ∀t:Bool,some (255-(if t=true then(255:Int) else 0))=some (if (t != ((1:Int)==1))=true then 255 else 0):=by intro t;cases t<;>rfl
        exact this _
       ·rw[List.getElem?_eq_none (by omega),List.getElem?_eq_none (by simp[maskL];omega)]
      rw[←this]
      exact hs2
    refine go 0 (Nat.zero_le _) H19 _ hML (fun i hi=>by rw[if_neg (Nat.not_lt_zero _)]) hs19
   ·have hn1:e.n≠1:=hn1
    refine fin H19 ?_
    have:maskL w h (withinB e.shape)=maskL w h fun x y=>withinB e.shape x y != (e.n==1):=by
     congr 1
     funext x y
     rw[show(e.n==1)=false from by simpa using hn1]
     simp
    rw[←this]
    exact hs19
end Go.Proofs
namespace Go.Proofs
open Go.Sh
variable {H0 H:Heap} {σ:List Rs} {R:Value→Heap→Prop}
def mostM(i:Nat):Int:=if 4≤i then 68719476736 else 16777216
def inM(m:M6)(i:Nat):Bool:=decide (-(mostM i)≤m.l.getD i 0∧m.l.getD i 0≤mostM i)
def rightM(m:M6):Bool:=(List.range 6).all (inM m)
theorem rightM_iff(m:M6):rightM m=true↔((-16777216≤m.a∧m.a≤16777216)∧(-16777216≤m.b∧m.b≤16777216)∧(-16777216≤m.c∧m.c≤16777216)∧(-16777216≤m.d∧m.d≤16777216)∧(-68719476736≤m.e∧m.e≤68719476736)∧(-68719476736≤m.f∧m.f≤68719476736)):=by
 have:rightM m=(inM m 0&&(inM m 1&&(inM m 2&&(inM m 3&&(inM m 4&&(inM m 5&&true)))))):=rfl
 rw[this]
 simp only[Bool.and_eq_true,inM,decide_eq_true_eq,and_true]
 exact Iff.rfl
def roundM(n m:Int):Int:=if m<0 then(2* -n+ -m)/(2* -m) else(2*n+m)/(2*m)
def nearM(n:Int):Int:=(n+32768)/65536
def backR(m:M6):M6:=⟨roundM (m.d*4294967296) (m.a*m.d-m.b*m.c),roundM (-m.b*4294967296) (m.a*m.d-m.b*m.c),roundM (-m.c*4294967296) (m.a*m.d-m.b*m.c),roundM (m.a*4294967296) (m.a*m.d-m.b*m.c),0,0⟩
def backS(m:M6):M6:={backR m with e:=nearM (-((backR m).a*m.e+(backR m).b*m.f)),f:=nearM (-((backR m).c*m.e+(backR m).d*m.f))}
def zeroM:M6:=⟨0,0,0,0,0,0⟩
def backM(m:M6):Int×M6:=
 if rightM m=false then(31,zeroM) else if m.a*m.d-m.b*m.c=0 then(33,zeroM) else if rightM (backR m)=false then(33,zeroM) else if rightM (backS m)=false then(33,zeroM) else(0,backS m)
theorem floor_t{n m:Int}(hm:0<m):n/m=if n.tmod m≠0∧n<0 then n.tdiv m-1 else n.tdiv m:=by
 rw[Int.tdiv_eq_ediv]
 have h1:n.tmod m=0↔m∣n:=⟨Int.dvd_of_tmod_eq_zero,Int.tmod_eq_zero_of_dvd⟩
 by_cases h:0≤n∨m∣n
 ·rw[if_pos h,if_neg (fun hh=>by rcases h with h|h;omega;exact hh.1 (h1.2 h))];omega
 ·have h2: ¬0≤n:=fun hh=>h (.inl hh)
  have h3: ¬m∣n:=fun hh=>h (.inr hh)
  rw[if_neg h,if_pos ⟨fun hh=>h3 (h1.1 hh),by omega⟩,Int.sign_eq_one_of_pos hm];omega
theorem tdiv_bd{n m B:Int}(hm:0<m)(hn: -B≤n∧n≤B): -B≤n.tdiv m∧n.tdiv m≤B:=by
 have h:=Int.natAbs_tdiv n m
 have h2:n.natAbs/m.natAbs≤n.natAbs:=Nat.div_le_self _ _
 have h3:(n.tdiv m).natAbs=n.natAbs/m.natAbs:=h
 omega
theorem c210{n m:Int}(hm:0<m)(hn: -4611686018427387904≤n∧n≤4611686018427387904)(hR:R (.int .i64 (n/m)) H):CallsH Tryz.prog 210 #[.int .i64 n,.int .i64 m] H R:=by
 refine Tryz.s210 ⟨by omega,?_⟩
 intro J hJ
 have hb:=tdiv_bd hm hn
 rw[wrap_id (n:=n.tdiv m) (by omega) (by omega),wrap_id (n:=n.tdiv m-1) (by omega) (by omega)]
 rw[floor_t hm] at hR
 refine⟨by omega,br_ne (fun h0=>?_) fun h0=>?_⟩
 ·rw[show decide (m<0)=false from decide_eq_false (by omega)]
  by_cases hn0:n<0
  ·rw[if_pos ⟨h0,hn0⟩] at hR
   exact br_t (by rw[decide_eq_true hn0];rfl) (hJ _ _ hR)
  ·rw[if_neg fun hh=>hn0 hh.2] at hR
   exact br_f (by rw[decide_eq_false hn0];rfl) (hJ _ _ hR)
 ·rw[if_neg fun hh=>hh.1 h0] at hR
  exact hJ _ _ hR
theorem c168{n m:Int}(hm:m≠0)(hm2: -2251799813685248≤m∧m≤2251799813685248)(hn: -144115188075855872≤n∧n≤144115188075855872)(hR:R (.int .i64 (roundM n m)) H):CallsH Tryz.prog 168 #[.int .i64 n,.int .i64 m] H R:=by
 refine Tryz.s168 ?_
 unfold Tryz.S168
 intro J hJ
 refine br_dec (fun h=>hJ _ _ _ ?_) fun h=>hJ _ _ _ ?_
 ·rw[wrap_id (n:=0-n) (by omega) (by omega),wrap_id (n:=0-m) (by omega) (by omega),wrap_id (n:=2*(0-n)) (by omega) (by omega),wrap_id (n:=2*(0-n)+(0-m)) (by omega) (by omega),wrap_id (n:=2*(0-m)) (by omega) (by omega)]
  refine c210 (by omega) (by omega) ⟨_,rfl,?_⟩
  unfold roundM at hR
  rw[if_pos h] at hR
  rw[Int.zero_sub,Int.zero_sub];exact hR
 ·rw[wrap_id (n:=2*n) (by omega) (by omega),wrap_id (n:=2*n+m) (by omega) (by omega),wrap_id (n:=2*m) (by omega) (by omega)]
  refine c210 (by omega) (by omega) ⟨_,rfl,?_⟩
  unfold roundM at hR
  rw[if_neg h] at hR
  exact hR
theorem c169{n:Int}(hn: -4611686018427387904≤n∧n≤4611686018427387904)(hR:R (.int .i64 (nearM n)) H):CallsH Tryz.prog 169 #[.int .i64 n] H R:=by
 refine Tryz.s169 ⟨by decide,?_⟩
 rw[wrap_id (by omega) (by omega),shr16']
 exact hR
theorem c167{m:M6}(hR: ∀H',Ext H H'→R (.bool (rightM m)) H'):CallsH Tryz.prog 167 #[.agg (ints m.l).toArray] H R:=by
 refine Tryz.s167 ?_
 unfold Tryz.S167
 refine(St.nil H).alcE fun b2 H3 he3 hs3=>⟨_,rfl,rowIn_whole (hs3.block 0 rfl),?_⟩
 intro X hX
 have go: ∀k,k≤6→(List.range k).all (inM m)=true→X [.int .i64 (k:Nat)] H3:=by
  refine upto fun k hk ih hall=>hX _ _ (br_dec (fun hlt=>?_) fun hge=>?_)
  ·have hk':k<6:=by omega
   have hget:(ints m.l).toArray[Int.toNat (k:Int)*1]?=some (.int .i64 (m.l.getD k 0)):=by
    rw[show Int.toNat (k:Int)*1=k from Nat.mul_one k,List.getElem?_toArray]
    exact ints_get (getD_some m.l 0 (show k<6 from hk'))
   refine⟨by omega,by omega,_,hget,?_⟩
   intro J hJ
   have main: ∀most,most=mostM k→J [.int .i64 most] H3:=fun most hmo=>by
    have hmr:0≤most∧most≤68719476736:=by rw[hmo];unfold mostM;split<;>omega
    refine hJ _ _ ?_
    rw[wrap_id (n:=0-most) (by omega) (by omega),Int.zero_sub]
    have bad: ¬(inM m k=true)→R (.bool false) H3:=fun hb=>by
     have:=hR H3 he3
     rw[show rightM m=false from by
      rw[Bool.eq_false_iff];intro hh
      exact hb (List.all_eq_true.1 hh k (List.mem_range.2 hk'))] at this
     exact this
    refine br_dec (fun h1=>bad fun hh=>?_) fun h1=>br_dec (fun h2=>bad fun hh=>?_) fun h2=>?_
    ·have:=of_decide_eq_true hh;rw[←hmo] at this;omega
    ·have:=of_decide_eq_true hh;rw[←hmo] at this;omega
    ·rw[wrap_id (by omega) (by omega)]
     refine ih hk' ?_
     rw[List.range_succ,List.all_append,hall,Bool.true_and,List.all_cons,List.all_nil,Bool.and_true]
     exact decide_eq_true (by rw[←hmo];omega)
   exact br_dec (fun h=>main _ (by unfold mostM;rw[if_pos (by omega)])) fun h=>main _ (by unfold mostM;rw[if_neg (by omega)])
  ·have:k=6:=by omega
   subst this
   have:=hR H3 he3
   rw[show rightM m=true from hall] at this
   exact this
 exact go 0 (by omega) rfl
theorem shl32{x:Int}(h: -16777216≤x∧x≤16777216):shlI .i64 x (32:Int)=x*4294967296:=by
 unfold shlI
 rw[show min (32:Int).toNat (IntKind.bits .i64)=32 from rfl,show(2:Int)^32=4294967296 from rfl]
 exact wrap_id (by omega) (by omega)
theorem c126{m:M6}(hR: ∀H',Ext H H'→R (.tuple #[.agg (ints (backM m).2.l).toArray,.int .i64 (backM m).1]) H'):CallsH Tryz.prog 126 #[.agg (ints m.l).toArray] H R:=by
 refine Tryz.s126 ?_
 unfold Tryz.S126
 refine(St.nil H).alc fun b2 H3 hs3=>hs3.alc fun b4 H5 hs5=>⟨_,rfl,rowIn_whole (hs5.block 1 rfl),?_⟩
 refine c167 fun H8 he8=>⟨_,rfl,?_⟩
 have hs8:=hs5.step he8
 have zero: ∀{v:Int} {H1:Heap},backM m=(v,zeroM)→ ∀(i:Nat) {τ:List Rs} {cs:Array Value},τ[i]?=some (.cell b4 cs 38)→cs.size=6→St H H1 τ→
  (#[Value.int .i64 0,Value.int .i64 0,Value.int .i64 0,Value.int .i64 0,Value.int .i64 0,Value.int .i64 0].size=6∧stAt H1 ⟨b4,0,none⟩ (Array.toList #[Value.int .i64 0,Value.int .i64 0,Value.int .i64 0,Value.int .i64 0,Value.int .i64 0,Value.int .i64 0]) fun H_10=> ∃res11:Array Value,res11.size=6∧rowIn H_10 ⟨b4,0,none⟩ res11∧R (Value.tuple #[Value.agg res11,Value.int .i64 v]) H_10):=fun{v H1} hb i {τ cs} hi hcs hs=>
  ⟨rfl,hs.putAll i hi (by rw[hcs];rfl) (by simp[Value.oneCell']) fun H9 hs9=>⟨(ints zeroM.l).toArray,rfl,rowIn_whole (hs9.block i (by rw[List.getElem?_set_self (List.getElem?_eq_some_iff.1 hi).1];rfl)),by
   have:=hR H9 hs9.ext
   rw[hb] at this;exact this⟩⟩
 refine br_not (fun hr=>zero (by unfold backM;rw[if_pos hr]) 0 rfl rfl hs8) fun hr=>?_
 obtain⟨ba,bb,bc,bd,be,bf⟩:=(rightM_iff m).1 hr
 have hB1:backM m=(if m.a*m.d-m.b*m.c=0 then(33,zeroM) else if rightM (backR m)=false then(33,zeroM) else if rightM (backS m)=false then(33,zeroM) else(0,backS m)):=by
  unfold backM;rw[if_neg (by rw[hr];simp)]
 have p1:=mul_bd ba bd
 have p2:=mul_bd bb bc
 refine⟨by decide,by decide,m.a,hs8.rdA 1 (j:=0) rfl rfl,by decide,by decide,m.d,hs8.rdA 1 (j:=3) rfl rfl,by decide,by decide,m.b,hs8.rdA 1 (j:=1) rfl rfl,by decide,by decide,m.c,hs8.rdA 1 (j:=2) rfl rfl,?_⟩
 rw[wrap_id (n:=m.a*m.d) (by omega) (by omega),wrap_id (n:=m.b*m.c) (by omega) (by omega),wrap_id (n:=m.a*m.d-m.b*m.c) (by omega) (by omega)]
 refine br_eq (fun hd=>zero (by rw[hB1,if_pos hd]) 0 rfl rfl hs8) fun hd=>?_
 rw[if_neg hd] at hB1
 intro J hJ
 have main: ∀ob H20 (τ:List Rs),St H H20 (.cell ob (ints (backR m).l).toArray 38:: .cell b4 (ints zeroM.l).toArray 38:: .cell b2 (ints m.l).toArray 38::[])→J [.pointer (some ⟨ob,0,none⟩)] H20:=fun ob H20 τ hs20=>by
  refine hJ _ _ ⟨_,rfl,rowIn_whole (hs20.block 0 rfl),?_⟩
  refine c167 fun H23 he23=>⟨_,rfl,?_⟩
  have hs23:=hs20.step he23
  refine br_not (fun hr1=>zero (by rw[hB1,if_pos hr1]) 1 rfl rfl hs23) fun hr1=>?_
  rw[if_neg (by rw[hr1];simp)] at hB1
  obtain⟨ra,rb,rc,rd,_,_⟩:=(rightM_iff (backR m)).1 hr1
  have q1:=mul_bd ra be
  have q2:=mul_bd rb bf
  have q3:=mul_bd rc be
  have q4:=mul_bd rd bf
  refine⟨by decide,by decide,(backR m).a,hs23.rdA 0 (j:=0) rfl rfl,by decide,by decide,m.e,hs23.rdA 2 (j:=4) rfl rfl,by decide,by decide,(backR m).b,hs23.rdA 0 (j:=1) rfl rfl,by decide,by decide,m.f,hs23.rdA 2 (j:=5) rfl rfl,?_⟩
  rw[wrap_id (n:=(backR m).a*m.e) (by omega) (by omega),wrap_id (n:=(backR m).b*m.f) (by omega) (by omega),wrap_id (n:=(backR m).a*m.e+(backR m).b*m.f) (by omega) (by omega),wrap_id (n:=0-((backR m).a*m.e+(backR m).b*m.f)) (by omega) (by omega),Int.zero_sub]
  refine c169 (by omega) ⟨_,rfl,by decide,by decide,?_⟩
  refine hs23.putA 0 (j:=4) rfl (Nat.le_of_ble_eq_true rfl) fun H34 hs34=>⟨by decide,by decide,(backR m).c,hs34.rdA 0 (j:=2) rfl rfl,by decide,by decide,m.e,hs34.rdA 2 (j:=4) rfl rfl,by decide,by decide,(backR m).d,hs34.rdA 0 (j:=3) rfl rfl,by decide,by decide,m.f,hs34.rdA 2 (j:=5) rfl rfl,?_⟩
  rw[wrap_id (n:=(backR m).c*m.e) (by omega) (by omega),wrap_id (n:=(backR m).d*m.f) (by omega) (by omega),wrap_id (n:=(backR m).c*m.e+(backR m).d*m.f) (by omega) (by omega),wrap_id (n:=0-((backR m).c*m.e+(backR m).d*m.f)) (by omega) (by omega),Int.zero_sub]
  refine c169 (by omega) ⟨_,rfl,by decide,by decide,?_⟩
  refine hs34.putA 0 (j:=5) rfl (Nat.le_of_ble_eq_true rfl) fun H42 hs42=>?_
  have hs42:St H H42 (.cell ob (ints (backS m).l).toArray 38:: .cell b4 (ints zeroM.l).toArray 38:: .cell b2 (ints m.l).toArray 38::[]):=hs42
  refine⟨_,rfl,rowIn_whole (hs42.block 0 rfl),?_⟩
  refine c167 fun H45 he45=>⟨_,rfl,?_⟩
  have hs45:=hs42.step he45
  refine br_not (fun hr2=>zero (by rw[hB1,if_pos hr2]) 1 rfl rfl hs45) fun hr2=>?_
  rw[if_neg (by rw[hr2];simp)] at hB1
  refine⟨_,?_,rowIn_whole (hs45.block 0 rfl),?_,?_⟩
  ·rfl
  ·rfl
  refine hs45.putAllA 1 (l:=(backS m).l) rfl rfl fun H50 hs50=>⟨_,rfl,rowIn_whole (hs50.block 1 rfl),?_⟩
  have:=hR H50 hs50.ext
  rw[hB1] at this
  exact this
 refine⟨by decide,by decide,m.d,hs8.rdA 1 (j:=3) rfl rfl,by decide,by decide,by decide,m.b,hs8.rdA 1 (j:=1) rfl rfl,by decide,by decide,by decide,m.c,hs8.rdA 1 (j:=2) rfl rfl,by decide,by decide,by decide,m.a,hs8.rdA 1 (j:=0) rfl rfl,by decide,?_⟩
 rw[wrap_id (n:=0-m.b) (by omega) (by omega),wrap_id (n:=0-m.c) (by omega) (by omega),Int.zero_sub,Int.zero_sub]
 rw[shl32 bd,shl32 (x:= -m.b) (by omega),shl32 (x:= -m.c) (by omega),shl32 ba]
 have put: ∀{ob:Nat} {H1:Heap},St H H1 (.cell ob (ints zeroM.l).toArray 38:: .cell b4 (ints zeroM.l).toArray 38:: .cell b2 (ints m.l).toArray 38::[])→
  stAt H1 ⟨ob,0,none⟩ (Array.toList (ints (backR m).l).toArray) fun H_70=>J [Value.pointer (some ⟨ob,0,none⟩)] H_70:=fun{ob H1} hs=>hs.putAllA 0 (l:=(backR m).l) rfl rfl fun H2 hs2=>main ob H2 [] hs2
 have k1: -144115188075855872≤m.d*4294967296∧m.d*4294967296≤144115188075855872:=by omega
 have k2: -144115188075855872≤ -m.b*4294967296∧ -m.b*4294967296≤144115188075855872:=by omega
 have k3: -144115188075855872≤ -m.c*4294967296∧ -m.c*4294967296≤144115188075855872:=by omega
 have k4: -144115188075855872≤m.a*4294967296∧m.a*4294967296≤144115188075855872:=by omega
 have hdb: -2251799813685248≤m.a*m.d-m.b*m.c∧m.a*m.d-m.b*m.c≤2251799813685248:=by omega
 have rf: ∀{H1:Heap},Ext H1 H1:=fun{H1}=>Ext.refl H1
 refine⟨c168 hd hdb k1 ⟨_,rfl,.inl rf,⟨c168 hd hdb k2 ⟨_,rfl,.inl rf,⟨c168 hd hdb k3 ⟨_,rfl,.inl rf,⟨c168 hd hdb k4 ⟨_,rfl,hs8.alc fun b68 H69 hs69=>⟨rfl,put hs69⟩⟩,?_⟩⟩,?_⟩⟩,?_⟩⟩,?_⟩
 ·exact hs8.alcE fun b71 H72 he72 hs72=>⟨.inl he72,c168 hd hdb k4 ⟨_,rfl,rfl,put hs72⟩⟩
 ·exact hs8.alcE fun b71 H72 he72 hs72=>⟨.inl he72,c168 hd hdb k3 ⟨_,rfl,.inl rf,c168 hd hdb k4 ⟨_,rfl,rfl,put hs72⟩⟩⟩
 ·exact hs8.alcE fun b71 H72 he72 hs72=>⟨.inl he72,c168 hd hdb k2 ⟨_,rfl,.inl rf,c168 hd hdb k3 ⟨_,rfl,.inl rf,c168 hd hdb k4 ⟨_,rfl,rfl,put hs72⟩⟩⟩⟩
 ·exact hs8.alcE fun b71 H72 he72 hs72=>⟨.inl he72,c168 hd hdb k1 ⟨_,rfl,.inl rf,c168 hd hdb k2 ⟨_,rfl,.inl rf,c168 hd hdb k3 ⟨_,rfl,.inl rf,c168 hd hdb k4 ⟨_,rfl,rfl,put hs72⟩⟩⟩⟩⟩
end Go.Proofs
namespace Go.Proofs
open Go.Sh
variable {H0 H:Heap} {σ:List Rs} {R:Value→Heap→Prop}
def inP(ps:List Int)(i:Nat):Bool:=decide (0≤ps.getD i 0∧ps.getD i 0≤255)
def incP(ps:List Int)(i:Nat):Bool:=decide (i%2=1∨i=0∨ps.getD (i-2) 0<ps.getD i 0)
def kindP(kind:Int)(ps:List Int):Bool:=
 if kind=0 then decide (ps.length=2∧ps.getD 0 0<ps.getD 1 0) else if kind=1 then decide (2≤ps.length∧ps.length≤32∧ps.length%2=0) else if kind=2 then decide (ps.length=0) else if kind=3 then decide (ps.length=1) else false
def tabB(kind:Int)(ps:List Int):Bool:=(List.range ps.length).all (inP ps)&&((kind != 1||(List.range ps.length).all (incP ps))&&kindP kind ps)
theorem rdG{p:Option Addr}{n:Nat}{ps:List Int}(h:IS H p n (ints ps)){i:Int}(h0:0≤i)(h1:i<n){K:Int→Prop}(hK:K (ps.getD i.toNat 0)):
 ∃a:Addr,p=some a∧0≤i∧i<((n:Nat):Int)∧ ∃v:Int,Sh.cell H (Addr.add a (Int.toNat i*1))=some (.int .i64 v)∧K v:=
 IS.rd h h0 h1 (getD_some ps 0 (by have:=h.length;omega)) hK
theorem all_more{f:Nat→Bool}{k:Nat}(h:(List.range k).all f=true)(hf:f k=true):(List.range (k+1)).all f=true:=by
 rw[List.range_succ,List.all_append,h,Bool.true_and,List.all_cons,List.all_nil,Bool.and_true];exact hf
theorem all_at{f:Nat→Bool}{n k:Nat}(h:(List.range n).all f=true)(hk:k<n):f k=true:=List.all_eq_true.1 h k (List.mem_range.2 hk)
theorem tabB_of{kind:Int}{ps:List Int}(h1:(List.range ps.length).all (inP ps)=true)(h2:kind=1→(List.range ps.length).all (incP ps)=true):tabB kind ps=kindP kind ps:=by
 unfold tabB
 rw[h1,Bool.true_and]
 by_cases hk:kind=1
 ·rw[h2 hk,Bool.or_true,Bool.true_and]
 ·rw[show(kind != 1)=true from by simpa using hk,Bool.true_or,Bool.true_and]
theorem tabB_in{kind:Int}{ps:List Int}{k:Nat}(hk:k<ps.length)(h:inP ps k=false):tabB kind ps=false:=by
 unfold tabB
 rw[show(List.range ps.length).all (inP ps)=false from by
  rw[Bool.eq_false_iff];intro hh;rw[all_at hh hk] at h;cases h]
 rfl
theorem tabB_inc{ps:List Int}{k:Nat}(hk:k<ps.length)(h:incP ps k=false):tabB 1 ps=false:=by
 unfold tabB
 rw[show(List.range ps.length).all (incP ps)=false from by
  rw[Bool.eq_false_iff];intro hh;rw[all_at hh hk] at h;cases h]
 simp
theorem c170{kind:Int}{p:Option Addr}{n c:Nat}{ps:List Int}(h:IS H p n (ints ps))(hn:n≤1000000000000)(hR:R (.bool (tabB kind ps)) H):CallsH Tryz.prog 170 #[.int .i64 kind,.slice p n c] H R:=by
 refine Tryz.s170 ?_
 unfold Tryz.S170
 have hlen:=h.length
 intro X hX
 have go: ∀k,k≤n→(List.range k).all (inP ps)=true→(kind=1→(List.range k).all (incP ps)=true)→X [.int .i64 (k:Nat)] H:=by
  refine upto fun k hk ih h1 h2=>hX _ _ (br_dec (fun hlt=>?_) fun hge=>?_)
  ·have hk':k<n:=by omega
   intro J hJ
   have bad:tabB kind ps=false→R (.bool false) H:=fun hb=>by rw[hb] at hR;exact hR
   have go2:inP ps k=true→(kind=1→incP ps k=true)→J [] H:=fun g1 g2=>by
    refine hJ _ ?_
    rw[wrap_id (by omega) (by omega)]
    exact ih hk' (all_more h1 g1) fun hk1=>all_more (h2 hk1) (g2 hk1)
   refine rdG (i:=(k:Int)) h (by omega) hlt (br_dec (fun h3=>bad (tabB_in (k:=k) (by omega) ?_)) fun h3=>br_dec (fun h4=>bad (tabB_in (k:=k) (by omega) ?_)) fun h4=>?_)
   ·exact decide_eq_false fun hh=>by have:=hh.1;rw[Int.toNat_natCast] at h3;omega
   ·exact decide_eq_false fun hh=>by have:=hh.2;rw[Int.toNat_natCast] at h4;omega
   rw[Int.toNat_natCast] at h3 h4 ⊢
   have g1:inP ps k=true:=decide_eq_true ⟨by omega,by omega⟩
   refine br_eq (fun hk1=>⟨by decide,?_⟩) fun hk1=>go2 g1 fun hh=>absurd hh hk1
   rw[Int.tmod_eq_emod_of_nonneg (by omega)]
   refine br_eq (fun he=>br_dec (fun hp=>?_) fun hp=>go2 g1 fun _=>decide_eq_true (.inr (.inl (by omega)))) fun he=>go2 g1 fun _=>decide_eq_true (.inl (by omega))
   have hk2:2≤k:=by omega
   rw[wrap_id (n:=(k:Int)-2) (by omega) (by omega)]
   refine rdG (i:=(k:Int)-2) h (by omega) (by omega) ?_
   rw[show Int.toNat ((k:Int)-2)=k-2 from by omega]
   refine br_dec (fun hle=>bad ?_) fun hle=>go2 g1 fun _=>decide_eq_true (.inr (.inr (by omega)))
   rw[hk1]
   exact tabB_inc (k:=k) (by omega) (decide_eq_false fun hh=>by rcases hh with hh|hh|hh<;>omega)
  ·have hkn:k=n:=by omega
   subst hkn
   rw[←hlen] at h1 h2
   rw[tabB_of h1 h2] at hR
   unfold kindP at hR
   refine br_eq (fun k0=>?_) fun k0=>br_eq (fun k1=>?_) fun k1=>br_eq (fun k2=>?_) fun k2=>br_eq (fun k3=>?_) fun k3=>?_
   ·rw[if_pos k0] at hR
    refine br_eq (fun hn2=>?_) fun hn2=>?_
    ·refine rdG (i:=0) h (by omega) (by omega) (rdG (i:=1) h (by omega) (by omega) ?_)
     rw[show decide (ps.length=2∧ps.getD 0 0<ps.getD 1 0)=decide (ps.getD 0 0<ps.getD 1 0) from decide_eq_decide.2 ⟨fun hh=>hh.2,fun hh=>⟨by omega,hh⟩⟩] at hR
     exact hR
    ·rw[decide_eq_false (fun hh=>hn2 (by omega))] at hR
     exact hR
   ·rw[if_neg k0,if_pos k1] at hR
    refine br_dec (fun g1=>br_dec (fun g2=>⟨by decide,?_⟩) fun g2=>?_) fun g1=>?_
    ·rw[Int.tmod_eq_emod_of_nonneg (by omega)]
     have:decide (2≤ps.length∧ps.length≤32∧ps.length%2=0)=((k:Int)%2==0):=by
      rw[Bool.eq_iff_iff,decide_eq_true_iff,beq_iff_eq];omega
     rw[this] at hR
     exact hR
    ·rw[decide_eq_false (fun hh=>g2 (by omega))] at hR
     exact hR
    ·rw[decide_eq_false (fun hh=>g1 (by omega))] at hR
     exact hR
   ·rw[if_neg k0,if_neg k1,if_pos k2] at hR
    have:decide (ps.length=0)=(((k:Nat):Int)==0):=by rw[Bool.eq_iff_iff,decide_eq_true_iff,beq_iff_eq];omega
    rw[this] at hR;exact hR
   ·rw[if_neg k0,if_neg k1,if_neg k2,if_pos k3] at hR
    have:decide (ps.length=1)=(((k:Nat):Int)==1):=by rw[Bool.eq_iff_iff,decide_eq_true_iff,beq_iff_eq];omega
    rw[this] at hR;exact hR
   ·rw[if_neg k0,if_neg k1,if_neg k2,if_neg k3] at hR
    exact hR
 exact go 0 (Nat.zero_le _) rfl fun _=>rfl
structure CrvOk(ps:List Int):Prop where
 len:2≤ps.length∧ps.length≤32∧ps.length%2=0
 rng: ∀i,0≤ps.getD i 0∧ps.getD i 0≤255
 inc: ∀i,2≤i→i<ps.length→i%2=0→ps.getD (i-2) 0<ps.getD i 0
theorem tabB_rng{kind:Int}{ps:List Int}(h:tabB kind ps=true)(i:Nat):0≤ps.getD i 0∧ps.getD i 0≤255:=by
 unfold tabB at h
 rw[Bool.and_eq_true] at h
 by_cases hi:i<ps.length
 ·exact of_decide_eq_true (all_at h.1 hi)
 ·rw[List.getD_eq_getElem?_getD,List.getElem?_eq_none (by omega)];decide
theorem tabB_kind{kind:Int}{ps:List Int}(h:tabB kind ps=true):kindP kind ps=true:=by
 unfold tabB at h
 rw[Bool.and_eq_true,Bool.and_eq_true] at h
 exact h.2.2
theorem tabB_crv{ps:List Int}(h:tabB 1 ps=true):CrvOk ps:=by
 have hk:=tabB_kind h
 have hr:=tabB_rng h
 refine⟨of_decide_eq_true hk,hr,fun i hi hl he=>?_⟩
 unfold tabB at h
 rw[Bool.and_eq_true,Bool.and_eq_true,Bool.or_eq_true] at h
 have h2:(List.range ps.length).all (incP ps)=true:=by
  rcases h.2.1 with h|h
  ·simp at h
  ·exact h
 rcases of_decide_eq_true (all_at h2 hl) with h3|h3|h3
 ·omega
 ·omega
 ·exact h3
theorem repsA256:(List.toArray (reps (Int.toNat (256:Int)) (Array.toList #[Value.int .i64 0])))=(ints (List.replicate 256 0)).toArray:=repsA 256
theorem c171{p:Option Addr}{n c:Nat}{ps:List Int}(h:IS H p n (ints ps))(hok:CrvOk ps)(hR: ∀b H',Ext H H'→R (.slice (some ⟨b,0,none⟩) 256 256) H'):CallsH Tryz.prog 171 #[.slice p n c] H R:=by
 refine Tryz.s171 ?_
 unfold Tryz.S171
 have hlen:=h.length
 obtain⟨l1,l2,l3⟩:=hok.len
 refine⟨by decide,by decide,by decide,by decide,?_⟩
 rw[repsA256,wrap_id (n:=(n:Int)-2) (by omega) (by omega),wrap_id (n:=(n:Int)-1) (by omega) (by omega)]
 refine(St.nil H).alc fun b2 H3 hs3=>?_
 intro X hX
 have go: ∀k,k≤256→ ∀H1 (L:List Int),L.length=256→St H H1 [.cell b2 (ints L).toArray 3]→X [.int .i64 (k:Nat)] H1:=by
  refine upto fun k hk ih H1 L hL hs1=>hX _ _ (br_dec (fun hlt=>?_) fun hge=>?_)
  ·have hk':k<256:=by have:(k:Int)<256:=hlt;omega
   have h1:=h.ext hs1.ext
   have put: ∀(v:Int),∃a11:Addr,(some ⟨b2,0,none⟩)=some a11∧0≤(k:Int)∧(k:Int)<(((Int.toNat (256:Int)):Nat):Int)∧stAt H1 (Addr.add a11 (Int.toNat (k:Int)*1)) [Value.int .i64 v] fun H_12=>X [Value.int .i64 (IntKind.wrap .i64 ((k:Int)+(1:Int)))] H_12:=fun v=>by
    refine⟨_,rfl,by omega,hlt,?_⟩
    rw[show Int.toNat (k:Int)*1=k from Nat.mul_one k,add_none,Nat.zero_add,wrap_id (by omega) (by omega)]
    exact hs1.putA 0 rfl (by omega) fun H2 hs2=>ih hk' H2 (L.set k v) (by rw[List.length_set];exact hL) hs2
   refine rdG (i:=0) h1 (by omega) (by omega) (br_dec (fun _=>rdG (i:=1) h1 (by omega) (by omega) (put _)) fun hv0=>?_)
   refine rdG (i:=(n:Int)-2) h1 (by omega) (by omega) (br_dec (fun _=>rdG (i:=(n:Int)-1) h1 (by omega) (by omega) (put _)) fun hv1=>?_)
   rw[show Int.toNat ((n:Int)-2)=n-2 from by omega] at hv1
   have hv0: ¬(k:Int)≤ps.getD 0 0:=hv0
   intro X2 hX2
   have go2: ∀j,j≤16→2*j+2≤n→ps.getD (2*j) 0≤(k:Int)→X2 [.int .i64 ((2*j:Nat):Int)] H1:=by
    refine upto fun j hj ih2 hjn hpj=>hX2 _ _ ?_
    have hne:2*j+2≠n:=fun hh=>by
     have:2*j=n-2:=by omega
     rw[this] at hpj;omega
    have hj4:2*j+4≤n:=by omega
    rw[wrap_id (n:=((2*j:Nat):Int)+2) (by omega) (by omega),wrap_id (n:=((2*j:Nat):Int)+1) (by omega) (by omega),wrap_id (n:=((2*j:Nat):Int)+3) (by omega) (by omega)]
    refine rdG (i:=((2*j:Nat):Int)+2) h1 (by omega) (by omega) ?_
    rw[show Int.toNat (((2*j:Nat):Int)+2)=2*j+2 from by omega]
    refine br_dec (fun hle=>?_) fun hgt=>?_
    ·have:=ih2 (by omega) (by omega) (by rw[show 2*(j+1)=2*j+2 from by omega];exact hle)
     rw[show((2*(j+1):Nat):Int)=((2*j:Nat):Int)+2 from by omega] at this
     exact this
    ·refine rdG (i:=((2*j:Nat):Int)+1) h1 (by omega) (by omega) (rdG (i:=((2*j:Nat):Int)+3) h1 (by omega) (by omega) (rdG (i:=((2*j:Nat):Int)+1) h1 (by omega) (by omega) (rdG (i:=((2*j:Nat):Int)) h1 (by omega) (by omega) (rdG (i:=((2*j:Nat):Int)+2) h1 (by omega) (by omega) (rdG (i:=((2*j:Nat):Int)) h1 (by omega) (by omega) ⟨?_,put _⟩)))))
     have hi:=hok.inc (2*j+2) (by omega) (by omega) (by omega)
     rw[show 2*j+2-2=2*j from by omega] at hi
     rw[show Int.toNat (((2*j:Nat):Int)+2)=2*j+2 from by omega,Int.toNat_natCast]
     have r1:=hok.rng (2*j+2)
     have r2:=hok.rng (2*j)
     rw[wrap_id (by omega) (by omega)]
     omega
   exact go2 0 (by omega) (by omega) (by rw[Nat.mul_zero];omega)
  ·have hk6: ¬(k:Int)<256:=hge
   have:k=256:=by omega
   subst this
   exact hR b2 H1 hs1.ext
 exact go 0 (by omega) H3 _ (by simp) hs3
theorem c127{kind:Int}{p:Option Addr}{n c:Nat}{ps:List Int}(h:IS H p n (ints ps))(hn:n≤1000000000000)
 (h0:tabB kind ps=false→R (.tuple #[.slice none 0 0,.bool false]) H)(h1:tabB kind ps=true→ ∀b H',Ext H H'→R (.tuple #[.slice (some ⟨b,0,none⟩) 256 256,.bool true]) H'):CallsH Tryz.prog 127 #[.int .i64 kind,.slice p n c] H R:=by
 refine Tryz.s127 ?_
 unfold Tryz.S127
 have hlen:=h.length
 refine c170 h hn ⟨_,rfl,br_not (fun hb=>h0 hb) fun hb=>br_eq (fun hk1=>?_) fun hk1=>?_⟩
 ·rw[hk1] at hb
  exact c171 h (tabB_crv hb) fun b H' he=>⟨_,_,_,rfl,h1 (by rw[hk1];exact hb) b H' he⟩
 refine⟨by decide,by decide,by decide,by decide,?_⟩
 rw[repsA256]
 refine(St.nil H).alc fun b9 H10 hs10=>?_
 intro X hX
 have hrng:=tabB_rng hb
 have hkind:=tabB_kind hb
 unfold kindP at hkind
 have go: ∀k,k≤256→ ∀H1 (L:List Int),L.length=256→St H H1 [.cell b9 (ints L).toArray 3]→X [.int .i64 (k:Nat)] H1:=by
  refine upto fun k hk ih H1 L hL hs1=>hX _ _ (br_dec (fun hlt=>?_) fun hge=>?_)
  ·have hk':k<256:=by have:(k:Int)<256:=hlt;omega
   have g1:=h.ext hs1.ext
   intro J hJ
   have same:J [] H1:=hJ _ (by
    rw[wrap_id (by omega) (by omega)]
    exact ih hk' H1 L hL hs1)
   have put: ∀(v:Int),∃a11:Addr,(some ⟨b9,0,none⟩)=some a11∧0≤(k:Int)∧(k:Int)<(((Int.toNat (256:Int)):Nat):Int)∧stAt H1 (Addr.add a11 (Int.toNat (k:Int)*1)) [Value.int .i64 v] fun H_12=>J [] H_12:=fun v=>by
    refine⟨_,rfl,by omega,hlt,?_⟩
    rw[show Int.toNat (k:Int)*1=k from Nat.mul_one k,add_none,Nat.zero_add]
    refine hs1.putA 0 rfl (by omega) fun H2 hs2=>hJ _ ?_
    rw[wrap_id (by omega) (by omega)]
    exact ih hk' H2 (L.set k v) (by rw[List.length_set];exact hL) hs2
   refine br_eq (fun k0=>?_) fun k0=>br_eq (fun k2=>put _) fun k2=>br_eq (fun k3=>?_) fun k3=>same
   ·rw[if_pos k0] at hkind
    have hk2:=of_decide_eq_true hkind
    refine rdG (i:=1) g1 (by omega) (by omega) (rdG (i:=0) g1 (by omega) (by omega) (rdG (i:=0) g1 (by omega) (by omega) ⟨by decide,?_,put _⟩))
    have r1:=hrng 1
    have r0:=hrng 0
    show IntKind.wrap .i64 (ps.getD 1 0-ps.getD 0 0)≠0
    rw[wrap_id (by omega) (by omega)]
    omega
   ·rw[if_neg k0,if_neg hk1,if_neg k2,if_pos k3] at hkind
    have hk2:=of_decide_eq_true hkind
    exact rdG (i:=0) g1 (by omega) (by omega) (br_dec (fun _=>put _) fun _=>same)
  ·have hk6: ¬(k:Int)<256:=hge
   have:k=256:=by omega
   subst this
   exact h1 hb b9 H1 hs1.ext
 exact go 0 (by omega) H10 _ (by simp) hs10
end Go.Proofs
