/-
  OWN WORK. Several texts in one: CrA, FlC, FlUa, EdA, TrS, EdB, TrT, TrU, TrV, TrW, TrX, TrY, TrZ, TsBegun.
-/
import Derived.Test.YthigcnljndbmnaaGreatMgEditorGroupsE
import Derived.Test.YthigcnljndbmnaaGreatMgEditorGroupsD

set_option linter.unusedVariables false
set_option linter.unusedSimpArgs false
set_option maxRecDepth 100000
namespace Go.Proofs
open Go.Sh
open Go.IntKind (wrap)
variable {H:Heap} {R:Value→Heap→Prop}
def Bys(l:List Int):Prop:= ∀x∈l,0≤x∧x<256
theorem Bys.getD{l:List Int}(h:Bys l)(i:Nat):0≤l.getD i 0∧l.getD i 0<256:=by
 rw[List.getD_eq_getElem?_getD]
 cases hi:l[i]? with
 |none=>exact⟨by decide,by decide⟩
 |some x=>exact h x (List.mem_of_getElem? hi)
end Go.Proofs
namespace Go.Proofs
open Go.Sh
variable {H0 H:Heap} {σ:List Rs} {R:Value→Heap→Prop}
end Go.Proofs
namespace Go.Proofs
open Go.Sh
variable {H0 H:Heap} {σ:List Rs} {R:Value→Heap→Prop}
structure PB(H:Heap)(p:Option Addr)(l:Nat)(ps:List (List Int)):Prop where
 len:ps.length=l
 get: ∀(i:Nat) x,ps[i]?=some x→ ∃a q n c,p=some a∧Go.Sh.cell H (a.add i)=some (.slice q n c)∧IS H q n (kints .u8 x)
theorem PB.ext{H H':Heap}{p:Option Addr}{l:Nat}{ps:List (List Int)}(h:PB H p l ps)(e:Ext H H'):PB H' p l ps:=⟨h.len,fun i x hx=>by
 obtain⟨a,q,n,c,h1,h2,h3⟩:=h.get i x hx
 exact⟨a,q,n,c,h1,e.cell h2,h3.ext e⟩⟩
def AllIS(H:Heap):List (Option Addr×Nat×Nat)→List (List Int)→Prop
 |[],[]=>True
 |v::vs,x::ps=>IS H v.1 v.2.1 (kints .u8 x)∧AllIS H vs ps
 |_,_=>False
theorem AllIS.get: ∀{vs:List (Option Addr×Nat×Nat)} {ps:List (List Int)},AllIS H vs ps→vs.length=ps.length∧ ∀(i:Nat) x,ps[i]?=some x→ ∃v,vs[i]?=some v∧IS H v.1 v.2.1 (kints .u8 x)
 |[],[],_=>⟨rfl,fun i x hx=>by simp at hx⟩
 |v::vs,x::ps,h=>by
  obtain⟨h1,h2⟩:=AllIS.get h.2
  refine⟨by simp[h1],fun i y hy=>?_⟩
  cases i with
  |zero=>simp at hy;subst hy;exact⟨v,rfl,h.1⟩
  |succ i=>exact h2 i y (by simpa using hy)
end Go.Proofs
namespace Go.Proofs
open Go.Sh
variable {H0 H:Heap} {σ:List Rs} {R:Value→Heap→Prop}
theorem Bys.app{a b:List Int}(h:Bys a)(h':Bys b):Bys (a++b):=fun x hx=>(List.mem_append.1 hx).elim (h x) (h' x)
structure RlS where
 b:List Int
 cap:Int
 safe:Int
 left:Int
 down:Bool
structure RlOk(r:RlS):Prop where
 bys:Bys r.b
 len:(r.b.length:Int)≤r.cap
 cap:r.cap≤16777216
 left:r.left≤9223372036854775807
def RlS.step(r:RlS):RlS:=if r.left>0 then{r with left:=r.left-1} else if r.left=0 then{r with down:=true} else r
def RlS.app(r:RlS)(x:List Int):Int×RlS:=
 if r.down=true then(11,r) else if (x.length:Int)>r.cap-r.b.length then(10,r) else
 (if ({r with b:=r.b++x}:RlS).step.down=true then 11 else 0,({r with b:=r.b++x}:RlS).step)
theorem step_b(r:RlS):r.step.b=r.b∧r.step.cap=r.cap∧r.step.left≤max r.left 0:=by
 unfold RlS.step
 split
 ·exact⟨rfl,rfl,by show r.left-1≤_;omega⟩
 split
 ·exact⟨rfl,rfl,by show r.left≤_;omega⟩
 ·exact⟨rfl,rfl,by omega⟩
theorem RlOk.step{r:RlS}(h:RlOk r):RlOk r.step:=by
 obtain⟨h1,h2,h3⟩:=step_b r
 have h4:=h.left
 exact⟨by rw[h1];exact h.bys,by rw[h1,h2];exact h.len,by rw[h2];exact h.cap,by omega⟩
theorem RlOk.app{r:RlS}(h:RlOk r){x:List Int}(hx:Bys x):RlOk (r.app x).2:=by
 unfold RlS.app
 split
 ·exact h
 split
 ·exact h
 ·rename_i h1 h2
  refine RlOk.step ⟨h.bys.app hx,?_,h.cap,h.left⟩
  show((r.b++x).length:Int)≤r.cap
  rw[List.length_append];omega
def reelA(P:Sl3)(r:RlS):Array Value:=#[P.v,.int .i64 r.cap,.int .i64 r.safe,.int .i64 r.left,.bool r.down]
def rlRs(rb:Nat)(r:RlS):Rs:= .ex fun(P:Sl3)=> .star (.cell rb (reelA P r) 53) (.sl P.p P.l P.c 5 1 (kints .u8 r.b))
theorem rlIn{rb:Nat}{r:RlS}{P:Sl3}(hs:St H0 H (.cell rb (reelA P r) 53:: .sl P.p P.l P.c 5 1 (kints .u8 r.b)::σ)):St H0 H (rlRs rb r::σ):=
 St.inex (f:=fun(P:Sl3)=> .star (.cell rb (reelA P r) 53) (.sl P.p P.l P.c 5 1 (kints .u8 r.b))) P hs.cat
theorem c5{c:Int}(hs:St H0 H σ)(h0:0≤c)(h1:c≤16777216)(hR: ∀rb H',St H0 H' (rlRs rb ⟨[],c,0,-1,false⟩::σ)→R (.pointer (some ⟨rb,0,none⟩)) H'):CallsH Tryz.prog 5 #[.int .i64 c] H R:=by
 refine Tryz.s5 ?_
 unfold Tryz.S5
 refine br_n (by omega) (br_n (by omega) (hs.alc fun b2 H3 hs3=>hR b2 H3 (rlIn (P:= .nil) ?_)))
 exact(hs3.nilSl 5 1).swap
end Go.Proofs
namespace Go.Sh
end Go.Sh
namespace Go.Proofs
open Go.Sh
variable {H0 H:Heap} {σ:List Rs} {R:Value→Heap→Prop}
def placeF(e:Ed)(f:LayF):Int×LayF:=if f.kind≠0 then(41,f) else if e.n≠0∧e.n≠1 then(32,f) else if (backM e.map).1≠0 then((backM e.map).1,f) else(0,{f with map:=e.map,smooth:=e.n==1})
def adjustF(e:Ed)(f:LayF):Int×LayF:=if f.kind≠2 then(41,f) else if tabB e.n e.params=false then(32,f) else(0,{f with table:=e.n,params:=e.params})
def stepL(w h next:Int)(D:List Lay)(e:Ed):Int×List Lay:=
 if e.kind=1 then addL next D e else if e.kind=2 then removeL D e.id else if e.kind=3 then moveL D e else if e.kind=4 then chgL (paintF e) D e.id else if e.kind=5 then chgL (lookF e) D e.id else
 if e.kind=6 then chgL (hideF e) D e.id else if e.kind=7 then chgL (maskF w h e) D e.id else if e.kind=8 then chgL (placeF e) D e.id else if e.kind=9 then chgL (adjustF e) D e.id else(41,[])
def nextL(next:Int)(e:Ed):Int:=if e.kind=1 then next+1 else next
structure EdOk(H0:Heap)(e:Ed)(s:EdS):Prop where
 rd:rdEd H0 e s
 shape:e.shape.length≤1000000000
 params:e.params.length≤1000000000
end Go.Proofs
namespace Go.Proofs
open Go.Sh
variable {H0 H:Heap} {σ:List Rs} {R:Value→Heap→Prop}
end Go.Proofs
namespace Go.Proofs
open Go.Sh
variable {H0 H:Heap} {σ:List Rs} {R:Value→Heap→Prop}
theorem docA_one(w h next:Int)(K:Sl3): ∀v∈(docA w h next K).toList,v.oneCell'=true:=by
 unfold docA
 simp only[List.forall_mem_cons]
 exact⟨rfl,rfl,rfl,rfl,fun _ h=>by cases h⟩
def doL(w h next:Int)(D:List Lay)(e:Ed):Int×Int×List Lay:=
 if e.kind<1∨e.kind>9 then(41,0,[]) else if (stepL w h next D e).1≠0 then((stepL w h next D e).1,0,[]) else(0,nextL next e,(stepL w h next D e).2)
end Go.Proofs
namespace Go.Proofs
open Go.Sh
structure DocL where
 w:Int
 h:Int
 next:Int
 ks:List Lay
def zeroD:DocL:=⟨0,0,0,[]⟩
def doD(D:DocL)(e:Ed):Int×DocL:=if (doL D.w D.h D.next D.ks e).1≠0 then((doL D.w D.h D.next D.ks e).1,zeroD) else(0,⟨D.w,D.h,(doL D.w D.h D.next D.ks e).2.1,(doL D.w D.h D.next D.ks e).2.2⟩)
def oneM:M6:=⟨65536,0,0,65536,0,0⟩
structure goodF(w h next:Int)(f:LayF):Prop where
 id:1≤f.id∧f.id<next
 kind:0≤f.kind∧f.kind≤2
 opacity:0≤f.opacity∧f.opacity≤255
 mode:0≤f.mode∧f.mode≤11
 maskLen:f.mask=[]∨(f.mask.length:Int)=w*h
 maskV: ∀c∈f.mask,c=0∨c=255
 bare:f.kind≠0→f.w=0∧f.h=0∧f.p=[]∧f.map=oneM∧f.smooth=false
 plain:f.kind≠2→f.table=2∧f.params=[]
 adj:f.kind=2→f.mode=0
 ras:f.kind=0→sizedB f.w f.h=true∧(f.p.length:Int)=f.w*f.h∧f.p.all pixelB=true∧(backM f.map).1=0
 tab:tabB f.table f.params=true
mutual
def gT(G:LayF→Prop):Lay→Prop
 | .mk f ks=>G f∧(f.kind=1∨ks=[])∧gKs G ks
def gKs(G:LayF→Prop):List Lay→Prop
 |[]=>True
 |t::ts=>gT G t∧gKs G ts
end
mutual
def idsT:Lay→List Int
 | .mk f ks=>f.id::idsKs ks
def idsKs:List Lay→List Int
 |[]=>[]
 |t::ts=>idsT t++idsKs ts
end
structure Inv(D:DocL):Prop where
 size:sizedB D.w D.h=true
 next:1≤D.next
 cnt:cntKs D.ks≤4096
 dep:depKs D.ks≤64
 ids:(idsKs D.ks).Nodup
 good:gKs (goodF D.w D.h D.next) D.ks
variable {G:LayF→Prop}
theorem gKs_app{a b:List Lay}:gKs G (a++b)↔gKs G a∧gKs G b:=by
 induction a with
 |nil=>simp[gKs]
 |cons t a ih=>rw[List.cons_append,gKs,ih,gKs,and_assoc]
theorem gKs_iff{ts:List Lay}:gKs G ts↔ ∀t∈ts,gT G t:=by
 induction ts with
 |nil=>simp[gKs]
 |cons t ts ih=>rw[gKs,ih,List.forall_mem_cons]
theorem gT_imp{G':LayF→Prop}(h: ∀f,G f→G' f): ∀t,gT G t→gT G' t:=Lay.ind fun f ks ih hg=>by
 rw[gT] at hg ⊢
 exact⟨h f hg.1,hg.2.1,gKs_iff.2 fun t ht=>ih t ht (gKs_iff.1 hg.2.2 t ht)⟩
theorem gKs_imp{G':LayF→Prop}(h: ∀f,G f→G' f){ts:List Lay}(hg:gKs G ts):gKs G' ts:=gKs_iff.2 fun t ht=>gT_imp h t (gKs_iff.1 hg t ht)
def gUp(G:LayF→Prop):List FrL→Prop
 |[]=>True
 |fr::u=>gKs G fr.pre∧gKs G fr.post∧G fr.f∧fr.f.kind=1∧gUp G u
theorem g_unplug: ∀{u:List FrL} {ks:List Lay},gKs G (plugL u ks)→ks≠[]→gUp G u∧gKs G ks
 |[],ks,h,_=>⟨trivial,h⟩
 |fr::u,ks,h,hne=>by
  rw[plugL] at h
  obtain⟨h1,h2⟩:=g_unplug h (by simp)
  rw[gKs_app,gKs,gT] at h2
  refine⟨⟨h2.1,h2.2.2,h2.2.1.1,?_,h1⟩,h2.2.1.2.2⟩
  rcases h2.2.1.2.1 with h|h
  ·exact h
  ·exact absurd h hne
theorem g_plug: ∀{u:List FrL} {ks:List Lay},gUp G u→gKs G ks→gKs G (plugL u ks)
 |[],ks,_,h=>h
 |fr::u,ks,hu,h=>by
  rw[plugL]
  refine g_plug hu.2.2.2.2 ?_
  rw[gKs_app,gKs,gT]
  exact⟨hu.1,⟨hu.2.2.1,.inl hu.2.2.2.1,h⟩,hu.2.1⟩
theorem g_node{fr:FrL}{u:List FrL}{ks:List Lay}(h:gKs G (plugL (fr::u) ks)):gUp G u∧gKs G fr.pre∧gT G (.mk fr.f ks)∧gKs G fr.post:=by
 rw[plugL] at h
 obtain⟨h1,h2⟩:=g_unplug h (by simp)
 rw[gKs_app,gKs] at h2
 exact⟨h1,h2.1,h2.2.1,h2.2.2⟩
theorem g_set{fr:FrL}{u:List FrL}{ks:List Lay}(h1:gUp G u)(h2:gKs G fr.pre)(h3:gT G (.mk fr.f ks))(h4:gKs G fr.post):gKs G (plugL (fr::u) ks):=by
 rw[plugL]
 refine g_plug h1 ?_
 rw[gKs_app,gKs]
 exact⟨h2,h3,h4⟩
def idsUp:List FrL→List Int
 |[]=>[]
 |fr::u=>fr.f.id::(idsKs fr.pre++idsKs fr.post++idsUp u)
theorem idsKs_app(a b:List Lay):idsKs (a++b)=idsKs a++idsKs b:=by
 induction a with
 |nil=>simp[idsKs]
 |cons t a ih=>rw[List.cons_append,idsKs,ih,idsKs,List.append_assoc]
theorem ids_plug: ∀(u:List FrL) (ks:List Lay),(idsKs (plugL u ks)).Perm (idsKs ks++idsUp u)
 |[],ks=>by rw[idsUp,List.append_nil];exact List.Perm.refl _
 |fr::u,ks=>by
  rw[plugL]
  refine(ids_plug u _).trans (List.perm_iff_count.2 fun x=>?_)
  simp only[idsKs_app,idsKs,idsT,idsUp,List.count_append,List.count_cons]
  ac_rfl
def depUp:List FrL→Nat→Nat
 |[],d=>d
 |fr::u,d=>depUp u (max (depKs fr.pre) (max (1+d) (depKs fr.post)))
theorem dep_plug: ∀(u:List FrL) (ks:List Lay),depKs (plugL u ks)=depUp u (depKs ks)
 |[],ks=>rfl
 |fr::u,ks=>by rw[plugL,dep_plug u,depKs_app,depKs,depL,depUp]
theorem depUp_mono: ∀(u:List FrL) {d d':Nat},d≤d'→depUp u d≤depUp u d'
 |[],d,d',h=>h
 |fr::u,d,d',h=>by rw[depUp,depUp];exact depUp_mono u (by omega)
theorem fl_plug(id:Int): ∀(t:Lay) (up:List FrL) (pre post:List Lay) (z:ZL),flT up pre post id t=some z→plugL z.1 z.2=plugL up (pre++t::post)∧ ∃fr u,z.1=fr::u∧fr.f.id=id:=by
 refine Lay.ind fun f ks ih up pre post z hz=>?_
 rw[flT] at hz
 split at hz
 ·rename_i h;cases hz;exact⟨rfl,_,_,rfl,h⟩
 ·have: ∀(ts:List Lay),(∀t∈ts,t∈ks)→ ∀(u:List FrL) (pre0:List Lay),flK u pre0 id ts=some z→plugL z.1 z.2=plugL u (pre0++ts)∧ ∃fr u,z.1=fr::u∧fr.f.id=id:=by
   intro ts
   induction ts with
   |nil=>intro _ u pre0 h;rw[flK] at h;cases h
   |cons t ts ih2=>
    intro hm u pre0 h
    rw[flK] at h
    split at h
    ·rename_i z' hz'
     cases h
     exact ih t (hm t List.mem_cons_self) _ _ _ _ hz'
    ·have:=ih2 (fun t ht=>hm t (List.mem_cons_of_mem _ ht)) _ _ h
     rw[List.append_assoc] at this
     exact this
  exact this ks (fun _ h=>h) _ _ hz
theorem flK_plug{id:Int}: ∀(ts:List Lay) (up:List FrL) (pre:List Lay) (z:ZL),flK up pre id ts=some z→plugL z.1 z.2=plugL up (pre++ts)∧ ∃fr u,z.1=fr::u∧fr.f.id=id
 |[],up,pre,z,h=>by rw[flK] at h;cases h
 |t::ts,up,pre,z,h=>by
  rw[flK] at h
  split at h
  ·rename_i z' hz'
   cases h
   exact fl_plug id t _ _ _ _ hz'
  ·have:=flK_plug ts _ _ _ h
   rw[List.append_assoc] at this
   exact this
theorem fl_cases(id:Int)(D:List Lay):flK [] [] id D=none∨ ∃fr u ks,flK [] [] id D=some (fr::u,ks)∧fr.f.id=id∧plugL (fr::u) ks=D:=by
 cases h:flK [] [] id D with
 |none=>exact .inl rfl
 |some z=>
  obtain⟨h1,fr,u,h2,h3⟩:=flK_plug D _ _ z h
  obtain⟨z1,z2⟩:=z
  simp only at h2 h1
  subst h2
  exact .inr ⟨fr,u,z2,rfl,h3,h1⟩
theorem Inv.okL{w h next:Int}(hsz:sizedB w h=true): ∀t,gT (goodF w h next) t→cntL t≤1000000→okL t:=Lay.ind fun f ks ih hg hc=>by
 rw[gT] at hg
 rw[cntL] at hc
 have hlen:=len_cnt ks
 obtain⟨q1,q2,q3,q4,q5⟩:=of_decide_eq_true hsz
 rw[Go.Proofs.okL]
 refine⟨?_,?_,?_,by omega,okKs_iff.2 fun t ht=>ih t ht (gKs_iff.1 hg.2.2 t ht) (by have:=cnt_mem ht;omega)⟩
 ·by_cases hk:f.kind=0
  ·obtain⟨h1,h2,_⟩:=hg.1.ras hk
   obtain⟨_,_,_,_,h3⟩:=of_decide_eq_true h1
   omega
  ·rw[(hg.1.bare hk).2.2.1];simp
 ·rcases hg.1.maskLen with h|h
  ·rw[h];simp
  ·omega
 ·by_cases hk:f.kind=2
  ·have ht:=tabB_kind hg.1.tab
   unfold kindP at ht
   split at ht
   ·have:=of_decide_eq_true ht;omega
   ·split at ht
    ·have:=of_decide_eq_true ht;omega
    ·split at ht
     ·have:=of_decide_eq_true ht;omega
     ·split at ht
      ·have:=of_decide_eq_true ht;omega
      ·cases ht
  ·rw[(hg.1.plain hk).2];simp
theorem Inv.ok{D:DocL}(h:Inv D):okKs D.ks:=okKs_iff.2 fun t ht=>Inv.okL h.size t (gKs_iff.1 h.good t ht) (by have:=cnt_mem ht;have:=h.cnt;omega)
theorem Inv.found{D:DocL}(h:Inv D){id:Int}{fr:FrL}{u:List FrL}{ks:List Lay}(hf:flK [] [] id D.ks=some (fr::u,ks)):goodF D.w D.h D.next fr.f∧(fr.f.kind=1∨ks=[]):=by
 have hp:=(flK_plug D.ks _ _ _ hf).1
 have hg:=h.good
 have hp:plugL (fr::u) ks=D.ks:=hp
 rw[←hp] at hg
 have:=(g_node hg).2.2.1
 rw[gT] at this
 exact⟨this.1,this.2.1⟩
theorem Inv.ras{D:DocL}(h:Inv D){id:Int}{fr:FrL}{u:List FrL}{ks:List Lay}(hf:flK [] [] id D.ks=some (fr::u,ks)):okRas fr.f:=fun hk=>⟨((h.found hf).1.ras hk).1,((h.found hf).1.ras hk).2.1⟩
theorem chg_inv{D:DocL}(h:Inv D){g:LayF→Int×LayF}{id:Int}(hg: ∀f,goodF D.w D.h D.next f→(g f).1=0→goodF D.w D.h D.next (g f).2∧(g f).2.id=f.id∧(g f).2.kind=f.kind)(h0:(chgL g D.ks id).1=0):Inv ⟨D.w,D.h,D.next,(chgL g D.ks id).2⟩:=by
 rcases fl_cases id D.ks with hn|⟨fr,u,ks,hf,hid,hp⟩
 ·rw[chg_none hn] at h0;exact absurd h0 (by decide)
 ·obtain⟨g1,g2⟩:=h.found hf
  by_cases he:(g fr.f).1=0
  ·have hge:g fr.f=(0,(g fr.f).2):=Prod.ext he rfl
   have hc:=chg_ok (g:=g) hf hge
   obtain⟨k1,k2,k3⟩:=hg fr.f g1 he
   rw[hc]
   have hgd:=h.good
   have hi:=h.ids
   have hcn:=h.cnt
   have hdp:=h.dep
   rw[←hp] at hgd hi hcn hdp
   obtain⟨u1,u2,u3,u4⟩:=g_node hgd
   rw[gT] at u3
   refine⟨h.size,h.next,?_,?_,?_,?_⟩
   ·show cntKs (plugL (⟨fr.pre,(g fr.f).2,fr.post⟩::u) ks)≤4096
    rw[cnt_plug] at hcn ⊢;exact hcn
   ·show depKs (plugL (⟨fr.pre,(g fr.f).2,fr.post⟩::u) ks)≤64
    rw[dep_plug] at hdp ⊢;exact hdp
   ·refine((ids_plug _ _).nodup_iff).2 ?_
    have:=((ids_plug _ _).nodup_iff).1 hi
    rw[idsUp] at this ⊢
    rw[k2];exact this
   ·refine g_set (fr:=⟨fr.pre,(g fr.f).2,fr.post⟩) u1 u2 ?_ u4
    rw[gT]
    exact⟨k1,by rw[k3];exact u3.2.1,u3.2.2⟩
  ·have:=chg_bad (g:=g) hf (show g fr.f=((g fr.f).1,(g fr.f).2) from rfl) he
   rw[this] at h0;exact absurd h0 he
end Go.Proofs
namespace Go.Proofs
open Go.Sh
theorem look_good{w h next:Int}{e:Ed}{f:LayF}(hg:goodF w h next f)(h0:(lookF e f).1=0):goodF w h next (lookF e f).2∧(lookF e f).2.id=f.id∧(lookF e f).2.kind=f.kind:=by
 unfold lookF at h0 ⊢
 split at h0
 ·simp at h0
 ·rename_i c1
  split at h0
  ·simp at h0
  ·rename_i c2
   rw[if_neg c1,if_neg c2]
   refine⟨⟨hg.id,hg.kind,by show 0≤e.n∧e.n≤255;omega,by show 0≤e.m∧e.m≤11;omega,hg.maskLen,hg.maskV,hg.bare,hg.plain,fun hk=>?_,hg.ras,hg.tab⟩,rfl,rfl⟩
   show e.m=0
   exact Decidable.byContradiction fun hm=>c2 ⟨hk,hm⟩
theorem hide_good{w h next:Int}{e:Ed}{f:LayF}(hg:goodF w h next f)(h0:(hideF e f).1=0):goodF w h next (hideF e f).2∧(hideF e f).2.id=f.id∧(hideF e f).2.kind=f.kind:=by
 unfold hideF at h0 ⊢
 split at h0
 ·simp at h0
 ·rename_i c1
  rw[if_neg c1]
  exact⟨⟨hg.id,hg.kind,hg.opacity,hg.mode,hg.maskLen,hg.maskV,hg.bare,hg.plain,hg.adj,hg.ras,hg.tab⟩,rfl,rfl⟩
theorem paint_good{w h next:Int}{e:Ed}{f:LayF}(hg:goodF w h next f)(h0:(paintF e f).1=0):goodF w h next (paintF e f).2∧(paintF e f).2.id=f.id∧(paintF e f).2.kind=f.kind:=by
 unfold paintF at h0 ⊢
 split at h0
 ·simp at h0
 rename_i c1
 split at h0
 ·simp at h0
 rename_i c2
 split at h0
 ·simp at h0
 rename_i c3
 split at h0
 ·simp at h0
 rename_i c4
 rw[if_neg c1,if_neg c2,if_neg c3,if_neg c4]
 refine⟨⟨hg.id,hg.kind,hg.opacity,hg.mode,hg.maskLen,hg.maskV,fun hk=>absurd hk c1,hg.plain,hg.adj,fun hk=>?_,hg.tab⟩,rfl,rfl⟩
 obtain⟨r1,r2,r3,r4⟩:=hg.ras hk
 refine⟨r1,?_,?_,r4⟩
 ·show((paintP e f.w f.p).length:Int)=_
  unfold paintP;rw[List.length_map,List.length_range];exact r2
 ·show(paintP e f.w f.p).all pixelB=true
  rw[List.all_eq_true]
  intro v hv
  unfold paintP at hv
  obtain⟨q,hq,rfl⟩:=List.mem_map.1 hv
  have hql:=List.mem_range.1 hq
  split
  ·rename_i hin
   have hr:=idxP_rng hin
   have hl:(e.p.length:Int)=e.w*e.h:=Decidable.byContradiction fun hh=>c2 (.inr (.inr (.inr (.inr hh))))
   have hlt:(idxP e f.w q).toNat<e.p.length:=by omega
   rw[List.getD_eq_getElem?_getD,List.getElem?_eq_getElem hlt]
   have hc3:e.p.any (fun v=> !pixelB v)=false:=by simpa using c3
   have:=List.any_eq_false.1 hc3 _ (List.getElem_mem hlt)
   simpa using this
  ·rw[List.getD_eq_getElem?_getD,List.getElem?_eq_getElem hql]
   exact List.all_eq_true.1 r3 _ (List.getElem_mem hql)
theorem mask_good{w h next:Int}(hsz:sizedB w h=true){e:Ed}{f:LayF}(hg:goodF w h next f)(h0:(maskF w h e f).1=0):goodF w h next (maskF w h e f).2∧(maskF w h e f).2.id=f.id∧(maskF w h e f).2.kind=f.kind:=by
 obtain⟨q1,q2,q3,q4,q5⟩:=of_decide_eq_true hsz
 have hpos:0≤w*h:=Int.mul_nonneg (by omega) (by omega)
 unfold maskF at h0 ⊢
 split at h0
 ·simp at h0
 rename_i c1
 rw[if_neg c1]
 split at h0
 ·rename_i c2
  rw[if_pos c2]
  exact⟨⟨hg.id,hg.kind,hg.opacity,hg.mode,.inl rfl,fun _ hc=>(by cases hc),hg.bare,hg.plain,hg.adj,hg.ras,hg.tab⟩,rfl,rfl⟩
 rename_i c2
 rw[if_neg c2]
 split at h0
 ·simp at h0
 rename_i c3
 rw[if_neg c3]
 refine⟨⟨hg.id,hg.kind,hg.opacity,hg.mode,.inr ?_,fun c hc=>?_,hg.bare,hg.plain,hg.adj,hg.ras,hg.tab⟩,rfl,rfl⟩
 ·show((maskL w h (fun x y=>withinB e.shape x y != (e.n==1))).length:Int)=w*h
  unfold maskL;rw[List.length_map,List.length_range];omega
 ·unfold maskL at hc
  obtain⟨q,hq,rfl⟩:=List.mem_map.1 hc
  split
  ·exact .inr rfl
  ·exact .inl rfl
theorem place_good{w h next:Int}{e:Ed}{f:LayF}(hg:goodF w h next f)(h0:(placeF e f).1=0):goodF w h next (placeF e f).2∧(placeF e f).2.id=f.id∧(placeF e f).2.kind=f.kind:=by
 unfold placeF at h0 ⊢
 split at h0
 ·simp at h0
 rename_i c1
 split at h0
 ·simp at h0
 rename_i c2
 split at h0
 ·rename_i c3;exact absurd h0 c3
 rename_i c3
 rw[if_neg c1,if_neg c2,if_neg c3]
 refine⟨⟨hg.id,hg.kind,hg.opacity,hg.mode,hg.maskLen,hg.maskV,fun hk=>absurd hk c1,hg.plain,hg.adj,fun hk=>?_,hg.tab⟩,rfl,rfl⟩
 obtain⟨r1,r2,r3,r4⟩:=hg.ras hk
 exact⟨r1,r2,r3,Decidable.byContradiction c3⟩
theorem adjust_good{w h next:Int}{e:Ed}{f:LayF}(hg:goodF w h next f)(h0:(adjustF e f).1=0):goodF w h next (adjustF e f).2∧(adjustF e f).2.id=f.id∧(adjustF e f).2.kind=f.kind:=by
 unfold adjustF at h0 ⊢
 split at h0
 ·simp at h0
 rename_i c1
 split at h0
 ·simp at h0
 rename_i c2
 rw[if_neg c1,if_neg c2]
 exact⟨⟨hg.id,hg.kind,hg.opacity,hg.mode,hg.maskLen,hg.maskV,hg.bare,fun hk=>absurd hk c1,hg.adj,hg.ras,by simpa using c2⟩,rfl,rfl⟩
theorem home_cases(D:List Lay)(to:Int){v:List FrL}{kh:List Lay}(h:homeL D to=(0,v,kh)):plugL v kh=D∧ ∀{G:LayF→Prop},gKs G D→gUp G v∧gKs G kh:=by
 unfold homeL at h
 split at h
 ·cases h;exact⟨rfl,fun hg=>⟨trivial,hg⟩⟩
 ·rcases fl_cases to D with hn|⟨fr,u,ks,hf,hid,hp⟩
  ·rw[hn] at h;cases h
  ·rw[hf] at h
   simp only at h
   split at h
   ·rename_i hk
    cases h
    refine⟨hp,fun{G} hg=>?_⟩
    rw[←hp] at hg
    obtain⟨u1,u2,u3,u4⟩:=g_node hg
    rw[gT] at u3
    exact⟨⟨u2,u4,u3.1,hk,u1⟩,u3.2.2⟩
   ·cases h
theorem home_tri{D:List Lay}{to:Int}(h:(homeL D to).1=0):homeL D to=(0,(homeL D to).2.1,(homeL D to).2.2):=by
 rw[←h]
theorem put_ok{v:List FrL}{kh:List Lay}{a:Int}{l:Lay}(h0:(putL v kh a l).1=0): ∃i,atL a kh.length=some i∧(putL v kh a l).2=plugL v (kh.take i++l::kh.drop i)∧depKs (plugL v (kh.take i++l::kh.drop i))≤64:=by
 unfold putL at h0 ⊢
 split at h0
 ·simp at h0
 ·rename_i i hi
  refine⟨i,hi,rfl,?_⟩
  simp only at h0
  split at h0
  ·simp at h0
  ·omega
theorem put_ids(v:List FrL)(kh:List Lay)(i:Nat)(l:Lay):(idsKs (plugL v (kh.take i++l::kh.drop i))).Perm (idsT l++idsKs (plugL v kh)):=by
 refine(ids_plug _ _).trans ?_
 refine List.Perm.trans ?_ (List.Perm.append_left _ (ids_plug v kh).symm)
 refine List.perm_iff_count.2 fun x=>?_
 have h:=idsKs_app (kh.take i) (kh.drop i)
 rw[List.take_append_drop] at h
 rw[h]
 simp only[idsKs_app,idsKs,List.count_append]
 ac_rfl
theorem put_cnt(v:List FrL)(kh:List Lay)(i:Nat)(l:Lay):cntKs (plugL v (kh.take i++l::kh.drop i))=cntL l+cntKs (plugL v kh):=by
 rw[cnt_plug,cnt_plug,cntKs_app,cntKs]
 have h:=cntKs_app (kh.take i) (kh.drop i)
 rw[List.take_append_drop] at h
 omega
theorem put_g{G:LayF→Prop}{v:List FrL}{kh:List Lay}{i:Nat}{l:Lay}(h1:gUp G v)(h2:gKs G kh)(h3:gT G l):gKs G (plugL v (kh.take i++l::kh.drop i)):=by
 refine g_plug h1 ?_
 have h:=gKs_app (G:=G) (a:=kh.take i) (b:=kh.drop i)
 rw[List.take_append_drop] at h
 rw[gKs_app,gKs]
 exact⟨(h.1 h2).1,h3,(h.1 h2).2⟩
theorem ids_lt{w h next:Int}: ∀t,gT (goodF w h next) t→ ∀x∈idsT t,1≤x∧x<next:=Lay.ind fun f ks ih hg x hx=>by
 rw[gT] at hg
 rw[idsT] at hx
 rcases List.mem_cons.1 hx with rfl|hx
 ·exact hg.1.id
 ·have: ∀(ts:List Lay),(∀t∈ts,t∈ks)→x∈idsKs ts→1≤x∧x<next:=by
   intro ts
   induction ts with
   |nil=>intro _ h;cases h
   |cons t ts ih2=>
    intro hm h
    rw[idsKs,List.mem_append] at h
    rcases h with h|h
    ·exact ih t (hm t List.mem_cons_self) (gKs_iff.1 hg.2.2 t (hm t List.mem_cons_self)) x h
    ·exact ih2 (fun t ht=>hm t (List.mem_cons_of_mem _ ht)) h
  exact this ks (fun _ h=>h) hx
theorem ids_ltKs{w h next:Int}: ∀{ts:List Lay},gKs (goodF w h next) ts→ ∀x∈idsKs ts,1≤x∧x<next
 |[],_,x,hx=>by cases hx
 |t::ts,hg,x,hx=>by
  rw[gKs] at hg
  rw[idsKs,List.mem_append] at hx
  rcases hx with hx|hx
  ·exact ids_lt t hg.1 x hx
  ·exact ids_ltKs hg.2 x hx
theorem good_next{w h next:Int}{f:LayF}(hg:goodF w h next f):goodF w h (next+1) f:=⟨by have:=hg.id;omega,hg.kind,hg.opacity,hg.mode,hg.maskLen,hg.maskV,hg.bare,hg.plain,hg.adj,hg.ras,hg.tab⟩
theorem pixel0:pixelB 0=true:=by decide
theorem new_good{w h next:Int}{e:Ed}(hnx:1≤next)(h1: ¬(e.n<0∨e.n>2))(h2: ¬(e.n=0∧sizedB e.w e.h=false)):goodF w h (next+1) (newL next e):=by
 refine⟨⟨hnx,by show next<next+1;omega⟩,by show 0≤e.n∧e.n≤2;omega,⟨by show(0:Int)≤255;decide,by show(255:Int)≤255;decide⟩,⟨by show(0:Int)≤0;decide,by show(0:Int)≤11;decide⟩,.inl rfl,fun _ hc=>(by cases hc),fun hk=>?_,fun _=>⟨rfl,rfl⟩,fun _=>rfl,fun hk=>?_,by show tabB 2 []=true;decide⟩
 ·have hk:e.n≠0:=hk
  unfold newL;rw[if_neg hk,if_neg hk,if_neg hk];exact⟨rfl,rfl,rfl,rfl,rfl⟩
 ·have hk:e.n=0:=hk
  have hsz:sizedB e.w e.h=true:=by
   cases hs:sizedB e.w e.h with
   |true=>rfl
   |false=>exact absurd ⟨hk,hs⟩ h2
  obtain⟨q1,q2,q3,q4,q5⟩:=of_decide_eq_true hsz
  have hpos:0≤e.w*e.h:=Int.mul_nonneg (by omega) (by omega)
  unfold newL
  rw[if_pos hk,if_pos hk,if_pos hk]
  refine⟨hsz,by rw[List.length_replicate];exact Int.toNat_of_nonneg hpos,?_,show(backM oneM).1=0 from by decide⟩
  rw[List.all_eq_true]
  intro v hv
  rw[(List.mem_replicate.1 hv).2]
  exact pixel0
theorem add_inv{D:DocL}(h:Inv D){e:Ed}(h0:(addL D.next D.ks e).1=0):Inv ⟨D.w,D.h,D.next+1,(addL D.next D.ks e).2⟩:=by
 unfold addL at h0 ⊢
 split at h0
 ·simp at h0
 rename_i c1
 split at h0
 ·simp at h0
 rename_i c2
 split at h0
 ·rename_i c3;exact absurd h0 c3
 rename_i c3
 split at h0
 ·rename_i c4;exact absurd h0 c4
 rename_i c4
 split at h0
 ·simp at h0
 rename_i c5
 rw[if_neg c1,if_neg c2,if_neg c3,if_neg c4,if_neg c5]
 have hho:=home_tri (Decidable.byContradiction c3)
 obtain⟨hp,hgu⟩:=home_cases D.ks e.to hho
 obtain⟨i,hi,hpu,hdp⟩:=put_ok (Decidable.byContradiction c4)
 obtain⟨g1,g2⟩:=hgu (gKs_imp (fun f=>good_next) h.good)
 rw[hpu]
 refine⟨h.size,by have:=h.next;show 1≤D.next+1;omega,?_,hdp,?_,?_⟩
 ·show cntKs (plugL _ _)≤4096
  rw[put_cnt,hp,cntL,cntKs];omega
 ·refine((put_ids _ _ i _).nodup_iff).2 ?_
  rw[hp,idsT,idsKs]
  show((newL D.next e).id::([]++idsKs D.ks)).Nodup
  rw[List.nil_append,List.nodup_cons]
  exact⟨fun hm=>by
   have h1:=(ids_ltKs h.good _ hm).2
   have h2:(newL D.next e).id=D.next:=rfl
   omega,h.ids⟩
 ·refine put_g g1 g2 ?_
  rw[gT]
  exact⟨new_good h.next c1 c2,.inr rfl,trivial⟩
theorem out_inv{D:DocL}(h:Inv D){id:Int}{fr:FrL}{u:List FrL}{ks:List Lay}(hf:flK [] [] id D.ks=some (fr::u,ks)):
 Inv ⟨D.w,D.h,D.next,plugL u (fr.pre++fr.post)⟩∧gT (goodF D.w D.h D.next) (.mk fr.f ks)∧(idsT (.mk fr.f ks)++idsKs (plugL u (fr.pre++fr.post))).Nodup∧cntL (.mk fr.f ks)+cntKs (plugL u (fr.pre++fr.post))=cntKs D.ks:=by
 have hp:plugL (fr::u) ks=D.ks:=(flK_plug D.ks _ _ _ hf).1
 have hgd:=h.good
 have hi:=h.ids
 have hcn:=h.cnt
 have hdp:=h.dep
 rw[←hp] at hgd hi hcn hdp
 obtain⟨u1,u2,u3,u4⟩:=g_node hgd
 have hids:(idsKs (plugL (fr::u) ks)).Perm (idsT (.mk fr.f ks)++idsKs (plugL u (fr.pre++fr.post))):=by
  refine(ids_plug _ _).trans (List.Perm.trans ?_ (List.Perm.append_left _ (ids_plug u _).symm))
  refine List.perm_iff_count.2 fun x=>?_
  simp only[idsUp,idsT,idsKs_app,List.count_append,List.count_cons]
  ac_rfl
 have hno:=(hids.nodup_iff).1 hi
 have hct:cntL (.mk fr.f ks)+cntKs (plugL u (fr.pre++fr.post))=cntKs D.ks:=by
  rw[←hp,cnt_plug,cnt_plug,cntUp,cntKs_app,cntL];omega
 refine⟨⟨h.size,h.next,by have:=h.cnt;show cntKs (plugL u (fr.pre++fr.post))≤4096;omega,?_,(List.nodup_append.1 hno).2.1,?_⟩,u3,hno,hct⟩
 ·show depKs (plugL u (fr.pre++fr.post))≤64
  rw[dep_plug] at hdp ⊢
  refine Nat.le_trans ?_ hdp
  rw[depUp,depKs_app]
  exact depUp_mono u (by omega)
 ·exact g_plug u1 (gKs_app.2 ⟨u2,u4⟩)
theorem move_inv{D:DocL}(h:Inv D){e:Ed}(h0:(moveL D.ks e).1=0):Inv ⟨D.w,D.h,D.next,(moveL D.ks e).2⟩:=by
 rcases fl_cases e.id D.ks with hn|⟨fr,u,ks,hf,hid,hp⟩
 ·unfold moveL at h0;rw[hn] at h0;simp at h0
 ·obtain⟨o1,o2,o3,o4⟩:=out_inv h hf
  unfold moveL at h0 ⊢
  rw[hf] at h0 ⊢
  simp only at h0 ⊢
  split at h0
  ·rename_i c;exact absurd h0 c
  rename_i c1
  split at h0
  ·simp at h0
  rename_i c2
  split at h0
  ·rename_i c;exact absurd h0 c
  rename_i c3
  rw[if_neg c1,if_neg c2,if_neg c3]
  have hho:=home_tri (Decidable.byContradiction c3)
  obtain⟨hp2,hgu⟩:=home_cases _ e.to hho
  obtain⟨i,hi,hpu,hdp⟩:=put_ok h0
  obtain⟨g1,g2⟩:=hgu o1.good
  rw[hpu]
  refine⟨h.size,h.next,?_,hdp,?_,put_g g1 g2 o2⟩
  ·show cntKs (plugL _ _)≤4096
   have:=h.cnt
   rw[put_cnt,hp2];omega
  ·refine((put_ids _ _ i _).nodup_iff).2 ?_
   rw[hp2];exact o3
theorem do_inv{D:DocL}(h:Inv D){e:Ed}(h0:(doD D e).1=0):Inv (doD D e).2:=by
 unfold doD at h0 ⊢
 by_cases hd:(doL D.w D.h D.next D.ks e).1≠0
 ·rw[if_pos hd] at h0;exact absurd h0 hd
 rw[if_neg hd]
 unfold doL at hd ⊢
 by_cases hk:e.kind<1∨e.kind>9
 ·rw[if_pos hk] at hd;simp at hd
 rw[if_neg hk] at hd ⊢
 by_cases hs:(stepL D.w D.h D.next D.ks e).1≠0
 ·rw[if_pos hs] at hd;exact absurd hs hd
 rw[if_neg hs]
 have hs:=Decidable.byContradiction hs
 show Inv ⟨D.w,D.h,nextL D.next e,(stepL D.w D.h D.next D.ks e).2⟩
 unfold stepL at hs ⊢
 by_cases k1:e.kind=1
 ·rw[if_pos k1] at hs ⊢;rw[show nextL D.next e=D.next+1 from by unfold nextL;rw[if_pos k1]];exact add_inv h hs
 rw[if_neg k1] at hs ⊢
 rw[show nextL D.next e=D.next from by unfold nextL;rw[if_neg k1]]
 by_cases k2:e.kind=2
 ·rw[if_pos k2] at hs ⊢
  rcases fl_cases e.id D.ks with hn|⟨fr,u,ks,hf,hid,hp⟩
  ·unfold removeL at hs;rw[hn] at hs;simp at hs
  ·have:=(out_inv h hf).1
   unfold removeL;rw[hf];exact this
 rw[if_neg k2] at hs ⊢
 by_cases k3:e.kind=3
 ·rw[if_pos k3] at hs ⊢;exact move_inv h hs
 rw[if_neg k3] at hs ⊢
 by_cases k4:e.kind=4
 ·rw[if_pos k4] at hs ⊢;exact chg_inv h (fun f=>paint_good) hs
 rw[if_neg k4] at hs ⊢
 by_cases k5:e.kind=5
 ·rw[if_pos k5] at hs ⊢;exact chg_inv h (fun f=>look_good) hs
 rw[if_neg k5] at hs ⊢
 by_cases k6:e.kind=6
 ·rw[if_pos k6] at hs ⊢;exact chg_inv h (fun f=>hide_good) hs
 rw[if_neg k6] at hs ⊢
 by_cases k7:e.kind=7
 ·rw[if_pos k7] at hs ⊢;exact chg_inv h (fun f=>mask_good h.size) hs
 rw[if_neg k7] at hs ⊢
 by_cases k8:e.kind=8
 ·rw[if_pos k8] at hs ⊢;exact chg_inv h (fun f=>place_good) hs
 rw[if_neg k8] at hs ⊢
 by_cases k9:e.kind=9
 ·rw[if_pos k9] at hs ⊢;exact chg_inv h (fun f=>adjust_good) hs
 ·rw[if_neg k9] at hs;simp at hs
theorem do_next{D:DocL}{e:Ed}(h0:(doD D e).1=0):D.next≤(doD D e).2.next∧(doD D e).2.next≤D.next+1∧(doD D e).2.w=D.w∧(doD D e).2.h=D.h:=by
 unfold doD at h0 ⊢
 by_cases hd:(doL D.w D.h D.next D.ks e).1≠0
 ·rw[if_pos hd] at h0;exact absurd h0 hd
 rw[if_neg hd]
 unfold doL at hd ⊢
 by_cases hk:e.kind<1∨e.kind>9
 ·rw[if_pos hk] at hd;simp at hd
 rw[if_neg hk] at hd ⊢
 by_cases hs:(stepL D.w D.h D.next D.ks e).1≠0
 ·rw[if_pos hs] at hd;exact absurd hs hd
 rw[if_neg hs]
 refine⟨?_,?_,rfl,rfl⟩<;>(show _;unfold nextL;split<;>simp<;>omega)
end Go.Proofs
namespace Go.Proofs
open Go.Sh
variable {H0 H:Heap} {σ:List Rs} {R:Value→Heap→Prop}
def DocR(H:Heap)(A:Array Value)(D:DocL):Prop:= ∃K ks,A=docA D.w D.h D.next K∧grp H K ks∧layKs ks=D.ks
theorem DocR.ext{H H':Heap}{A:Array Value}{D:DocL}(h:DocR H A D)(he:Ext H H'):DocR H' A D:=let ⟨K,ks,h1,h2,h3⟩:=h;⟨K,ks,h1,h2.ext he,h3⟩
theorem DocR.size{H:Heap}{A:Array Value}{D:DocL}(h:DocR H A D):A.size=4:=by obtain⟨K,ks,rfl,_⟩:=h;rfl
theorem DocR.one{H:Heap}{A:Array Value}{D:DocL}(h:DocR H A D): ∀v∈A.toList,v.oneCell'=true:=by obtain⟨K,ks,rfl,_⟩:=h;exact docA_one _ _ _ _
theorem DocR.zero(H:Heap):DocR H (docA 0 0 0 .nil) zeroD:=⟨.nil,[],rfl,grp.nil H,rfl⟩
theorem DocR.new(H:Heap)(w h:Int):DocR H (docA w h 1 .nil) ⟨w,h,1,[]⟩:=⟨.nil,[],rfl,grp.nil H,rfl⟩
def zeroF:LayF:=⟨0,0,false,0,0,0,0,[],[],⟨0,0,0,0,0,0⟩,false,0,[]⟩
def findL(D:List Lay)(id:Int):Option Lay:=
 match flK [] [] id D with
 |some (fr::_,ks)=>some (.mk fr.f ks)
 |_=>none
def LayR(H:Heap)(A:Array Value)(l:Lay):Prop:= ∃t,A=(cellsT t).toArray∧rdT H t∧layT t=l
theorem LayR.ext{H H':Heap}{A:Array Value}{l:Lay}(h:LayR H A l)(he:Ext H H'):LayR H' A l:=let ⟨t,h1,h2,h3⟩:=h;⟨t,h1,rdT.ext he t h2,h3⟩
theorem LayR.zero(H:Heap):LayR H (cellsL zeroF Sl3.nil.v Sl3.nil.v Sl3.nil.v Sl3.nil.v).toArray (.mk zeroF []):=by
 refine⟨.mk zeroF .nil .nil .nil .nil [],rfl,?_,rfl⟩
 rw[rdT]
 exact⟨⟨rfl,fun i v h=>by simp[zeroF,ints] at h⟩,⟨rfl,fun i v h=>by simp[zeroF,kints] at h⟩,⟨rfl,fun i v h=>by simp[zeroF,ints] at h⟩,grp.nil H⟩
end Go.Proofs
namespace Go.Proofs
open Go.Sh
variable {H0 H:Heap} {σ:List Rs} {R:Value→Heap→Prop}
end Go.Proofs
namespace Go.Proofs
open Go.Sh
variable {H0 H:Heap} {σ:List Rs} {R:Value→Heap→Prop}
def ed0(kind id to at_ n m x y w h:Int):Ed:=⟨kind,id,to,at_,n,m,x,y,w,h,[],[],zeroM,[]⟩
end Go.Proofs
namespace Go.Sh
variable {H0 H H':Heap} {σ τ:List Rs}
def starAll:List Rs→Rs
 |[]=> .emp
 |r::l=> .star r (starAll l)
theorem St.unpackAll: ∀(l:List Rs) {σ:List Rs},St H0 H (starAll l::σ)→St H0 H (l++σ)
 |[],σ,hs=>hs.tail
 |r::l,σ,hs=>by
  have h1:St H0 H (l++(r::σ)):=St.unpackAll l hs.cut.swap
  exact h1.perm List.perm_middle
end Go.Sh
namespace Go.Proofs
open Go.Sh
variable {H0 H:Heap} {σ:List Rs} {R:Value→Heap→Prop}
def docRs(A:Array Value)(D:DocL):Rs:= .ex fun(x:Sl3×List T)=> .pu (A=docA D.w D.h D.next x.1∧layKs x.2=D.ks) (starAll (resG x.1 x.2))
theorem St_docOut{A:Array Value}{D:DocL}(hs:St H0 H (docRs A D::σ)): ∃K ks,A=docA D.w D.h D.next K∧layKs ks=D.ks∧St H0 H (resG K ks++σ):=by
 obtain⟨⟨K,ks⟩,h1⟩:=St.unex hs
 obtain⟨⟨h2,h3⟩,h4⟩:=St.fact h1
 exact⟨K,ks,h2,h3,St.unpackAll _ h4⟩
theorem _root_.Go.Sh.St.doc(hs:St H0 H σ)(i:Nat){A:Array Value}{D:DocL}(hi:σ[i]?=some (docRs A D)):DocR H A D:=by
 obtain⟨K,ks,h1,h2,h3⟩:=St_docOut (hs.front i hi)
 exact⟨K,ks,h1,h3.grp,h2⟩
end Go.Proofs
namespace Go.Proofs
open Go.Sh
variable {H0 H:Heap} {σ:List Rs} {R:Value→Heap→Prop}
def layRs(B:Array Value)(l:Lay):Rs:= .ex fun(t:T)=> .pu (B=(cellsT t).toArray∧layT t=l) (starAll (resT t))
theorem _root_.Go.Sh.St.lay(hs:St H0 H σ)(i:Nat){B:Array Value}{l:Lay}(hi:σ[i]?=some (layRs B l)):LayR H B l:=by
 obtain⟨t,h1⟩:=St.unex (hs.front i hi)
 obtain⟨⟨h2,h3⟩,h4⟩:=St.fact h1
 exact⟨t,h2,St.rdT t (St.unpackAll _ h4),h3⟩
theorem LayR.size{H:Heap}{B:Array Value}{l:Lay}(h:LayR H B l):B.size=19:=by obtain⟨t,rfl,_⟩:=h;simp[cellsT_len]
theorem LayR.one{H:Heap}{B:Array Value}{l:Lay}(h:LayR H B l): ∀v∈B.toList,v.oneCell'=true:=by obtain⟨t,rfl,_⟩:=h;simpa using cellsT_one t
end Go.Proofs
