/-
  OWN WORK. Several texts in one: TsRigB, LvE, EdF, EdG, EdH, EdI, EdJ, EdK, TileR, TileX, EdL, EdM.
-/
import Derived.Test.YthigcnljndbmnaaGreatMgEditorGroupsI
import Derived.Test.YthigcnljndbmnaaGreatMgEditorGroupsE
import Derived.Test.YthigcnljndbmnaaGreatMgEditorGroupsF
import Derived.Test.YthigcnljndbmnaaGreatMgEditorGroupsH
import Derived.Test.YthigcnljndbmnaaGreatMgEditorGroupsC
import Derived.Test.YthigcnljndbmnaaGreatMgEditorGroupsD

set_option linter.unusedVariables false
set_option linter.unusedSimpArgs false
set_option maxRecDepth 10000
namespace Go.Proofs
open Go.Sh
variable {H0 H:Heap} {σ:List Rs} {R:Value→Heap→Prop}
end Go.Proofs
namespace Go.Proofs
open Go.Sh
variable {H0 H:Heap} {σ:List Rs} {R:Value→Heap→Prop}
def quietB(D E:DocL)(id:Int):Bool:=(!(findL D.ks id).isSome||unseenL D.ks id)&&(!(findL E.ks id).isSome||unseenL E.ks id)
def boxB(x0 x1 y0 y1:Int)(k:Ky):Bool:=decide (x0<x1∧(x0/16≤k.1∧k.1*16<x1)∧y0<y1∧y0/16≤k.2∧k.2*16<y1)
def boxE(e:Ed)(f:LayF)(E:DocL):Ky→Bool:=boxB (max 0 e.x) (min (min (e.x+e.w) f.w) E.w) (max 0 e.y) (min (min (e.y+e.h) f.h) E.h)
def keptL(D E:DocL)(e:Ed)(ks:List Ky):List Ky:=
 if quietB D E (tgtL E e)=true then ks else match findL E.ks (tgtL E e) with
  |some l=>if e.kind=4∧l.f.map=oneM then ks.filter fun k=> !boxE e l.f E k else[]
  |none=>[]
def LvS.doE(s:LvS)(e:Ed):Int×LvS:=if (doD s.D e).1≠0 then((doD s.D e).1,s) else(0,⟨(doD s.D e).2,keptL s.D (doD s.D e).2 e s.ks,s.n⟩)
theorem kept_sub{D E:DocL}{e:Ed}{ks:List Ky}:(keptL D E e ks).Sublist ks:=by
 unfold keptL
 split
 ·exact List.Sublist.refl _
 split
 ·split
  ·exact List.filter_sublist
  ·exact List.nil_sublist _
 ·exact List.nil_sublist _
theorem LvOk.doE{s:LvS}(ok:LvOk s)(e:Ed):LvOk (s.doE e).2:=by
 unfold LvS.doE
 split
 ·exact ok
 ·rename_i h0
  have h0:=Decidable.byContradiction h0
  obtain⟨_,_,hw,hh⟩:=do_next h0
  refine⟨do_inv ok.inv h0,kept_sub.nodup ok.nodup,fun k hk=>?_,?_⟩
  ·have:=ok.keys k (kept_sub.subset hk)
   unfold KeyOk at this ⊢
   show(0≤k.1∧k.1*16<(doD s.D e).2.w)∧0≤k.2∧k.2*16<(doD s.D e).2.h
   rw[hw,hh];exact this
  ·have:=ok.len
   have h2:=(kept_sub (D:=s.D) (E:=(doD s.D e).2) (e:=e) (ks:=s.ks)).length_le
   show((keptL s.D (doD s.D e).2 e s.ks).length:Int)≤s.n
   omega
end Go.Proofs
namespace Go.Sh
variable {H0 H:Heap} {σ:List Rs}
theorem St.fb(hs:St H0 H σ)(i:Nat){r:Rs}(hi:σ[i]?=some r):St H0 H (r::σ.eraseIdx i)∧ ∀{H':Heap} (τ:List Rs) (r':Rs),St H0 H' (τ++r'::σ.eraseIdx i)→St H0 H' (τ++σ.set i r'):=
 ⟨hs.front i hi,fun τ r' h=>by
  obtain⟨h1,fps,hl,hn,hb⟩:=h
  obtain⟨a,b,e,ha,hb'⟩:=hl.split
  have h2:St H0 _ (r'::σ.eraseIdx i):=St.app (σ:=τ) ⟨h1,fps,hl,hn,hb⟩|>.2
  refine St.perm ⟨h1,fps,hl,hn,hb⟩ (List.Perm.append_left τ ?_)
  have: ∀(l:List Rs) (i:Nat),l[i]?=some r→(r'::l.eraseIdx i).Perm (l.set i r'):=by
   intro l
   induction l with
   |nil=>intro i h;simp at h
   |cons x l ih=>
    intro i h
    cases i with
    |zero=>exact List.Perm.refl _
    |succ i=>exact(List.Perm.swap _ _ _).trans ((ih i (by simpa using h)).cons x)
  exact this σ i hi⟩
end Go.Sh
namespace Go.Proofs
open Go.Sh
variable {H0 H:Heap} {σ:List Rs} {R:Value→Heap→Prop}
def mapsV(l:List Nat):List Value:=l.map fun m=> .map (some m)
def shSl(P:Sl3)(l:List Nat):Rs:= .ex fun(Q:Sl3)=> .pu (Q=P∨Q= .nil∧P.l=0∧P.c=0) (.sl Q.p Q.l Q.c 65 1 (mapsV l))
structure RlFit(r:RlS)(n:Nat):Prop where
 ok:RlOk r
 up:r.down=false
 left:r.left= -1
 fit:(r.b.length:Int)+n≤r.cap
def RlS.more(r:RlS)(x:List Int):RlS:={r with b:=r.b++x}
theorem app_fit{r:RlS}{x:List Int}(h:RlFit r x.length):r.app x=(0,r.more x):=by
 have h1:=h.fit
 have h2:(r.more x).step=r.more x:=by
  unfold RlS.step
  rw[if_neg (by show ¬r.left>0;rw[h.left];decide),if_neg (by show ¬r.left=0;rw[h.left];decide)]
 unfold RlS.app
 rw[if_neg (by rw[h.up];decide),if_neg (by omega)]
 show(if (r.more x).step.down=true then 11 else 0,(r.more x).step)=_
 rw[h2,if_neg (by show ¬r.down=true;rw[h.up];decide)]
theorem RlFit.more{r:RlS}{x:List Int}{n:Nat}(h:RlFit r (x.length+n))(hx:Bys x):RlFit (r.more x) n:=by
 have h1:=h.fit
 have h2:RlFit r x.length:=⟨h.ok,h.up,h.left,by omega⟩
 refine⟨?_,h.up,h.left,?_⟩
 ·have:=h.ok.app hx
  rw[app_fit h2] at this;exact this
 ·show((r.b++x).length:Int)+n≤r.cap
  rw[List.length_append];omega
theorem RlFit.mono{r:RlS}{n m:Nat}(h:RlFit r n)(hm:m≤n):RlFit r m:=⟨h.ok,h.up,h.left,by have:=h.fit;omega⟩
structure EB where
 xb:Nat
 hb:Nat
 lb:Nat
 ab:Nat
 w:Int
 hh:Int
 tiles:Int
 P:Sl3
 F:Sl3
 now:Nat
 past:List Nat
 fut:List Nat
 h:HL
 lv:LvS
 s:TS
 ms:List Shf
def EB.A(x:EB)(j:Option Addr):Array Value:=#[.int .i64 x.w,.int .i64 x.hh,.int .i64 x.tiles,.pointer (some ⟨x.hb,0,none⟩),.pointer (some ⟨x.lb,0,none⟩),.pointer j,.pointer (some ⟨x.ab,0,none⟩),.map (some x.now),x.P.v,x.F.v]
def EB.rs(x:EB)(j:Option Addr):List Rs:=[.cell x.xb (x.A j) 68,shSl x.P x.past,shSl x.F x.fut,arRs x.tiles x.s x.ms,histRs x.hb x.h,lvRs x.lb x.lv]
end Go.Proofs
namespace Go.Proofs
open Go.Sh
variable {H0 H:Heap} {σ:List Rs} {R:Value→Heap→Prop}
end Go.Proofs
namespace Go.Proofs
open Go.Sh
variable {H0 H:Heap} {σ:List Rs} {R:Value→Heap→Prop}
structure XOk(n:Nat)(x:EB):Prop where
 h:HOk n x.h
 small:n≤1000
 lv:LvOk x.lv
 doc:x.lv.D=x.h.now
 len:x.past.length≤n
 fut:x.fut=[]
 hfut:x.h.fut=[]
def EB.done(x:EB)(e:Ed)(Q:Sl3)(m:Nat)(s:TS)(acc:List (Int×Nat)):EB:={x with P:=Q,F:= .nil,fut:=[],now:=m,past:=x.past++[x.now],h:=(doH x.h e).2,lv:=(x.lv.doE e).2,s:=s,ms:=x.ms++[(m,acc)]}
end Go.Proofs
namespace Go.Proofs
open Go.Sh
variable {H0 H:Heap} {σ:List Rs} {R:Value→Heap→Prop}
end Go.Proofs
namespace Go.Proofs
open Go.Sh
variable {cap:Int} {s:TS}
structure Bare(w h:Int)(A:Nat)(s:TS):Prop where
 a:s.A=A
 ts:s.ts=[]
 pl: ∀p∈s.pls,p.en=[]∧p.w=w∧p.h=h
def Refer(es:List (Int×Nat))(s:TS):Prop:= ∀z∈es,∃p∈s.pls,p.b=z.2
end Go.Proofs
namespace Go.Proofs
open Go.Sh
variable {H0 H:Heap} {σ:List Rs} {R:Value→Heap→Prop}
def gE(k:Nat):Ed:=ed0 1 0 0 (-1) (Int.tmod k 3) 0 0 0 20 20
def gK:Nat→List Lay
 |0=>[]
 |k+1=>gK k++[.mk (newL ((k:Int)+1) (gE k)) []]
def gD(k:Nat):DocL:=⟨3,3,(k:Int)+1,gK k⟩
structure GI(k:Nat)(x:EB):Prop where
 ok:XOk k x
 doc:x.h.now=gD k
 hpast:x.h.past=(List.range k).map gD
 plen:x.past.length=k
 bare:Bare 20 20 x.ab x.s
 free:x.s.free=0
 pln:x.s.pls.length≤k*12
 now: ∃old,(x.now,old)∈x.ms∧Refer old x.s
theorem XOk.done{n:Nat}{x:EB}{e:Ed}(hx:XOk n x)(hn:n<1000)(he0:(doD x.h.now e).1=0)(Q:Sl3)(m:Nat)(s:TS)(acc:List (Int×Nat)):XOk (n+1) (x.done e Q m s acc):=by
 have hd:doH x.h e=(0,⟨(doD x.h.now e).2,x.h.past++[x.h.now],[]⟩):=by unfold doH;rw[if_pos he0]
 have hl:(x.lv.doE e).2.D=(doD x.h.now e).2:=by
  unfold LvS.doE
  rw[hx.doc,if_neg (by rw[he0];simp)]
 refine⟨hx.h.doH e,hn,hx.lv.doE e,?_,?_,rfl,?_⟩
 ·show(x.lv.doE e).2.D=(doH x.h e).2.now
  rw[hl,hd]
 ·show(x.past++[x.now]).length≤_
  have:=hx.len
  rw[List.length_append,List.length_singleton];omega
 ·show(doH x.h e).2.fut=[]
  rw[hd]
structure GU(n t:Nat)(x:EB):Prop where
 h:HOk n x.h
 doc:x.h.now=gD (n-t)
 hpast:x.h.past=(List.range (n-t)).map gD
 plen:x.past.length=n-t
 flen:x.fut.length=t
 a:x.s.A=x.ab
 free:x.s.free=0
end Go.Proofs
namespace Go.Tile
def putAll(k:Nat)(cs:List (Int×Int))(v:Int)(j:Nat)(X Y w:Int):Int:=if j=k∧(X,Y)∈cs then v else w
structure Painted(cap:Int)(k:Nat)(v:Int)(s:St)(p:Pl)(cs:List (Int×Int))(s':St)(p':Pl):Prop where
 pk:s'.pls[k]?=some p'
 ok:Ok cap s'
 views:Views s s' (putAll k cs v)
 free:s'.free=s.free-(needKeys s p v cs []).length
 oth: ∀j,j≠k→s'.pls[j]?=s.pls[j]?
 like:Like p p'
 keep: ∀K L,(K,L)∉needKeys s p v cs []→tileOf p'.en K L=tileOf p.en K L
 new: ∀K L,(K,L)∈needKeys s p v cs []→ ∃n,tileOf p'.en K L=some n∧n∉s.ts.map (·.1)
 keys: ∀t,t∈s.ts.map (·.1)→t∈s'.ts.map (·.1)
theorem painted{cap:Int}{k:Nat}{v:Int}(hv:0≤v∧v<4294967296){s s':St}{cs:List (Int×Int)}(hp:Paints k v s cs s'): ∀{p:Pl},Ok cap s→s.pls[k]?=some p→ ∃p',Painted cap k v s p cs s' p':=by
 induction hp with
 |nil s=>
  intro p hok hk
  exact⟨p,hk,hok,(Views.refl s).eq (fun j X Y w=>by simp[putAll]),by simp[needKeys],fun _ _=>rfl,Like.refl p,fun _ _ _=>rfl,fun K L h=>by simp[needKeys] at h,fun t h=>h⟩
 | @same s s' p0 x y r hk0 hhas hpx hr ih=>
  intro p hok hk
  have hpp:p=p0:=by rw[hk] at hk0;exact Option.some.inj hk0
  subst hpp
  obtain⟨p',h⟩:=ih hok hk
  have hnk:needKeys s p v ((x,y)::r) []=needKeys s p v r []:=by
   rw[needKeys,if_neg (fun hh=>hh.1 hpx)]
  refine⟨p',h.pk,h.ok,⟨h.views.A,h.views.len,fun j q hq=>?_⟩,by rw[hnk];exact h.free,h.oth,h.like,fun K L hh=>h.keep K L (hnk▸hh),fun K L hh=>h.new K L (hnk▸hh),h.keys⟩
  obtain⟨q',h1,h2,h3⟩:=h.views.pl j q hq
  refine⟨q',h1,h2,fun X Y=>?_⟩
  rw[h3]
  unfold putAll
  by_cases hc:j=k∧(X,Y)∈r
  ·rw[if_pos hc,if_pos ⟨hc.1,List.mem_cons_of_mem _ hc.2⟩]
  ·rw[if_neg hc]
   by_cases hc':j=k∧(X,Y)∈(x,y)::r
   ·rw[if_pos hc']
    obtain⟨hj,hm⟩:=hc'
    rcases List.mem_cons.1 hm with hm|hm
    ·cases hm
     subst hj
     rw[hk] at hq;cases hq
     exact hpx
    ·exact absurd ⟨hj,hm⟩ hc
   ·rw[if_neg hc']
 | @wrote s s1 s' p0 x y r hk0 hhas hpx hw hr ih=>
  intro p hok hk
  have hpp:p=p0:=by rw[hk] at hk0;exact Option.some.inj hk0
  subst hpp
  obtain⟨p1,st⟩:=wrote_step hok hk hw
  have hok1:=wrote_ok hok hk hv hw
  have hv1:=wrote_views hok hk hhas hw
  obtain⟨p',h⟩:=ih hok1 st.pk
  have hlen:=needKeys_step hok hk hhas hpx hw st.pk r
  have hpx1: ∀X Y,pxAt s1 p1 X Y=put1 k x y v k X Y (pxAt s p X Y):=by
   obtain⟨q',hq',_,h3⟩:=hv1.pl k p hk
   rw[st.pk] at hq';cases hq'
   exact h3
  have m1:=mem_needKeys s1 p1 v r []
  have m2:=mem_needKeys s p v ((x,y)::r) []
  -- a key is taken in the whole just if it is taken now,or by the rest
  have hmem: ∀K L,(K,L)∈needKeys s p v ((x,y)::r) []↔((needs s p (x/16) (y/16)=true∧K=x/16∧L=y/16)∨(K,L)∈needKeys s1 p1 v r []):=by
   intro K L
   rw[m1,m2]
   simp only[List.not_mem_nil,false_or]
   constructor
   ·rintro⟨c,hc,hh,heq⟩
    simp only[Prod.mk.injEq] at heq
    by_cases hK:K=x/16∧L=y/16
    ·refine .inl ⟨?_,hK⟩
     have:=hh.2
     rw[←heq.1,←heq.2,hK.1,hK.2] at this
     exact this
    ·rcases List.mem_cons.1 hc with rfl|hc
     ·exact absurd heq hK
     ·refine .inr ⟨c,hc,⟨?_,?_⟩,by rw[heq.1,heq.2]⟩
      ·rw[hpx1]
       unfold put1
       rw[if_neg (fun h'=>hK (by rw[heq.1,heq.2,h'.2.1,h'.2.2];exact⟨rfl,rfl⟩))]
       exact hh.1
      ·rw[st.need,hh.2]
       have hb:(c.1/16==x/16&&c.2/16==y/16)=false:=by
        rw[←Bool.not_eq_true,Bool.and_eq_true,beq_iff_eq,beq_iff_eq,←heq.1,←heq.2];exact hK
       rw[hb];rfl
   ·rintro(⟨hn,rfl,rfl⟩|⟨c,hc,hh,heq⟩)
    ·exact⟨(x,y),List.mem_cons_self,⟨hpx,hn⟩,rfl⟩
    ·refine⟨c,List.mem_cons_of_mem _ hc,⟨?_,?_⟩,heq⟩
     ·have:=hh.1
      rw[hpx1] at this
      unfold put1 at this
      by_cases hxy:c.1=x∧c.2=y
      ·rw[if_pos ⟨rfl,hxy.1,hxy.2⟩] at this;exact absurd rfl this
      ·rwa [if_neg (fun h'=>hxy ⟨h'.2.1,h'.2.2⟩)] at this
     ·have:=hh.2
      rw[st.need,Bool.and_eq_true] at this
      exact this.1
  refine⟨p',h.pk,h.ok,?_,?_,fun j hj=>(h.oth j hj).trans (st.oth j hj),st.like.trans h.like,fun K L hh=>?_,fun K L hh=>?_,fun t ht=>h.keys t (st.keys t ht)⟩
  ·refine(hv1.trans h.views).eq fun j X Y w=>?_
   unfold putAll put1
   by_cases hj:j=k
   ·by_cases hm:(X,Y)∈r
    ·rw[if_pos ⟨hj,hm⟩,if_pos ⟨hj,List.mem_cons_of_mem _ hm⟩]
    ·rw[if_neg (fun h'=>hm h'.2)]
     by_cases hxy:X=x∧Y=y
     ·rw[if_pos ⟨hj,hxy.1,hxy.2⟩,if_pos ⟨hj,by rw[hxy.1,hxy.2];exact List.mem_cons_self⟩]
     ·rw[if_neg (fun h'=>hxy ⟨h'.2.1,h'.2.2⟩),if_neg (fun h'=>?_)]
      rcases List.mem_cons.1 h'.2 with h'|h'
      ·cases h';exact hxy ⟨rfl,rfl⟩
      ·exact hm h'
   ·rw[if_neg (fun h'=>hj h'.1),if_neg (fun h'=>hj h'.1),if_neg (fun h'=>hj h'.1)]
  ·rw[h.free,st.free]
   split at hlen<;>rename_i hn
   ·rw[if_pos hn];omega
   ·rw[if_neg hn];omega
  ·have hh':=fun h'=>hh ((hmem K L).2 h')
   rw[h.keep K L (fun h'=>hh' (.inr h'))]
   obtain⟨n,_,hn⟩:=st.tile
   rw[hn,if_neg (fun h'=>hh' (.inl h'))]
  ·by_cases hr':(K,L)∈needKeys s1 p1 v r []
   ·obtain⟨n,hn1,hn2⟩:=h.new K L hr'
    exact⟨n,hn1,fun h'=>hn2 (st.keys n h')⟩
   ·have hl:=((hmem K L).1 hh).resolve_right hr'
    obtain⟨n,hn1,hn2⟩:=st.tile
    refine⟨n,?_,hn1 hl.1⟩
    rw[h.keep K L hr',hn2,if_pos hl]
end Go.Tile
namespace Go.Proofs
open Go.Sh Go.Tile
end Go.Proofs
namespace Go.Proofs
open Go.Sh
variable {H0 H:Heap} {σ:List Rs} {R:Value→Heap→Prop}
structure Shown(A:Nat)(s:TS)(b:Nat):Prop where
 a:s.A=A
 ok:Go.Tile.Ok 1 s
 len:s.pls.length≤100
 pl: ∃p∈s.pls,p.b=b∧p.w=4∧p.h=4∧ ∀X Y,Go.Tile.pxAt s p X Y=if X=0∧Y=0 then 255 else 0
end Go.Proofs
namespace Go.Proofs
open Go.Sh
variable {H0 H:Heap} {σ:List Rs} {R:Value→Heap→Prop}
end Go.Proofs
