/-
  OWN WORK. Several texts in one: RnF, RnG, RnH, RnI, RnJ, TtL, TtM, RnK, TsBackP, RnL, RnGroups, RnM, LvA, LvB.
-/
import Derived.Test.YthigcnljndbmnaaGreatMgEditorGroupsH
import Derived.Test.YthigcnljndbmnaaGreatMgEditorGroupsF
import Derived.Test.YthigcnljndbmnaaGreatMgEditorGroupsG

set_option linter.unusedVariables false
set_option linter.unusedSimpArgs false
set_option maxRecDepth 10000
namespace Go.Proofs
open Go.Sh
variable {H0 H:Heap} {σ:List Rs} {R:Value→Heap→Prop}
structure MapOk(m:M6):Prop where
 ok:((-16777216≤m.a∧m.a≤16777216)∧(-16777216≤m.b∧m.b≤16777216)∧(-16777216≤m.c∧m.c≤16777216)∧(-16777216≤m.d∧m.d≤16777216)∧(-68719476736≤m.e∧m.e≤68719476736)∧(-68719476736≤m.f∧m.f≤68719476736))
def partP(f:LayF)(at_:Int):Int:=if f.mask.length=0 then f.opacity else mulP f.opacity (f.mask.getD at_.toNat 0)
def overP(f:LayF)(g s out:Int):Int:=if s≠0∧g>0 then joinP (blendP f.mode (fadeP (spl s) g) (spl out)) else out
def adjustP(f:LayF)(g out:Int):Int:=joinP (adjP (tabL f.table f.params) g (spl out))
def seenP(f:LayF)(x y:Int):Int:=atP f.w f.h f.p (backM f.map).2 x y f.smooth
mutual
def layPx(W x y:Int):Lay→Int→Int
 | .mk f ks,out=>if f.hidden=true then out else if f.kind=2 then adjustP f (partP f (y*W+x)) out else overP f (partP f (y*W+x)) (if f.kind=0 then seenP f x y else lsPx W x y ks 0) out
def lsPx(W x y:Int):List Lay→Int→Int
 |[],out=>out
 |t::ts,out=>lsPx W x y ts (layPx W x y t out)
end
theorem lsPx_app(W x y:Int): ∀(a b:List Lay) (out:Int),lsPx W x y (a++b) out=lsPx W x y b (lsPx W x y a out)
 |[],b,out=>by rw[List.nil_append,lsPx]
 |t::a,b,out=>by rw[List.cons_append,lsPx,lsPx,lsPx_app W x y a b]
end Go.Proofs
namespace Go.Proofs
open Go.Sh
variable {H0 H:Heap} {σ:List Rs} {R:Value→Heap→Prop}
structure Pn where
 W:Int
 hd:Int
 next:Int
 K:Sl3
 x:Int
 y:Int
 w:Int
 h:Int
def Pn.A(p:Pn):Array Value:=#[.int .i64 p.W,.int .i64 p.hd,.int .i64 p.next,p.K.v,.int .i64 p.x,.int .i64 p.y,.int .i64 p.w,.int .i64 p.h]
structure PnOk(p:Pn):Prop where
 W:0≤p.W∧p.W≤32768
 hd:0≤p.hd∧p.hd≤32768
 x:0≤p.x
 y:0≤p.y
 w:0≤p.w∧p.x+p.w≤p.W
 h:0≤p.h∧p.y+p.h≤p.hd
def Pn.n(p:Pn):Nat:=(p.w*p.h).toNat
def Pn.X(p:Pn)(i:Nat):Int:=p.x+(i:Int)%p.w
def Pn.Y(p:Pn)(i:Nat):Int:=p.y+(i:Int)/p.w
theorem PnOk.area{p:Pn}(hp:PnOk p):0≤p.w*p.h∧p.w*p.h≤1073741824:=by
 have h1:=hp.w;have h2:=hp.h;have h3:=hp.W;have h4:=hp.hd;have h5:=hp.x;have h6:=hp.y
 have:=mul_bd (x:=p.w) (y:=p.h) (A:=32768) (B:=32768) (by omega) (by omega)
 exact⟨Int.mul_nonneg h1.1 h2.1,by omega⟩
theorem PnOk.n{p:Pn}(hp:PnOk p):(p.n:Int)=p.w*p.h:=by have:=hp.area;unfold Pn.n;omega
theorem PnOk.at{p:Pn}(hp:PnOk p){i:Nat}(hi:i<p.n):0<p.w∧(0≤p.X i∧p.X i<p.W)∧(0≤p.Y i∧p.Y i<p.hd)∧(0≤(i:Int)%p.w∧(i:Int)%p.w<p.w)∧(0≤(i:Int)/p.w∧(i:Int)/p.w<p.h):=by
 have hn:=hp.n
 have h1:=hp.w;have h2:=hp.h;have h5:=hp.x;have h6:=hp.y
 have hw:0<p.w:=by
  by_cases h:0<p.w
  ·exact h
  ·have:p.w=0:=by omega
   rw[this,Int.zero_mul] at hn;omega
 have e1:=Int.emod_nonneg (i:Int) (show p.w≠0 by omega)
 have e2:=Int.emod_lt_of_pos (i:Int) hw
 have e3:0≤(i:Int)/p.w:=Int.ediv_nonneg (by omega) (by omega)
 have e4:(i:Int)/p.w<p.h:=Int.ediv_lt_of_lt_mul hw (by rw[Int.mul_comm];omega)
 unfold Pn.X Pn.Y
 omega
theorem PnOk.place{p:Pn}(hp:PnOk p){i:Nat}(hi:i<p.n):0≤p.Y i*p.W+p.X i∧p.Y i*p.W+p.X i<p.W*p.hd:=by
 obtain⟨_,hx,hy,_,_⟩:=hp.at hi
 have hq:((p.W*p.hd).toNat:Int)=p.W*p.hd:=Int.toNat_of_nonneg (Int.mul_nonneg hp.W.1 hp.hd.1)
 have:=in_pic (n:=(p.W*p.hd).toNat) hq hx hy
 omega
end Go.Proofs
namespace Go.Proofs
open Go.Sh
variable {H0 H:Heap} {σ:List Rs} {R:Value→Heap→Prop}
def plL(p:Pn)(f:Nat→Int):List Int:=(List.range p.n).map f
end Go.Proofs
namespace Go.Proofs
open Go.Sh
variable {H0 H:Heap} {σ:List Rs} {R:Value→Heap→Prop}
def picL(p:Pn)(ls:List Lay):List Int:=plL p fun i=>lsPx p.W (p.X i) (p.Y i) ls 0
end Go.Proofs
namespace Go.Proofs
open Go.Sh
variable {H0 H:Heap} {σ:List Rs} {R:Value→Heap→Prop}
def regP(D:DocL)(x y w h:Int):Pn:=⟨D.w,D.h,0,.nil,x,y,w,h⟩
structure RegOk(D:DocL)(x y w h:Int):Prop where
 hx:0≤x
 hy:0≤y
 hw:0≤w∧w≤D.w-x
 hh:0≤h∧h≤D.h-y
theorem Inv.sides{D:DocL}(hi:Inv D):(1≤D.w∧D.w≤32768)∧(1≤D.h∧D.h≤32768):=by
 have:=hi.size
 unfold sizedB at this
 have:=of_decide_eq_true this
 omega
end Go.Proofs
namespace Go.Proofs
open Go.Sh
variable {H0 H:Heap} {σ:List Rs} {R:Value→Heap→Prop}
end Go.Proofs
namespace Go.Proofs
open Go.Sh
variable {H0 H:Heap} {σ:List Rs} {R:Value→Heap→Prop}
end Go.Proofs
namespace Go.Proofs
open Go.Sh
variable {H0 H:Heap} {σ:List Rs} {R:Value→Heap→Prop}
end Go.Proofs
namespace Go.Proofs
open Go.Sh
theorem fl_skip{id:Int}: ∀(A B:List Lay) (up:List FrL) (pre:List Lay),id∉idsKs A→flK up pre id (A++B)=flK up (pre++A) id B
 |[],B,up,pre,_=>by rw[List.nil_append,List.append_nil]
 |t::A,B,up,pre,h=>by
  rw[idsKs,List.mem_append,not_or] at h
  rw[List.cons_append,flK,(fl_none id t up pre (A++B)).2 h.1]
  simp only
  rw[fl_skip A B up (pre++[t]) h.2,List.append_assoc];rfl
theorem fl_desc{id:Int}{z:ZL}: ∀(u:List FrL) (L:List Lay),id∉idsUp u→flK u [] id L=some z→flK [] [] id (plugL u L)=some z
 |[],L,_,h=>h
 |g::u,L,hn,h=>by
  rw[idsUp,List.mem_cons,List.mem_append,List.mem_append,not_or,not_or,not_or] at hn
  obtain⟨h1,⟨h2,h3⟩,h4⟩:=hn
  rw[plugL]
  refine fl_desc u _ h4 ?_
  rw[fl_skip _ _ _ _ h2,flK,flT,if_neg fun hh=>h1 hh.symm,List.nil_append]
  rw[show(⟨g.pre,g.f,g.post⟩:FrL)=g from rfl,h]
theorem fl_at{fr:FrL}{u:List FrL}{ks:List Lay}(hi:Ids (plugL (fr::u) ks)):flK [] [] fr.f.id (plugL (fr::u) ks)=some (fr::u,ks):=by
 obtain⟨h0,h1,h2,h3,h4,_⟩:=hi.split
 rw[plugL]
 refine fl_desc u _ h2 ?_
 rw[fl_skip _ _ _ _ h3,flK,flT,if_pos rfl,List.nil_append]
theorem do_chg{D:DocL}{e:Ed}(hk:4≤e.kind∧e.kind≤9){fr:FrL}{u:List FrL}{ks:List Lay}(hf:flK [] [] e.id D.ks=some (fr::u,ks)):
 doD D e=(if (chgK D.w D.h e fr.f).1≠0 then((chgK D.w D.h e fr.f).1,zeroD) else(0,⟨D.w,D.h,D.next,plugL (⟨fr.pre,(chgK D.w D.h e fr.f).2,fr.post⟩::u) ks⟩)):=by
 obtain⟨h1,h2⟩:=doL_step (w:=D.w) (h:=D.h) (next:=D.next) (D:=D.ks) (e:=e) ⟨by omega,by omega⟩
 have hst:stepL D.w D.h D.next D.ks e=(if (chgK D.w D.h e fr.f).1≠0 then((chgK D.w D.h e fr.f).1,[]) else(0,plugL (⟨fr.pre,(chgK D.w D.h e fr.f).2,fr.post⟩::u) ks)):=by
  rw[step_chg hk];unfold chgL;rw[hf]
 rw[hst] at h1 h2
 unfold doD
 by_cases h0:(chgK D.w D.h e fr.f).1=0
 ·rw[if_neg (fun hh=>hh h0)] at h1 h2
  have hz: ¬(doL D.w D.h D.next D.ks e).1≠0:=by rw[h1];exact fun hh=>hh rfl
  rw[if_neg hz,if_neg (fun hh=>hh h0),h2 rfl]
  show(0,(⟨D.w,D.h,nextL D.next e,_⟩:DocL))=_
  rw[show nextL D.next e=D.next from by unfold nextL;rw[if_neg (by omega)]]
 ·rw[if_pos h0] at h1 h2
  have hz:(doL D.w D.h D.next D.ks e).1≠0:=by rw[h1];exact h0
  rw[if_pos hz,if_pos h0,h1]
end Go.Proofs
namespace Go.Proofs
open Go.Sh
theorem back_one:backM oneM=(0,oneM):=by decide+kernel
end Go.Proofs
namespace Go.Proofs
open Go.Sh
variable {H0 H:Heap} {σ:List Rs} {R:Value→Heap→Prop}
end Go.Proofs
namespace Go.Proofs
open Go.Sh
variable {H0 H:Heap} {σ:List Rs} {R:Value→Heap→Prop}
theorem lay_hidden{W x y:Int}{f:LayF}{ks:List Lay}{o:Int}(h:f.hidden=true):layPx W x y (.mk f ks) o=o:=by rw[layPx,if_pos h]
end Go.Proofs
namespace Go.Proofs
open Go.Sh
def hidU:List FrL→Bool
 |[]=>false
 |fr::u=>fr.f.hidden||hidU u
def unseenL(D:List Lay)(id:Int):Bool:=match flK [] [] id D with
 |some (u,_)=>hidU u
 |none=>false
theorem plug_eq{W x y:Int}{A B:List Lay}(h: ∀o,lsPx W x y A o=lsPx W x y B o): ∀(u:List FrL) o,lsPx W x y (plugL u A) o=lsPx W x y (plugL u B) o
 |[],o=>h o
 |fr::u,o=>plug_eq (A:=fr.pre++ .mk fr.f A::fr.post) (B:=fr.pre++ .mk fr.f B::fr.post) (fun o=>by
  rw[lsPx_app,lsPx_app,lsPx,lsPx]
  congr 1
  rw[layPx,layPx,h 0]) u o
theorem hid_gone{W x y:Int}: ∀{u:List FrL} {fr:FrL} {ks:List Lay},hidU (fr::u)=true→ ∀o,lsPx W x y (plugL (fr::u) ks) o=lsPx W x y (plugL u (fr.pre++fr.post)) o:=by
 have hid2: ∀{u:List FrL} {A B:List Lay},hidU u=true→ ∀o,lsPx W x y (plugL u A) o=lsPx W x y (plugL u B) o:=by
  intro u
  induction u with
  |nil=>intro A B h;cases h
  |cons g u ih=>
   intro A B h o
   rw[hidU,Bool.or_eq_true] at h
   rcases h with h|h
   ·exact plug_eq (A:=g.pre++ .mk g.f A::g.post) (B:=g.pre++ .mk g.f B::g.post) (fun o=>by rw[lsPx_app,lsPx_app,lsPx,lsPx,lay_hidden h,lay_hidden h]) u o
   ·exact ih (A:=g.pre++ .mk g.f A::g.post) (B:=g.pre++ .mk g.f B::g.post) h o
 intro u fr ks h o
 rw[hidU,Bool.or_eq_true] at h
 rcases h with h|h
 ·exact plug_eq (A:=fr.pre++ .mk fr.f ks::fr.post) (fun o=>by rw[lsPx_app,lsPx_app,lsPx,lay_hidden h]) u o
 ·exact hid2 (A:=fr.pre++ .mk fr.f ks::fr.post) h o
theorem found_some{D:List Lay}{id:Int}{fr:FrL}{u:List FrL}{ks:List Lay}(h:flK [] [] id D=some (fr::u,ks)):(findL D id).isSome=true∧unseenL D id=hidU (fr::u):=by
 unfold findL unseenL;rw[h];exact⟨rfl,rfl⟩
theorem do_kinds{D:DocL}{e:Ed}(h0:(doD D e).1=0):(1≤e.kind∧e.kind≤9)∧(stepL D.w D.h D.next D.ks e).1=0∧(doD D e).2=⟨D.w,D.h,nextL D.next e,(stepL D.w D.h D.next D.ks e).2⟩:=by
 unfold doD at h0 ⊢
 by_cases hd:(doL D.w D.h D.next D.ks e).1≠0
 ·rw[if_pos hd] at h0;exact absurd h0 hd
 rw[if_neg hd]
 unfold doL at hd ⊢
 by_cases hk:e.kind<1∨e.kind>9
 ·rw[if_pos hk] at hd;simp at hd
 rw[if_neg hk] at hd ⊢
 by_cases hs:(stepL D.w D.h D.next D.ks e).1≠0
 ·rw[if_pos hs] at hd;exact absurd hs hd
 rw[if_neg hs]
 exact⟨by omega,Decidable.byContradiction hs,rfl⟩
def tgtL(D:DocL)(e:Ed):Int:=if e.kind=1 then D.next-1 else e.id
theorem unseen_px{D:DocL}(hi:Inv D){e:Ed}(h0:(doD D e).1=0)(ha:(findL D.ks (tgtL (doD D e).2 e)).isSome=true→unseenL D.ks (tgtL (doD D e).2 e)=true)
 (hb:(findL (doD D e).2.ks (tgtL (doD D e).2 e)).isSome=true→unseenL (doD D e).2.ks (tgtL (doD D e).2 e)=true)(W x y o:Int):lsPx W x y (doD D e).2.ks o=lsPx W x y D.ks o:=by
 have hi2:=do_inv hi h0
 obtain⟨hk,hs,hd⟩:=do_kinds h0
 rw[hd] at ha hb hi2 ⊢
 have hids:=hi2.ids'
 simp only at ha hb hids ⊢
 clear hi2 hd h0
 unfold stepL at hs hb hids ⊢
 by_cases k1:e.kind=1
 ·rw[if_pos k1] at hs hb hids ⊢
  have ht:tgtL ⟨D.w,D.h,nextL D.next e,(addL D.next D.ks e).2⟩ e=D.next:=by unfold tgtL nextL;rw[if_pos k1,if_pos k1];show D.next+1-1=_;omega
  rw[ht] at hb
  unfold addL at hs hb hids ⊢
  split at hs
  ·simp at hs
  rename_i c1
  split at hs
  ·simp at hs
  rename_i c2
  split at hs
  ·rename_i c3;exact absurd hs c3
  rename_i c3
  split at hs
  ·rename_i c4;exact absurd hs c4
  rename_i c4
  split at hs
  ·simp at hs
  rename_i c5
  rw[if_neg c1,if_neg c2,if_neg c3,if_neg c4,if_neg c5] at hb hids ⊢
  have hho:=home_tri (Decidable.byContradiction c3)
  obtain⟨hp,_⟩:=home_cases D.ks e.to hho
  obtain⟨i,hi,hpu,hdp⟩:=put_ok (Decidable.byContradiction c4)
  rw[hpu] at hb hids ⊢
  have hf:=fl_at (fr:=⟨_,newL D.next e,_⟩) hids
  obtain⟨f1,f2⟩:=found_some hf
  have:=hid_gone (W:=W) (x:=x) (y:=y) (fr:=⟨_,newL D.next e,_⟩) (ks:=[]) (f2▸hb f1) o
  refine this.trans ?_
  simp only[List.take_append_drop]
  rw[hp]
 rw[if_neg k1] at hs hb hids ⊢
 have ht: ∀E:DocL,tgtL E e=e.id:=fun E=>by unfold tgtL;rw[if_neg k1]
 rw[ht] at ha hb
 rcases fl_cases e.id D.ks with hn|⟨fr,u,ks,hf,hid,hp⟩
 ·exfalso
  have hc: ∀g,(chgL g D.ks e.id).1≠0:=fun g=>by unfold chgL;rw[hn];show(40:Int)≠0;decide
  by_cases k2:e.kind=2
  ·rw[if_pos k2] at hs;unfold removeL at hs;rw[hn] at hs;simp at hs
  rw[if_neg k2] at hs
  by_cases k3:e.kind=3
  ·rw[if_pos k3] at hs;unfold moveL at hs;rw[hn] at hs;simp at hs
  rw[if_neg k3] at hs
  repeat' (split at hs)
  all_goals first|exact hc _ hs|simp at hs
 obtain⟨f1,f2⟩:=found_some hf
 have hgo: ∀o,lsPx W x y D.ks o=lsPx W x y (plugL u (fr.pre++fr.post)) o:=fun o=>by have:=hid_gone (W:=W) (x:=x) (y:=y) (ks:=ks) (f2▸ha f1) o;rw[hp] at this;exact this
 by_cases k2:e.kind=2
 ·rw[if_pos k2,hgo];unfold removeL;rw[hf]
 rw[if_neg k2] at hs hb hids ⊢
 by_cases k3:e.kind=3
 ·rw[if_pos k3] at hs hb hids ⊢
  unfold moveL at hs hb hids ⊢
  rw[hf] at hs hb hids ⊢
  simp only at hs hb hids ⊢
  split at hs
  ·rename_i c;exact absurd hs c
  rename_i c1
  split at hs
  ·simp at hs
  rename_i c2
  split at hs
  ·rename_i c;exact absurd hs c
  rename_i c3
  rw[if_neg c1,if_neg c2,if_neg c3] at hb hids ⊢
  have hho:=home_tri (Decidable.byContradiction c3)
  obtain⟨hp2,_⟩:=home_cases _ e.to hho
  obtain⟨i,hi,hpu,hdp⟩:=put_ok hs
  rw[hpu] at hb hids ⊢
  have hf2:=fl_at (fr:=⟨_,fr.f,_⟩) hids
  obtain⟨q1,q2⟩:=found_some hf2
  rw[←hid] at hb
  refine(hid_gone (W:=W) (x:=x) (y:=y) (fr:=⟨_,fr.f,_⟩) (ks:=ks) (q2▸hb q1) o).trans ?_
  simp only[List.take_append_drop]
  rw[hp2,hgo]
 rw[if_neg k3] at hs hb hids ⊢
 have fin: ∀g:LayF→Int×LayF,(∀f,(g f).2.id=f.id)→(chgL g D.ks e.id).1=0→Ids (chgL g D.ks e.id).2→((findL (chgL g D.ks e.id).2 e.id).isSome=true→unseenL (chgL g D.ks e.id).2 e.id=true)→lsPx W x y (chgL g D.ks e.id).2 o=lsPx W x y D.ks o:=by
  intro g hg hs hids hb
  unfold chgL at hs hb hids ⊢
  rw[hf] at hs hb hids ⊢
  simp only at hs hb hids ⊢
  split at hs
  ·rename_i c;exact absurd hs c
  rename_i c1
  rw[if_neg c1] at hb hids ⊢
  have hf2:=fl_at (fr:=⟨_,(g fr.f).2,_⟩) hids
  obtain⟨q1,q2⟩:=found_some hf2
  rw[←hid,←hg fr.f] at hb
  refine(hid_gone (W:=W) (x:=x) (y:=y) (fr:=⟨_,(g fr.f).2,_⟩) (ks:=ks) (q2▸hb q1) o).trans ?_
  rw[hgo]
 have hst:=step_chg (w:=D.w) (h:=D.h) (next:=D.next) (D:=D.ks) (e:=e) (by omega)
 unfold stepL at hst
 rw[if_neg k1,if_neg k2,if_neg k3] at hst
 rw[hst] at hs hb hids ⊢
 exact fin _ (fun f=>chgK_id D.w D.h e f) hs hids hb
theorem seen_at{f g:LayF}(hm:f.map=oneM)(hg:g={f with p:=g.p}){x y:Int}(h:picAt f.w f.h f.p x y=picAt f.w f.h g.p x y):seenP f x y=seenP g x y:=by
 rw[hg]
 unfold seenP atP
 simp only
 rw[hm,back_one]
 have e1:atU oneM.a oneM.b oneM.e x y=65536*x+32768:=by unfold atU oneM;simp only;omega
 have e2:atU oneM.c oneM.d oneM.f x y=65536*y+32768:=by unfold atU oneM;simp only;omega
 simp only[e1,e2]
 split
 ·have hw: ∀a b c d:Int,wsum a b c d 0 0=a:=fun a b c d=>by unfold wsum;simp only[Int.sub_zero,Int.mul_zero,Int.zero_mul,Int.add_zero];omega
  have i1:(65536*x+32768-32768)/65536=x:=by omega
  have i2:(65536*y+32768-32768)/65536=y:=by omega
  have s1:(65536*x+32768-32768)/256%256=0:=by omega
  have s2:(65536*y+32768-32768)/256%256=0:=by omega
  unfold smC
  simp only[i1,i2,s1,s2,hw,h]
 ·rw[show(65536*x+32768)/65536=x from by omega,show(65536*y+32768)/65536=y from by omega,h]
theorem paint_at{e:Ed}{W Hh:Int}{p:List Int}{x y:Int}(ho: ¬(e.x≤x∧x<e.x+e.w∧e.y≤y∧y<e.y+e.h)):picAt W Hh p x y=picAt W Hh (paintP e W p) x y:=by
 unfold picAt
 by_cases hb:x<0∨x≥W∨y<0∨y≥Hh
 ·rw[if_pos hb,if_pos hb]
 rw[if_neg hb,if_neg hb]
 have h1:0≤y*W:=Int.mul_nonneg (by omega) (by omega)
 unfold paintP
 by_cases hl:(y*W+x).toNat<p.length
 ·rw[tab_getD hl]
  have hin: ¬insideB e W (y*W+x).toNat=true:=fun hin=>by
   have hin:=of_decide_eq_true hin
   rw[show(((y*W+x).toNat:Nat):Int)=y*W+x from by omega] at hin
   rw[Int.add_comm,Int.add_mul_emod_self_right,Int.emod_eq_of_lt (by omega) (by omega),Int.add_mul_ediv_right _ _ (by omega),Int.ediv_eq_zero_of_lt (by omega) (by omega)] at hin
   omega
  rw[if_neg hin]
 ·rw[List.getD_eq_getElem?_getD,List.getElem?_eq_none (by omega),List.getD_eq_getElem?_getD,List.getElem?_eq_none (by simp;omega)]
theorem paint_rng{e:Ed}{f:LayF}(h:(paintF e f).1=0):((-32768≤e.x∧e.x≤32768)∧(-32768≤e.y∧e.y≤32768)∧(1≤e.w∧e.w≤32768)∧1≤e.h∧e.h≤32768)∧f.kind=0∧(paintF e f).2={f with p:=paintP e f.w f.p}:=by
 unfold paintF at h ⊢
 by_cases c1:f.kind≠0
 ·rw[if_pos c1] at h;exact absurd h (show ¬(41:Int)=0 by decide)
 rw[if_neg c1] at h ⊢
 split at h
 ·exact absurd h (show ¬(25:Int)=0 by decide)
 split at h
 ·exact absurd h (show ¬(25:Int)=0 by decide)
 split at h
 ·exact absurd h (show ¬(31:Int)=0 by decide)
 rename_i c2 c3 c4
 rw[if_neg c2,if_neg c3,if_neg c4]
 exact⟨by omega,Decidable.byContradiction c1,rfl⟩
theorem paint_do{D:DocL}(hi:Inv D){e:Ed}(hk:e.kind=4)(h0:(doD D e).1=0): ∃fr u ks,plugL (fr::u) ks=D.ks∧(paintF e fr.f).1=0∧(doD D e).2=⟨D.w,D.h,D.next,plugL (⟨fr.pre,(paintF e fr.f).2,fr.post⟩::u) ks⟩∧findL D.ks e.id=some (.mk fr.f ks)∧findL (doD D e).2.ks e.id=some (.mk (paintF e fr.f).2 ks):=by
 have hids:=(do_inv hi h0).ids'
 rcases fl_cases e.id D.ks with hn|⟨fr,u,ks,hf,hid,hp⟩
 ·exfalso
  obtain⟨_,hs,_⟩:=do_kinds h0
  rw[step_chg (by omega)] at hs
  unfold chgL at hs;rw[hn] at hs;simp at hs
 have hc:=do_chg (D:=D) (e:=e) (by omega) hf
 have hch:chgK D.w D.h e fr.f=paintF e fr.f:=by unfold chgK;rw[if_pos hk]
 rw[hch] at hc
 by_cases c:(paintF e fr.f).1≠0
 ·rw[if_pos c] at hc;rw[hc] at h0;exact absurd h0 c
 rw[if_neg c] at hc
 have h1:=Decidable.byContradiction c
 have hgid:(paintF e fr.f).2.id=fr.f.id:=by rw[(paint_rng h1).2.2]
 rw[hc] at hids ⊢
 simp only at hids ⊢
 have hf2:=fl_at (fr:=⟨_,(paintF e fr.f).2,_⟩) hids
 simp only at hf2
 rw[hgid,hid] at hf2
 refine⟨fr,u,ks,hp,h1,rfl,?_,?_⟩
 ·unfold findL;rw[hf]
 ·unfold findL;rw[hf2]
theorem paint_px{D:DocL}(hi:Inv D){e:Ed}(hk:e.kind=4)(h0:(doD D e).1=0){l:Lay}(hl:findL (doD D e).2.ks e.id=some l)(hm:l.f.map=oneM){W x y o:Int}(ho: ¬(e.x≤x∧x<e.x+e.w∧e.y≤y∧y<e.y+e.h∧x<l.f.w∧y<l.f.h)):lsPx W x y (doD D e).2.ks o=lsPx W x y D.ks o:=by
 obtain⟨fr,u,ks,hp,c,hd,_,hf2⟩:=paint_do hi hk h0
 rw[hf2] at hl
 cases hl
 rw[hd]
 obtain⟨_,hk0,hF⟩:=paint_rng c
 have hgp:(paintF e fr.f).2.p=paintP e fr.f.w fr.f.p:=by rw[hF]
 have hF2:(paintF e fr.f).2={fr.f with p:=(paintF e fr.f).2.p}:=by rw[hgp,hF]
 generalize (paintF e fr.f).2=g at hgp hF2 hm ho
 simp only[Lay.f] at hm ho
 have hgw:g.w=fr.f.w∧g.h=fr.f.h∧g.map=fr.f.map:=by rw[hF2];exact⟨rfl,rfl,rfl⟩
 rw[hgw.1,hgw.2.1] at ho
 rw[hgw.2.2] at hm
 rw[←hp]
 refine plug_eq (u:=u) (A:=fr.pre++ .mk g ks::fr.post) (B:=fr.pre++ .mk fr.f ks::fr.post) (fun o=>?_) o
 rw[lsPx_app,lsPx_app,lsPx,lsPx]
 congr 1
 generalize lsPx W x y fr.pre o=q
 have hpic:picAt fr.f.w fr.f.h fr.f.p x y=picAt fr.f.w fr.f.h g.p x y:=by
  rw[hgp]
  by_cases hx:x<fr.f.w∧y<fr.f.h
  ·exact paint_at (by omega)
  ·unfold picAt;rw[if_pos (by omega),if_pos (by omega)]
 have hse:=seen_at hm hF2 hpic
 rw[layPx,layPx,←hse,hF2]
 simp only[hk0]
 rfl
end Go.Proofs
namespace Go.Proofs
open Go.Sh
abbrev Ky:=Int×Int
def addK(ks:List Ky)(k:Ky):List Ky:=if k∈ks then ks else ks++[k]
def keyP(p:Pn)(i:Nat):Ky:=(p.X i/16,p.Y i/16)
def readK(p:Pn)(ks:List Ky):Nat→List Ky
 |0=>ks
 |i+1=>addK (readK p ks i) (keyP p i)
def KeyOk(D:DocL)(k:Ky):Prop:=(0≤k.1∧k.1*16<D.w)∧0≤k.2∧k.2*16<D.h
theorem addK_mem{ks:List Ky}{k x:Ky}:x∈addK ks k↔x∈ks∨x=k:=by
 unfold addK
 split
 ·exact⟨.inl,fun h=>h.elim id fun e=>e▸(by assumption)⟩
 ·simp
theorem addK_nodup{ks:List Ky}{k:Ky}(h:ks.Nodup):(addK ks k).Nodup:=by
 unfold addK
 split
 ·exact h
 ·rename_i hn
  rw[List.nodup_append]
  exact⟨h,by simp,fun a ha b hb hab=>hn (by rw[List.mem_singleton] at hb;subst hb;exact hab▸ha)⟩
theorem readK_nodup{p:Pn}{ks:List Ky}(h:ks.Nodup): ∀i,(readK p ks i).Nodup
 |0=>h
 |i+1=>addK_nodup (readK_nodup h i)
theorem readK_mem{p:Pn}{ks:List Ky}: ∀{i:Nat} {x:Ky},x∈readK p ks i↔x∈ks∨ ∃j,j<i∧x=keyP p j
 |0,x=>⟨.inl,fun h=>h.elim id fun⟨j,hj,_⟩=>absurd hj (Nat.not_lt_zero j)⟩
 |i+1,x=>by
  rw[readK,addK_mem,readK_mem]
  constructor
  ·rintro((h|⟨j,hj,h⟩)|h)
   ·exact .inl h
   ·exact .inr ⟨j,by omega,h⟩
   ·exact .inr ⟨i,by omega,h⟩
  ·rintro(h|⟨j,hj,h⟩)
   ·exact .inl (.inl h)
   ·by_cases hji:j=i
    ·subst hji;exact .inr h
    ·exact .inl (.inr ⟨j,by omega,h⟩)
theorem read_ok{D:DocL}{x y w h:Int}(hp:PnOk (regP D x y w h)){ks:List Ky}(hk: ∀k∈ks,KeyOk D k): ∀{i:Nat},i≤(regP D x y w h).n→ ∀k∈readK (regP D x y w h) ks i,KeyOk D k:=fun{i} hi k hm=>by
 rcases readK_mem.1 hm with h1|⟨j,hj,rfl⟩
 ·exact hk k h1
 ·obtain⟨_,a2,a3,_,_⟩:=hp.at (i:=j) (by omega)
  have a2:0≤(regP D x y w h).X j∧(regP D x y w h).X j<D.w:=a2
  have a3:0≤(regP D x y w h).Y j∧(regP D x y w h).Y j<D.h:=a3
  unfold KeyOk keyP
  simp only
  omega
def tileP(D:DocL)(k:Ky):Pn:=regP D (k.1*16) (k.2*16) (min 16 (D.w-k.1*16)) (min 16 (D.h-k.2*16))
def tileL(D:DocL)(k:Ky):List Int:=picL (tileP D k) D.ks
theorem tileOk{D:DocL}(hi:Inv D){k:Ky}(hk:KeyOk D k):PnOk (tileP D k)∧RegOk D (k.1*16) (k.2*16) (min 16 (D.w-k.1*16)) (min 16 (D.h-k.2*16)):=by
 obtain⟨s1,s2⟩:=hi.sides
 obtain⟨⟨h1,h2⟩,h3,h4⟩:=hk
 refine⟨⟨?_,?_,?_,?_,?_,?_⟩,⟨?_,?_,?_,?_⟩⟩
 ·show 0≤D.w∧D.w≤32768;omega
 ·show 0≤D.h∧D.h≤32768;omega
 ·show 0≤k.1*16;omega
 ·show 0≤k.2*16;omega
 ·show 0≤min 16 (D.w-k.1*16)∧k.1*16+min 16 (D.w-k.1*16)≤D.w;omega
 ·show 0≤min 16 (D.h-k.2*16)∧k.2*16+min 16 (D.h-k.2*16)≤D.h;omega
 all_goals omega
theorem tile_eq{D E:DocL}(hw:E.w=D.w)(hh:E.h=D.h)(hi:Inv D){k:Ky}(hk:KeyOk D k)(h: ∀x y,k.1*16≤x→x<k.1*16+16→x<D.w→k.2*16≤y→y<k.2*16+16→y<D.h→lsPx D.w x y E.ks 0=lsPx D.w x y D.ks 0):tileL E k=tileL D k:=by
 have hp:=(tileOk hi hk).1
 have e:tileP E k=tileP D k:=by unfold tileP regP;rw[hw,hh]
 unfold tileL
 rw[e]
 refine List.map_congr_left fun i hi'=>?_
 obtain⟨_,a2,a3,a4,a5⟩:=hp.at (List.mem_range.1 hi')
 have a2:0≤(tileP D k).X i∧(tileP D k).X i<D.w:=a2
 have a3:0≤(tileP D k).Y i∧(tileP D k).Y i<D.h:=a3
 have hX:(tileP D k).X i=k.1*16+(i:Int)%min 16 (D.w-k.1*16):=rfl
 have hY:(tileP D k).Y i=k.2*16+(i:Int)/min 16 (D.w-k.1*16):=rfl
 have a4:0≤(i:Int)%min 16 (D.w-k.1*16)∧(i:Int)%min 16 (D.w-k.1*16)<min 16 (D.w-k.1*16):=a4
 have a5:0≤(i:Int)/min 16 (D.w-k.1*16)∧(i:Int)/min 16 (D.w-k.1*16)<min 16 (D.h-k.2*16):=a5
 exact h _ _ (by omega) (by omega) a2.2 (by omega) (by omega) a3.2
end Go.Proofs
