/-
  OWN WORK. Several texts in one: TtM, RnK, TsBackP, RnL, RnGroups, RnM, LvA, LvB, HsA, HsB, HsC, TsRight, LvC, LvD.
-/
import Derived.Test.YtnbelfjfealnhaaMgLiveSetsF
import Derived.Test.YtnbelfjfealnhaaMgLiveSetsE

set_option linter.unusedVariables false
set_option linter.unusedSimpArgs false
set_option maxRecDepth 10000
namespace Go.Proofs
open Go.Sh
variable {H0 H:Heap} {σ:List Rs} {R:Value→Heap→Prop}
def nxt(D:DocL)(e:Ed):DocL:=if (doD D e).1=0 then(doD D e).2 else D
theorem nxt_inv{D:DocL}(h:Inv D)(e:Ed):Inv (nxt D e):=by
 unfold nxt
 split
 ·rename_i h0;exact do_inv h h0
 ·exact h
theorem nxt_next{D:DocL}(e:Ed):(nxt D e).next≤D.next+1:=by
 unfold nxt
 split
 ·rename_i h0;exact(do_next h0).2.1
 ·omega
end Go.Proofs
namespace Go.Proofs
open Go.Sh
variable {H0 H:Heap} {σ:List Rs} {R:Value→Heap→Prop}
def playD(D:DocL)(es:List Ed):DocL:=es.foldl nxt D
theorem playD_inv{D:DocL}(hi:Inv D): ∀es,Inv (playD D es):=by
 intro es
 induction es generalizing D with
 |nil=>exact hi
 |cons e es ih=>exact ih (nxt_inv hi e)
theorem nxt_size{D:DocL}(e:Ed):(nxt D e).w=D.w∧(nxt D e).h=D.h:=by
 unfold nxt
 split
 ·rename_i h0;exact(do_next h0).2.2
 ·exact⟨rfl,rfl⟩
end Go.Proofs
namespace Go.Proofs
open Go.Sh
theorem fl_skip{id:Int}: ∀(A B:List Lay) (up:List FrL) (pre:List Lay),id∉idsKs A→flK up pre id (A++B)=flK up (pre++A) id B
 |[],B,up,pre,_=>by rw[List.nil_append,List.append_nil]
 |t::A,B,up,pre,h=>by
  rw[idsKs,List.mem_append,not_or] at h
  rw[List.cons_append,flK,(fl_none id t up pre (A++B)).2 h.1]
  simp only
  rw[fl_skip A B up (pre++[t]) h.2,List.append_assoc];rfl
theorem fl_desc{id:Int}{z:ZL}: ∀(u:List FrL) (L:List Lay),id∉idsUp u→flK u [] id L=some z→flK [] [] id (plugL u L)=some z
 |[],L,_,h=>h
 |g::u,L,hn,h=>by
  rw[idsUp,List.mem_cons,List.mem_append,List.mem_append,not_or,not_or,not_or] at hn
  obtain⟨h1,⟨h2,h3⟩,h4⟩:=hn
  rw[plugL]
  refine fl_desc u _ h4 ?_
  rw[fl_skip _ _ _ _ h2,flK,flT,if_neg fun hh=>h1 hh.symm,List.nil_append]
  rw[show(⟨g.pre,g.f,g.post⟩:FrL)=g from rfl,h]
theorem fl_at{fr:FrL}{u:List FrL}{ks:List Lay}(hi:Ids (plugL (fr::u) ks)):flK [] [] fr.f.id (plugL (fr::u) ks)=some (fr::u,ks):=by
 obtain⟨h0,h1,h2,h3,h4,_⟩:=hi.split
 rw[plugL]
 refine fl_desc u _ h2 ?_
 rw[fl_skip _ _ _ _ h3,flK,flT,if_pos rfl,List.nil_append]
theorem do_chg{D:DocL}{e:Ed}(hk:4≤e.kind∧e.kind≤9){fr:FrL}{u:List FrL}{ks:List Lay}(hf:flK [] [] e.id D.ks=some (fr::u,ks)):
 doD D e=(if (chgK D.w D.h e fr.f).1≠0 then((chgK D.w D.h e fr.f).1,zeroD) else(0,⟨D.w,D.h,D.next,plugL (⟨fr.pre,(chgK D.w D.h e fr.f).2,fr.post⟩::u) ks⟩)):=by
 obtain⟨h1,h2⟩:=doL_step (w:=D.w) (h:=D.h) (next:=D.next) (D:=D.ks) (e:=e) ⟨by omega,by omega⟩
 have hst:stepL D.w D.h D.next D.ks e=(if (chgK D.w D.h e fr.f).1≠0 then((chgK D.w D.h e fr.f).1,[]) else(0,plugL (⟨fr.pre,(chgK D.w D.h e fr.f).2,fr.post⟩::u) ks)):=by
  rw[step_chg hk];unfold chgL;rw[hf]
 rw[hst] at h1 h2
 unfold doD
 by_cases h0:(chgK D.w D.h e fr.f).1=0
 ·rw[if_neg (fun hh=>hh h0)] at h1 h2
  have hz: ¬(doL D.w D.h D.next D.ks e).1≠0:=by rw[h1];exact fun hh=>hh rfl
  rw[if_neg hz,if_neg (fun hh=>hh h0),h2 rfl]
  show(0,(⟨D.w,D.h,nextL D.next e,_⟩:DocL))=_
  rw[show nextL D.next e=D.next from by unfold nextL;rw[if_neg (by omega)]]
 ·rw[if_pos h0] at h1 h2
  have hz:(doL D.w D.h D.next D.ks e).1≠0:=by rw[h1];exact h0
  rw[if_pos hz,if_pos h0,h1]
end Go.Proofs
namespace Go.Proofs
open Go.Sh
theorem back_one:backM oneM=(0,oneM):=by decide+kernel
end Go.Proofs
namespace Go.Proofs
open Go.Sh
variable {H0 H:Heap} {σ:List Rs} {R:Value→Heap→Prop}
end Go.Proofs
namespace Go.Proofs
open Go.Sh
variable {H0 H:Heap} {σ:List Rs} {R:Value→Heap→Prop}
theorem lay_hidden{W x y:Int}{f:LayF}{ks:List Lay}{o:Int}(h:f.hidden=true):layPx W x y (.mk f ks) o=o:=by rw[layPx,if_pos h]
end Go.Proofs
namespace Go.Proofs
open Go.Sh
def hidU:List FrL→Bool
 |[]=>false
 |fr::u=>fr.f.hidden||hidU u
def unseenL(D:List Lay)(id:Int):Bool:=match flK [] [] id D with
 |some (u,_)=>hidU u
 |none=>false
theorem plug_eq{W x y:Int}{A B:List Lay}(h: ∀o,lsPx W x y A o=lsPx W x y B o): ∀(u:List FrL) o,lsPx W x y (plugL u A) o=lsPx W x y (plugL u B) o
 |[],o=>h o
 |fr::u,o=>plug_eq (A:=fr.pre++ .mk fr.f A::fr.post) (B:=fr.pre++ .mk fr.f B::fr.post) (fun o=>by
  rw[lsPx_app,lsPx_app,lsPx,lsPx]
  congr 1
  rw[layPx,layPx,h 0]) u o
theorem hid_gone{W x y:Int}: ∀{u:List FrL} {fr:FrL} {ks:List Lay},hidU (fr::u)=true→ ∀o,lsPx W x y (plugL (fr::u) ks) o=lsPx W x y (plugL u (fr.pre++fr.post)) o:=by
 have hid2: ∀{u:List FrL} {A B:List Lay},hidU u=true→ ∀o,lsPx W x y (plugL u A) o=lsPx W x y (plugL u B) o:=by
  intro u
  induction u with
  |nil=>intro A B h;cases h
  |cons g u ih=>
   intro A B h o
   rw[hidU,Bool.or_eq_true] at h
   rcases h with h|h
   ·exact plug_eq (A:=g.pre++ .mk g.f A::g.post) (B:=g.pre++ .mk g.f B::g.post) (fun o=>by rw[lsPx_app,lsPx_app,lsPx,lsPx,lay_hidden h,lay_hidden h]) u o
   ·exact ih (A:=g.pre++ .mk g.f A::g.post) (B:=g.pre++ .mk g.f B::g.post) h o
 intro u fr ks h o
 rw[hidU,Bool.or_eq_true] at h
 rcases h with h|h
 ·exact plug_eq (A:=fr.pre++ .mk fr.f ks::fr.post) (fun o=>by rw[lsPx_app,lsPx_app,lsPx,lay_hidden h]) u o
 ·exact hid2 (A:=fr.pre++ .mk fr.f ks::fr.post) h o
theorem found_some{D:List Lay}{id:Int}{fr:FrL}{u:List FrL}{ks:List Lay}(h:flK [] [] id D=some (fr::u,ks)):(findL D id).isSome=true∧unseenL D id=hidU (fr::u):=by
 unfold findL unseenL;rw[h];exact⟨rfl,rfl⟩
theorem do_kinds{D:DocL}{e:Ed}(h0:(doD D e).1=0):(1≤e.kind∧e.kind≤9)∧(stepL D.w D.h D.next D.ks e).1=0∧(doD D e).2=⟨D.w,D.h,nextL D.next e,(stepL D.w D.h D.next D.ks e).2⟩:=by
 unfold doD at h0 ⊢
 by_cases hd:(doL D.w D.h D.next D.ks e).1≠0
 ·rw[if_pos hd] at h0;exact absurd h0 hd
 rw[if_neg hd]
 unfold doL at hd ⊢
 by_cases hk:e.kind<1∨e.kind>9
 ·rw[if_pos hk] at hd;simp at hd
 rw[if_neg hk] at hd ⊢
 by_cases hs:(stepL D.w D.h D.next D.ks e).1≠0
 ·rw[if_pos hs] at hd;exact absurd hs hd
 rw[if_neg hs]
 exact⟨by omega,Decidable.byContradiction hs,rfl⟩
def tgtL(D:DocL)(e:Ed):Int:=if e.kind=1 then D.next-1 else e.id
theorem unseen_px{D:DocL}(hi:Inv D){e:Ed}(h0:(doD D e).1=0)(ha:(findL D.ks (tgtL (doD D e).2 e)).isSome=true→unseenL D.ks (tgtL (doD D e).2 e)=true)
 (hb:(findL (doD D e).2.ks (tgtL (doD D e).2 e)).isSome=true→unseenL (doD D e).2.ks (tgtL (doD D e).2 e)=true)(W x y o:Int):lsPx W x y (doD D e).2.ks o=lsPx W x y D.ks o:=by
 have hi2:=do_inv hi h0
 obtain⟨hk,hs,hd⟩:=do_kinds h0
 rw[hd] at ha hb hi2 ⊢
 have hids:=hi2.ids'
 simp only at ha hb hids ⊢
 clear hi2 hd h0
 unfold stepL at hs hb hids ⊢
 by_cases k1:e.kind=1
 ·rw[if_pos k1] at hs hb hids ⊢
  have ht:tgtL ⟨D.w,D.h,nextL D.next e,(addL D.next D.ks e).2⟩ e=D.next:=by unfold tgtL nextL;rw[if_pos k1,if_pos k1];show D.next+1-1=_;omega
  rw[ht] at hb
  unfold addL at hs hb hids ⊢
  split at hs
  ·simp at hs
  rename_i c1
  split at hs
  ·simp at hs
  rename_i c2
  split at hs
  ·rename_i c3;exact absurd hs c3
  rename_i c3
  split at hs
  ·rename_i c4;exact absurd hs c4
  rename_i c4
  split at hs
  ·simp at hs
  rename_i c5
  rw[if_neg c1,if_neg c2,if_neg c3,if_neg c4,if_neg c5] at hb hids ⊢
  have hho:=home_tri (Decidable.byContradiction c3)
  obtain⟨hp,_⟩:=home_cases D.ks e.to hho
  obtain⟨i,hi,hpu,hdp⟩:=put_ok (Decidable.byContradiction c4)
  rw[hpu] at hb hids ⊢
  have hf:=fl_at (fr:=⟨_,newL D.next e,_⟩) hids
  obtain⟨f1,f2⟩:=found_some hf
  have:=hid_gone (W:=W) (x:=x) (y:=y) (fr:=⟨_,newL D.next e,_⟩) (ks:=[]) (f2▸hb f1) o
  refine this.trans ?_
  simp only[List.take_append_drop]
  rw[hp]
 rw[if_neg k1] at hs hb hids ⊢
 have ht: ∀E:DocL,tgtL E e=e.id:=fun E=>by unfold tgtL;rw[if_neg k1]
 rw[ht] at ha hb
 rcases fl_cases e.id D.ks with hn|⟨fr,u,ks,hf,hid,hp⟩
 ·exfalso
  have hc: ∀g,(chgL g D.ks e.id).1≠0:=fun g=>by unfold chgL;rw[hn];show(40:Int)≠0;decide
  by_cases k2:e.kind=2
  ·rw[if_pos k2] at hs;unfold removeL at hs;rw[hn] at hs;simp at hs
  rw[if_neg k2] at hs
  by_cases k3:e.kind=3
  ·rw[if_pos k3] at hs;unfold moveL at hs;rw[hn] at hs;simp at hs
  rw[if_neg k3] at hs
  repeat' (split at hs)
  all_goals first|exact hc _ hs|simp at hs
 obtain⟨f1,f2⟩:=found_some hf
 have hgo: ∀o,lsPx W x y D.ks o=lsPx W x y (plugL u (fr.pre++fr.post)) o:=fun o=>by have:=hid_gone (W:=W) (x:=x) (y:=y) (ks:=ks) (f2▸ha f1) o;rw[hp] at this;exact this
 by_cases k2:e.kind=2
 ·rw[if_pos k2,hgo];unfold removeL;rw[hf]
 rw[if_neg k2] at hs hb hids ⊢
 by_cases k3:e.kind=3
 ·rw[if_pos k3] at hs hb hids ⊢
  unfold moveL at hs hb hids ⊢
  rw[hf] at hs hb hids ⊢
  simp only at hs hb hids ⊢
  split at hs
  ·rename_i c;exact absurd hs c
  rename_i c1
  split at hs
  ·simp at hs
  rename_i c2
  split at hs
  ·rename_i c;exact absurd hs c
  rename_i c3
  rw[if_neg c1,if_neg c2,if_neg c3] at hb hids ⊢
  have hho:=home_tri (Decidable.byContradiction c3)
  obtain⟨hp2,_⟩:=home_cases _ e.to hho
  obtain⟨i,hi,hpu,hdp⟩:=put_ok hs
  rw[hpu] at hb hids ⊢
  have hf2:=fl_at (fr:=⟨_,fr.f,_⟩) hids
  obtain⟨q1,q2⟩:=found_some hf2
  rw[←hid] at hb
  refine(hid_gone (W:=W) (x:=x) (y:=y) (fr:=⟨_,fr.f,_⟩) (ks:=ks) (q2▸hb q1) o).trans ?_
  simp only[List.take_append_drop]
  rw[hp2,hgo]
 rw[if_neg k3] at hs hb hids ⊢
 have fin: ∀g:LayF→Int×LayF,(∀f,(g f).2.id=f.id)→(chgL g D.ks e.id).1=0→Ids (chgL g D.ks e.id).2→((findL (chgL g D.ks e.id).2 e.id).isSome=true→unseenL (chgL g D.ks e.id).2 e.id=true)→lsPx W x y (chgL g D.ks e.id).2 o=lsPx W x y D.ks o:=by
  intro g hg hs hids hb
  unfold chgL at hs hb hids ⊢
  rw[hf] at hs hb hids ⊢
  simp only at hs hb hids ⊢
  split at hs
  ·rename_i c;exact absurd hs c
  rename_i c1
  rw[if_neg c1] at hb hids ⊢
  have hf2:=fl_at (fr:=⟨_,(g fr.f).2,_⟩) hids
  obtain⟨q1,q2⟩:=found_some hf2
  rw[←hid,←hg fr.f] at hb
  refine(hid_gone (W:=W) (x:=x) (y:=y) (fr:=⟨_,(g fr.f).2,_⟩) (ks:=ks) (q2▸hb q1) o).trans ?_
  rw[hgo]
 have hst:=step_chg (w:=D.w) (h:=D.h) (next:=D.next) (D:=D.ks) (e:=e) (by omega)
 unfold stepL at hst
 rw[if_neg k1,if_neg k2,if_neg k3] at hst
 rw[hst] at hs hb hids ⊢
 exact fin _ (fun f=>chgK_id D.w D.h e f) hs hids hb
theorem seen_at{f g:LayF}(hm:f.map=oneM)(hg:g={f with p:=g.p}){x y:Int}(h:picAt f.w f.h f.p x y=picAt f.w f.h g.p x y):seenP f x y=seenP g x y:=by
 rw[hg]
 unfold seenP atP
 simp only
 rw[hm,back_one]
 have e1:atU oneM.a oneM.b oneM.e x y=65536*x+32768:=by unfold atU oneM;simp only;omega
 have e2:atU oneM.c oneM.d oneM.f x y=65536*y+32768:=by unfold atU oneM;simp only;omega
 simp only[e1,e2]
 split
 ·have hw: ∀a b c d:Int,wsum a b c d 0 0=a:=fun a b c d=>by unfold wsum;simp only[Int.sub_zero,Int.mul_zero,Int.zero_mul,Int.add_zero];omega
  have i1:(65536*x+32768-32768)/65536=x:=by omega
  have i2:(65536*y+32768-32768)/65536=y:=by omega
  have s1:(65536*x+32768-32768)/256%256=0:=by omega
  have s2:(65536*y+32768-32768)/256%256=0:=by omega
  unfold smC
  simp only[i1,i2,s1,s2,hw,h]
 ·rw[show(65536*x+32768)/65536=x from by omega,show(65536*y+32768)/65536=y from by omega,h]
theorem paint_at{e:Ed}{W Hh:Int}{p:List Int}{x y:Int}(ho: ¬(e.x≤x∧x<e.x+e.w∧e.y≤y∧y<e.y+e.h)):picAt W Hh p x y=picAt W Hh (paintP e W p) x y:=by
 unfold picAt
 by_cases hb:x<0∨x≥W∨y<0∨y≥Hh
 ·rw[if_pos hb,if_pos hb]
 rw[if_neg hb,if_neg hb]
 have h1:0≤y*W:=Int.mul_nonneg (by omega) (by omega)
 unfold paintP
 by_cases hl:(y*W+x).toNat<p.length
 ·rw[tab_getD hl]
  have hin: ¬insideB e W (y*W+x).toNat=true:=fun hin=>by
   have hin:=of_decide_eq_true hin
   rw[show(((y*W+x).toNat:Nat):Int)=y*W+x from by omega] at hin
   rw[Int.add_comm,Int.add_mul_emod_self_right,Int.emod_eq_of_lt (by omega) (by omega),Int.add_mul_ediv_right _ _ (by omega),Int.ediv_eq_zero_of_lt (by omega) (by omega)] at hin
   omega
  rw[if_neg hin]
 ·rw[List.getD_eq_getElem?_getD,List.getElem?_eq_none (by omega),List.getD_eq_getElem?_getD,List.getElem?_eq_none (by simp;omega)]
theorem paint_rng{e:Ed}{f:LayF}(h:(paintF e f).1=0):((-32768≤e.x∧e.x≤32768)∧(-32768≤e.y∧e.y≤32768)∧(1≤e.w∧e.w≤32768)∧1≤e.h∧e.h≤32768)∧f.kind=0∧(paintF e f).2={f with p:=paintP e f.w f.p}:=by
 unfold paintF at h ⊢
 by_cases c1:f.kind≠0
 ·rw[if_pos c1] at h;exact absurd h (show ¬(41:Int)=0 by decide)
 rw[if_neg c1] at h ⊢
 split at h
 ·exact absurd h (show ¬(25:Int)=0 by decide)
 split at h
 ·exact absurd h (show ¬(25:Int)=0 by decide)
 split at h
 ·exact absurd h (show ¬(31:Int)=0 by decide)
 rename_i c2 c3 c4
 rw[if_neg c2,if_neg c3,if_neg c4]
 exact⟨by omega,Decidable.byContradiction c1,rfl⟩
theorem paint_do{D:DocL}(hi:Inv D){e:Ed}(hk:e.kind=4)(h0:(doD D e).1=0): ∃fr u ks,plugL (fr::u) ks=D.ks∧(paintF e fr.f).1=0∧(doD D e).2=⟨D.w,D.h,D.next,plugL (⟨fr.pre,(paintF e fr.f).2,fr.post⟩::u) ks⟩∧findL D.ks e.id=some (.mk fr.f ks)∧findL (doD D e).2.ks e.id=some (.mk (paintF e fr.f).2 ks):=by
 have hids:=(do_inv hi h0).ids'
 rcases fl_cases e.id D.ks with hn|⟨fr,u,ks,hf,hid,hp⟩
 ·exfalso
  obtain⟨_,hs,_⟩:=do_kinds h0
  rw[step_chg (by omega)] at hs
  unfold chgL at hs;rw[hn] at hs;simp at hs
 have hc:=do_chg (D:=D) (e:=e) (by omega) hf
 have hch:chgK D.w D.h e fr.f=paintF e fr.f:=by unfold chgK;rw[if_pos hk]
 rw[hch] at hc
 by_cases c:(paintF e fr.f).1≠0
 ·rw[if_pos c] at hc;rw[hc] at h0;exact absurd h0 c
 rw[if_neg c] at hc
 have h1:=Decidable.byContradiction c
 have hgid:(paintF e fr.f).2.id=fr.f.id:=by rw[(paint_rng h1).2.2]
 rw[hc] at hids ⊢
 simp only at hids ⊢
 have hf2:=fl_at (fr:=⟨_,(paintF e fr.f).2,_⟩) hids
 simp only at hf2
 rw[hgid,hid] at hf2
 refine⟨fr,u,ks,hp,h1,rfl,?_,?_⟩
 ·unfold findL;rw[hf]
 ·unfold findL;rw[hf2]
theorem paint_px{D:DocL}(hi:Inv D){e:Ed}(hk:e.kind=4)(h0:(doD D e).1=0){l:Lay}(hl:findL (doD D e).2.ks e.id=some l)(hm:l.f.map=oneM){W x y o:Int}(ho: ¬(e.x≤x∧x<e.x+e.w∧e.y≤y∧y<e.y+e.h∧x<l.f.w∧y<l.f.h)):lsPx W x y (doD D e).2.ks o=lsPx W x y D.ks o:=by
 obtain⟨fr,u,ks,hp,c,hd,_,hf2⟩:=paint_do hi hk h0
 rw[hf2] at hl
 cases hl
 rw[hd]
 obtain⟨_,hk0,hF⟩:=paint_rng c
 have hgp:(paintF e fr.f).2.p=paintP e fr.f.w fr.f.p:=by rw[hF]
 have hF2:(paintF e fr.f).2={fr.f with p:=(paintF e fr.f).2.p}:=by rw[hgp,hF]
 generalize (paintF e fr.f).2=g at hgp hF2 hm ho
 simp only[Lay.f] at hm ho
 have hgw:g.w=fr.f.w∧g.h=fr.f.h∧g.map=fr.f.map:=by rw[hF2];exact⟨rfl,rfl,rfl⟩
 rw[hgw.1,hgw.2.1] at ho
 rw[hgw.2.2] at hm
 rw[←hp]
 refine plug_eq (u:=u) (A:=fr.pre++ .mk g ks::fr.post) (B:=fr.pre++ .mk fr.f ks::fr.post) (fun o=>?_) o
 rw[lsPx_app,lsPx_app,lsPx,lsPx]
 congr 1
 generalize lsPx W x y fr.pre o=q
 have hpic:picAt fr.f.w fr.f.h fr.f.p x y=picAt fr.f.w fr.f.h g.p x y:=by
  rw[hgp]
  by_cases hx:x<fr.f.w∧y<fr.f.h
  ·exact paint_at (by omega)
  ·unfold picAt;rw[if_pos (by omega),if_pos (by omega)]
 have hse:=seen_at hm hF2 hpic
 rw[layPx,layPx,←hse,hF2]
 simp only[hk0]
 rfl
end Go.Proofs
namespace Go.Proofs
open Go.Sh
abbrev Ky:=Int×Int
def addK(ks:List Ky)(k:Ky):List Ky:=if k∈ks then ks else ks++[k]
def keyP(p:Pn)(i:Nat):Ky:=(p.X i/16,p.Y i/16)
def readK(p:Pn)(ks:List Ky):Nat→List Ky
 |0=>ks
 |i+1=>addK (readK p ks i) (keyP p i)
def KeyOk(D:DocL)(k:Ky):Prop:=(0≤k.1∧k.1*16<D.w)∧0≤k.2∧k.2*16<D.h
theorem addK_mem{ks:List Ky}{k x:Ky}:x∈addK ks k↔x∈ks∨x=k:=by
 unfold addK
 split
 ·exact⟨.inl,fun h=>h.elim id fun e=>e▸(by assumption)⟩
 ·simp
theorem addK_in{ks:List Ky}{k:Ky}(h:k∈ks):addK ks k=ks:=by unfold addK;rw[if_pos h]
theorem addK_out{ks:List Ky}{k:Ky}(h:k∉ks):addK ks k=ks++[k]:=by unfold addK;rw[if_neg h]
theorem addK_nodup{ks:List Ky}{k:Ky}(h:ks.Nodup):(addK ks k).Nodup:=by
 unfold addK
 split
 ·exact h
 ·rename_i hn
  rw[List.nodup_append]
  exact⟨h,by simp,fun a ha b hb hab=>hn (by rw[List.mem_singleton] at hb;subst hb;exact hab▸ha)⟩
theorem readK_nodup{p:Pn}{ks:List Ky}(h:ks.Nodup): ∀i,(readK p ks i).Nodup
 |0=>h
 |i+1=>addK_nodup (readK_nodup h i)
theorem readK_mem{p:Pn}{ks:List Ky}: ∀{i:Nat} {x:Ky},x∈readK p ks i↔x∈ks∨ ∃j,j<i∧x=keyP p j
 |0,x=>⟨.inl,fun h=>h.elim id fun⟨j,hj,_⟩=>absurd hj (Nat.not_lt_zero j)⟩
 |i+1,x=>by
  rw[readK,addK_mem,readK_mem]
  constructor
  ·rintro((h|⟨j,hj,h⟩)|h)
   ·exact .inl h
   ·exact .inr ⟨j,by omega,h⟩
   ·exact .inr ⟨i,by omega,h⟩
  ·rintro(h|⟨j,hj,h⟩)
   ·exact .inl (.inl h)
   ·by_cases hji:j=i
    ·subst hji;exact .inr h
    ·exact .inl (.inr ⟨j,by omega,h⟩)
theorem readK_all{p:Pn}{ks:List Ky}: ∀{i:Nat},(∀j,j<i→keyP p j∈ks)→readK p ks i=ks
 |0,_=>rfl
 |i+1,h=>by rw[readK,readK_all fun j hj=>h j (by omega),addK_in (h i (by omega))]
theorem read_ok{D:DocL}{x y w h:Int}(hp:PnOk (regP D x y w h)){ks:List Ky}(hk: ∀k∈ks,KeyOk D k): ∀{i:Nat},i≤(regP D x y w h).n→ ∀k∈readK (regP D x y w h) ks i,KeyOk D k:=fun{i} hi k hm=>by
 rcases readK_mem.1 hm with h1|⟨j,hj,rfl⟩
 ·exact hk k h1
 ·obtain⟨_,a2,a3,_,_⟩:=hp.at (i:=j) (by omega)
  have a2:0≤(regP D x y w h).X j∧(regP D x y w h).X j<D.w:=a2
  have a3:0≤(regP D x y w h).Y j∧(regP D x y w h).Y j<D.h:=a3
  unfold KeyOk keyP
  simp only
  omega
def tileP(D:DocL)(k:Ky):Pn:=regP D (k.1*16) (k.2*16) (min 16 (D.w-k.1*16)) (min 16 (D.h-k.2*16))
def tileL(D:DocL)(k:Ky):List Int:=picL (tileP D k) D.ks
theorem tileOk{D:DocL}(hi:Inv D){k:Ky}(hk:KeyOk D k):PnOk (tileP D k)∧RegOk D (k.1*16) (k.2*16) (min 16 (D.w-k.1*16)) (min 16 (D.h-k.2*16)):=by
 obtain⟨s1,s2⟩:=hi.sides
 obtain⟨⟨h1,h2⟩,h3,h4⟩:=hk
 refine⟨⟨?_,?_,?_,?_,?_,?_⟩,⟨?_,?_,?_,?_⟩⟩
 ·show 0≤D.w∧D.w≤32768;omega
 ·show 0≤D.h∧D.h≤32768;omega
 ·show 0≤k.1*16;omega
 ·show 0≤k.2*16;omega
 ·show 0≤min 16 (D.w-k.1*16)∧k.1*16+min 16 (D.w-k.1*16)≤D.w;omega
 ·show 0≤min 16 (D.h-k.2*16)∧k.2*16+min 16 (D.h-k.2*16)≤D.h;omega
 all_goals omega
theorem tile_at{D:DocL}(hi:Inv D){x y:Int}(hx:0≤x∧x<D.w)(hy:0≤y∧y<D.h):KeyOk D (x/16,y/16)∧y%16*min 16 (D.w-x/16*16)+x%16<(tileP D (x/16,y/16)).n∧0≤y%16*min 16 (D.w-x/16*16)∧
 (tileL D (x/16,y/16)).getD (y%16*min 16 (D.w-x/16*16)+x%16).toNat 0=lsPx D.w x y D.ks 0:=by
 have hk:KeyOk D (x/16,y/16):=by unfold KeyOk;simp only;omega
 obtain⟨hp,_⟩:=tileOk hi hk
 have hpn:=hp.n
 have hpn:((tileP D (x/16,y/16)).n:Int)=min 16 (D.w-x/16*16)*min 16 (D.h-y/16*16):=hpn
 obtain⟨w',hw'⟩: ∃w':Nat,min 16 (D.w-x/16*16)=w':=⟨(min 16 (D.w-x/16*16)).toNat,by omega⟩
 obtain⟨h',hh'⟩: ∃h':Nat,min 16 (D.h-y/16*16)=h':=⟨(min 16 (D.h-y/16*16)).toNat,by omega⟩
 obtain⟨i,hi'⟩: ∃i:Nat,x%16=i:=⟨(x%16).toNat,by omega⟩
 obtain⟨j,hj'⟩: ∃j:Nat,y%16=j:=⟨(y%16).toNat,by omega⟩
 have hil:i<w':=by omega
 have hjl:j<h':=by omega
 have:=reg_at (D:=D) (x:=x/16*16) (y:=y/16*16) hil hjl
 have hlt:(j+1)*w'≤h'*w':=Nat.mul_le_mul_right _ hjl
 rw[Nat.add_mul,Nat.one_mul] at hlt
 have e:(tileP D (x/16,y/16)).n=h'*w':=by
  rw[hw',hh'] at hpn
  have h1:((w':Int)*(h':Int))=((h'*w':Nat):Int):=by rw[Int.natCast_mul,Int.mul_comm]
  omega
 rw[hw',hi',hj',e]
 have h2:((j:Int)*(w':Int))=((j*w':Nat):Int):=by rw[Int.natCast_mul]
 rw[h2]
 refine⟨hk,by omega,by omega,?_⟩
 rw[show(((j*w':Nat):Int)+(i:Int)).toNat=j*w'+i from by omega]
 unfold tileL tileP
 simp only
 rw[hw',hh',this]
 congr 1<;>omega
theorem tile_eq{D E:DocL}(hw:E.w=D.w)(hh:E.h=D.h)(hi:Inv D){k:Ky}(hk:KeyOk D k)(h: ∀x y,k.1*16≤x→x<k.1*16+16→x<D.w→k.2*16≤y→y<k.2*16+16→y<D.h→lsPx D.w x y E.ks 0=lsPx D.w x y D.ks 0):tileL E k=tileL D k:=by
 have hp:=(tileOk hi hk).1
 have e:tileP E k=tileP D k:=by unfold tileP regP;rw[hw,hh]
 unfold tileL
 rw[e]
 refine List.map_congr_left fun i hi'=>?_
 obtain⟨_,a2,a3,a4,a5⟩:=hp.at (List.mem_range.1 hi')
 have a2:0≤(tileP D k).X i∧(tileP D k).X i<D.w:=a2
 have a3:0≤(tileP D k).Y i∧(tileP D k).Y i<D.h:=a3
 have hX:(tileP D k).X i=k.1*16+(i:Int)%min 16 (D.w-k.1*16):=rfl
 have hY:(tileP D k).Y i=k.2*16+(i:Int)/min 16 (D.w-k.1*16):=rfl
 have a4:0≤(i:Int)%min 16 (D.w-k.1*16)∧(i:Int)%min 16 (D.w-k.1*16)<min 16 (D.w-k.1*16):=a4
 have a5:0≤(i:Int)/min 16 (D.w-k.1*16)∧(i:Int)/min 16 (D.w-k.1*16)<min 16 (D.h-k.2*16):=a5
 exact h _ _ (by omega) (by omega) a2.2 (by omega) (by omega) a3.2
end Go.Proofs
namespace Go.Proofs
open Go.Sh
structure HL where
 now:DocL
 past:List DocL
 fut:List DocL
structure HOk(n:Nat)(h:HL):Prop where
 inv: ∀d,d=h.now∨d∈h.past∨d∈h.fut→Inv d∧d.next≤n+1
 len:h.past.length+h.fut.length≤n
theorem HOk.mono{n m:Nat}{h:HL}(hk:HOk n h)(hm:n≤m):HOk m h:=⟨fun d hd=>⟨(hk.inv d hd).1,by have:=(hk.inv d hd).2;omega⟩,by have:=hk.len;omega⟩
theorem HOk.now{n:Nat}{h:HL}(hk:HOk n h):Inv h.now∧h.now.next≤n+1:=hk.inv _ (.inl rfl)
theorem HOk.start{w h:Int}(hs:sizedB w h=true):HOk 0 ⟨⟨w,h,1,[]⟩,[],[]⟩:=
 ⟨fun d hd=>by simp at hd;subst hd;exact⟨new_inv hs,by show(1:Int)≤0+1;omega⟩,by simp⟩
end Go.Proofs
namespace Go.Sh
variable {H0 H H':Heap} {σ τ:List Rs}
end Go.Sh
namespace Go.Proofs
open Go.Sh
variable {H0 H:Heap} {σ:List Rs} {R:Value→Heap→Prop}
abbrev PD:=Sl3×DocL
def arrP(x:PD):Array Value:=docA x.2.w x.2.h x.2.next x.1
def cellsP(l:List PD):List Value:=(l.map fun x=>(arrP x).toList).flatten
def DocK(H:Heap)(x:PD):Prop:=DocR H (arrP x) x.2
theorem arrP_size(x:PD):(arrP x).size=4:=rfl
theorem cellsP_cons(x:PD)(l:List PD):cellsP (x::l)=(arrP x).toList++cellsP l:=by simp[cellsP]
theorem cellsP_len: ∀l:List PD,(cellsP l).length=l.length*4
 |[]=>rfl
 |x::l=>by rw[cellsP_cons,List.length_append,cellsP_len l,List.length_cons,Array.length_toList,arrP_size];omega
theorem cellsP_get{l:List PD}{i:Nat}{x:PD}(h:l[i]?=some x){j:Nat}{v:Value}(hv:(arrP x)[j]?=some v):(cellsP l)[i*4+j]?=some v:=by
 have hj:j<4:=(Array.getElem?_eq_some_iff.1 hv).1
 induction l generalizing i with
 |nil=>simp at h
 |cons y l ih=>
  rw[cellsP_cons]
  cases i with
  |zero=>
   simp at h;subst h
   rw[Nat.zero_mul,Nat.zero_add,List.getElem?_append_left (by rw[Array.length_toList];exact hj)];simpa using hv
  |succ i=>
   rw[List.getElem?_append_right (by rw[Array.length_toList,arrP_size];omega),Array.length_toList,arrP_size,show(i+1)*4+j-4=i*4+j from by omega]
   exact ih (by simpa using h)
theorem DocK.ext{H H':Heap}{x:PD}(h:DocK H x)(he:Ext H H'):DocK H' x:=DocR.ext h he
structure PdsR(H:Heap)(P:Sl3)(l:List PD):Prop where
 rs:RS H P.p P.l 33 4 (cellsP l)
 doc: ∀x∈l,DocK H x
theorem PdsR.ext{H H':Heap}{P:Sl3}{l:List PD}(h:PdsR H P l)(he:Ext H H'):PdsR H' P l:=⟨h.rs.ext he,fun x hx=>(h.doc x hx).ext he⟩
theorem PdsR.len{H:Heap}{P:Sl3}{l:List PD}(h:PdsR H P l):P.l=l.length:=by have:=h.rs.len;rw[cellsP_len] at this;omega
theorem pds_row{H:Heap}{P:Sl3}{l:List PD}(h:RS H P.p P.l 33 4 (cellsP l)){i:Nat}{x:PD}(hx:l[i]?=some x): ∃a,P.p=some a∧rowIn H (a.add (i*4)) (arrP x):=by
 have hi:=(List.getElem?_eq_some_iff.1 hx).1
 have hl:P.l=l.length:=by have:=h.len;rw[cellsP_len] at this;omega
 obtain⟨blk,h1,h2⟩:=h.row (i:=i) (by omega) (by decide) (xs:=arrP x) fun j v hv=>cellsP_get hx hv
 refine⟨_,h1,?_⟩
 rw[add_none,Nat.zero_add]
 exact h2
theorem PdsR.row{H:Heap}{P:Sl3}{l:List PD}(h:PdsR H P l){i:Nat}{x:PD}(hx:l[i]?=some x): ∃a,P.p=some a∧rowIn H (a.add (i*4)) (arrP x)∧DocK H x:=
 let ⟨a,h1,h2⟩:=pds_row h.rs hx;⟨a,h1,h2,h.doc x (List.mem_of_getElem? hx)⟩
structure HM where
 now:PD
 P:Sl3
 F:Sl3
 past:List PD
 fut:List PD
def HM.abs(m:HM):HL:=⟨m.now.2,m.past.map Prod.snd,m.fut.map Prod.snd⟩
def histA(x:PD)(P F:Sl3):Array Value:=#[.int .i64 x.2.w,.int .i64 x.2.h,.int .i64 x.2.next,x.1.v,P.v,F.v]
structure StR(H:Heap)(A:Array Value)(h:HL):Prop where
 ex: ∃(m:HM),m.abs=h∧A=histA m.now m.P m.F∧DocK H m.now∧PdsR H m.P m.past∧PdsR H m.F m.fut
theorem StR.ext{H H':Heap}{A:Array Value}{h:HL}(hs:StR H A h)(he:Ext H H'):StR H' A h:=by
 obtain⟨m,h1,h2,h3,h4,h5⟩:=hs.ex
 exact⟨m,h1,h2,h3.ext he,h4.ext he,h5.ext he⟩
end Go.Proofs
namespace Go.Proofs
open Go.Sh
variable {H0 H:Heap} {σ:List Rs} {R:Value→Heap→Prop}
theorem fl_skipH{id:Int}: ∀(A B:List Lay) (up:List FrL) (pre:List Lay),id∉idsKs A→flK up pre id (A++B)=flK up (pre++A) id B
 |[],B,up,pre,_=>by rw[List.nil_append,List.append_nil]
 |t::A,B,up,pre,h=>by
  rw[idsKs,List.mem_append,not_or] at h
  rw[List.cons_append,flK,(fl_none id t up pre (A++B)).2 h.1]
  simp only
  rw[fl_skipH A B up (pre++[t]) h.2,List.append_assoc];rfl
theorem find_top{D:DocL}(hi:Inv D){l:Lay}(hl:l∈D.ks):findL D.ks l.f.id=some l:=by
 obtain⟨pre,post,he⟩:=List.append_of_mem hl
 have hn:=hi.ids
 rw[he,idsKs_app,List.nodup_append] at hn
 obtain⟨f,ks⟩:=l
 have h1:f.id∉idsKs pre:=fun h=>hn.2.2 _ h f.id (by rw[idsKs,idsT];exact List.mem_append_left _ List.mem_cons_self) rfl
 unfold findL
 show(match flK [] [] f.id D.ks with|some (fr::_,ks)=>some (Lay.mk fr.f ks)|_=>none)=_
 rw[he,fl_skipH _ _ _ _ h1,flK,flT,if_pos rfl]
theorem perm4{α:Type}(a b c d:α):[a,b,c,d].Perm [b,d,c,a]:=permC fun _ x=>by simp only[List.count_cons,List.count_nil];ac_rfl
end Go.Proofs
namespace Go.Proofs
open Go.Sh
variable {H0 H:Heap} {σ:List Rs} {R:Value→Heap→Prop}
def _root_.Go.Sh.Rs.obj(r:Nat)(o:Obj):Rs where
 at_ H fp:=fp=[r]∧H[r]?=some o
 loc h hk:=⟨h.1,hk _ (by rw[h.1];exact List.mem_singleton.2 rfl) _ h.2⟩
 has h b hb:=by rw[h.1,List.mem_singleton] at hb;subst hb;exact lt_of_get h.2
theorem _root_.Go.Sh.St.objGet(hs:St H0 H σ)(i:Nat){r:Nat}{o:Obj}(hi:σ[i]?=some (.obj r o)):H[r]?=some o:=by
 obtain⟨_,fps,hl,_⟩:=hs
 obtain⟨fp,_,h⟩:=hl.get hi
 exact h.2
theorem _root_.Go.Sh.St.objSet(hs:St H0 H σ)(i:Nat){r:Nat}{o:Obj}(o':Obj)(hi:σ[i]?=some (.obj r o)):St H0 (H.setIfInBounds r o') (σ.set i (.obj r o')):=
 hs.upd hi fun fp h1 _ _=>⟨[r],⟨rfl,get_set_self h1.2⟩,by simp,fun x hx=> .inl (h1.1▸hx),fun x o ho hx=>get_set_ne (fun he=>hx (by rw[h1.1,he];exact List.mem_singleton.2 rfl)) ho⟩
theorem _root_.Go.Sh.St.alcO(hs:St H0 H σ){o:Obj}{K:Nat→Heap→Prop}(hK: ∀b H',St H0 H' (.obj b o::σ)→K b H'):Sh.alc H o K:=
 hK _ _ (hs.new (Ext.push _ _) (fp:=[H.size]) ⟨rfl,get_push_self _ _⟩ (by simp) (by simp))
end Go.Proofs
namespace Go.Proofs
open Go.Sh
variable {H0 H:Heap} {σ:List Rs} {R:Value→Heap→Prop}
abbrev Ent:=Ky×Sl3×Nat
def keyV(k:Ky):Value:= .agg #[.int .i64 k.1,.int .i64 k.2]
def entV(x:Ent):MapEntry:={key:=keyV x.1,val:=x.2.1.v,born:=x.2.2}
def mapO(L:List Ent)(c:Nat):Obj:= .map (L.map entV).toArray c
theorem key_form(k:Ky):kForm (.arr 2 3) (.int .i64) (keyV k):=⟨rfl,_,_,rfl⟩
theorem ent_form(L:List Ent): ∀e∈(L.map entV).toArray.toList,kForm (.arr 2 3) (.int .i64) e.key:=fun e he=>by
 simp only[List.mem_map] at he
 obtain⟨x,_,rfl⟩:=he
 exact key_form x.1
theorem kEq_key(a b:Ky):kEq (keyV a) (keyV b)=decide (a=b):=by
 obtain⟨a1,a2⟩:=a
 obtain⟨b1,b2⟩:=b
 simp only[keyV,kEq,Prod.mk.injEq,decide_true,Bool.true_and]
 by_cases h1:a1=b1<;>by_cases h2:a2=b2<;>simp[h1,h2]
theorem ent_none{k:Ky}: ∀{L:List Ent} {n:Nat},k∉L.map Prod.fst→findE (keyV k) (L.map entV) n=none
 |[],_,_=>rfl
 |x::L,n,h=>by
  rw[List.map_cons,List.mem_cons,not_or] at h
  show(if kEq (keyV k) (keyV x.1)=true then _ else findE (keyV k) (L.map entV) (n+1))=none
  rw[kEq_key,if_neg (by simpa using h.1)]
  exact ent_none h.2
theorem ent_some{x:Ent}{B:List Ent}: ∀{A:List Ent} {n:Nat},x.1∉A.map Prod.fst→findE (keyV x.1) ((A++x::B).map entV) n=some (n+A.length,x.2.1.v)
 |[],n,_=>by
  show(if kEq (keyV x.1) (keyV x.1)=true then _ else _)=_
  rw[kEq_key,if_pos (by simp)];rfl
 |y::A,n,h=>by
  rw[List.map_cons,List.mem_cons,not_or] at h
  show(if kEq (keyV x.1) (keyV y.1)=true then _ else findE (keyV x.1) ((A++x::B).map entV) (n+1))=_
  rw[kEq_key,if_neg (by simpa using h.1),ent_some h.2,List.length_cons]
  congr 2;omega
theorem ent_split{k:Ky}{L:List Ent}(hn:(L.map Prod.fst).Nodup)(h:k∈L.map Prod.fst): ∃A x B,L=A++x::B∧x.1=k∧k∉A.map Prod.fst∧k∉B.map Prod.fst:=by
 obtain⟨x,hx,rfl⟩:=List.mem_map.1 h
 obtain⟨A,B,rfl⟩:=List.append_of_mem hx
 rw[List.map_append,List.map_cons,List.nodup_append] at hn
 refine⟨A,x,B,rfl,rfl,fun hA=>hn.2.2 _ hA x.1 List.mem_cons_self rfl,fun hB=>?_⟩
 have:=hn.2.1
 rw[List.nodup_cons] at this
 exact this.1 hB
theorem ent_del{r c:Nat}{L:List Ent}{k:Ky}{f:Heap→Prop}(hn:(L.map Prod.fst).Nodup)(h:H[r]?=some (mapO L c))(hf:f (H.setIfInBounds r (mapO (L.filter fun x=>decide (x.1≠k)) c))):delQ (.arr 2 3) (.int .i64) (.map (some r)) (keyV k) H f:=by
 refine⟨r,rfl,_,_,h,key_form k,ent_form L,fun h0=>?_,fun n u h1=>?_⟩
 ·by_cases hk:k∈L.map Prod.fst
  ·obtain⟨A,x,B,rfl,rfl,hA,_⟩:=ent_split hn hk
   have:=ent_some (B:=B) (n:=0) hA
   rw[show findE (keyV x.1) ((A++x::B).map entV).toArray.toList 0=_ from this] at h0
   cases h0
  ·have e:(L.filter fun x=>decide (x.1≠k))=L:=List.filter_eq_self.2 fun x hx=>by
    rw[decide_eq_true_eq];exact fun he=>hk (he▸List.mem_map_of_mem hx)
   rw[e] at hf;exact hf
 ·by_cases hk:k∈L.map Prod.fst
  ·obtain⟨A,x,B,rfl,rfl,hA,hB⟩:=ent_split hn hk
   have:=ent_some (B:=B) (n:=0) hA
   rw[show findE (keyV x.1) ((A++x::B).map entV).toArray.toList 0=_ from this] at h1
   cases h1
   have hf1: ∀{M:List Ent},x.1∉M.map Prod.fst→(M.filter fun y=>decide (y.1≠x.1))=M:=fun{M} hM=>List.filter_eq_self.2 fun y hy=>by
    rw[decide_eq_true_eq];exact fun he=>hM (he▸List.mem_map_of_mem hy)
   have e:((A++x::B).filter fun y=>decide (y.1≠x.1))=A++B:=by
    rw[List.filter_append,hf1 hA,List.filter_cons,if_neg (by simp),hf1 hB]
   rw[e] at hf
   have e2:((A++x::B).map entV).toArray.eraseIdxIfInBounds (0+A.length)=((A++B).map entV).toArray:=by
    apply Array.toList_inj.1
    rw[Array.toList_eraseIdxIfInBounds,List.toList_toArray,List.toList_toArray,List.map_append,List.map_cons,List.map_append,Nat.zero_add]
    rw[List.eraseIdx_append_of_length_le (by rw[List.length_map];exact Nat.le_refl _),List.length_map,Nat.sub_self];rfl
   rw[e2]
   exact hf
  ·have:=ent_none (n:=0) hk
   rw[show findE (keyV k) (L.map entV).toArray.toList 0=_ from this] at h1
   cases h1
structure LvS where
 D:DocL
 ks:List Ky
 n:Int
structure LvM where
 K:Sl3
 m:Nat
 c:Nat
 L:List Ent
structure LvOk(s:LvS):Prop where
 inv:Inv s.D
 nodup:s.ks.Nodup
 keys: ∀k∈s.ks,KeyOk s.D k
 len:(s.ks.length:Int)≤s.n
def lvA(D:DocL)(K:Sl3)(m:Nat)(n:Int):Array Value:=#[.int .i64 D.w,.int .i64 D.h,.int .i64 D.next,K.v,.map (some m),.int .i64 n]
def tlRs(D:DocL)(L:List Ent):Rs:= .pers fun H=> ∀x∈L,x.2.1.l=(tileP D x.1).n∧IS H x.2.1.p x.2.1.l (ints (tileL D x.1))
def lvList(b:Nat)(s:LvS)(M:LvM):List Rs:=[.cell b (lvA s.D M.K M.m s.n) 74,.obj M.m (mapO M.L M.c),docRs (docA s.D.w s.D.h s.D.next M.K) s.D,tlRs s.D M.L]
def lvRs(b:Nat)(s:LvS):Rs:= .ex fun(M:LvM)=> .pu (M.L.map Prod.fst=s.ks) (starAll (lvList b s M))
theorem lvIn{b:Nat}{s:LvS}(M:LvM)(h:M.L.map Prod.fst=s.ks)(hs:St H0 H (lvList b s M++σ)):St H0 H (lvRs b s::σ):=
 St.inex (f:=fun(M:LvM)=> .pu (M.L.map Prod.fst=s.ks) (starAll (lvList b s M))) M (St.with h (St.packAll _ hs))
theorem lvOut{b:Nat}{s:LvS}(hs:St H0 H (lvRs b s::σ)): ∃M:LvM,M.L.map Prod.fst=s.ks∧St H0 H (lvList b s M++σ):=by
 obtain⟨M,h1⟩:=St.unex hs
 obtain⟨h2,h3⟩:=St.fact h1
 exact⟨M,h2,St.unpackAll _ h3⟩
theorem tlNil{D:DocL}(hs:St H0 H σ):St H0 H (tlRs D []::σ):=St.persOf (τ:=[]) hs fun H' _ x hx=>by cases hx
theorem tlSub{D E:DocL}{L L':List Ent}(hs:St H0 H (tlRs D L::σ))(h: ∀x∈L',x∈L∧tileL E x.1=tileL D x.1∧(tileP E x.1).n=(tileP D x.1).n):St H0 H (tlRs E L'::σ):=
 St.persOf (τ:=[tlRs D L]) hs fun H' h' x hx=>by
  obtain⟨h1,h2,h3⟩:=h x hx
  have:=h'.persGet 0 rfl x h1
  rw[h2,h3];exact this
theorem lv_row{b:Nat}{D:DocL}{K:Sl3}{m:Nat}{n:Int}(h:H[b]?=some (.cells (lvA D K m n) 74)):rowIn H ⟨b,0,none⟩ (docA D.w D.h D.next K):=
 rowIn_block h fun j v hv=>by
  rw[Nat.zero_add]
  have hj:j<4:=(Array.getElem?_eq_some_iff.1 hv).1
  match j,hj with
  |0,_=>exact hv
  |1,_=>exact hv
  |2,_=>exact hv
  |3,_=>exact hv
theorem c40{A:Array Value}{D:DocL}(hs:St H0 H σ)(hd:DocR H A D)(hi:Inv D)(hR: ∀A' H',DocR H' A' D→St H0 H' (docRs A' D::σ)→R (.agg A') H'):CallsH Try.prog 40 #[.agg A] H R:=by
 have hd0:=hd
 obtain⟨K,ks,rfl,hg,hlk⟩:=hd
 have hlen:ks.length≤1000000000:=by have h1:=len_cnt D.ks;have:=hi.cnt;rw[←hlk,layKs_len] at h1;rw[←hlk] at this;omega
 have hKl:=hg.1.1
 refine Try.s40 ?_
 unfold Try.S40
 refine(St.nil H).alc fun b2 H3 hs3=>hs3.alc fun b4 H5 hs5=>⟨_,hs5.get 1 rfl (j:=0) rfl,_,hs5.get 1 rfl (j:=1) rfl,_,hs5.get 1 rfl (j:=2) rfl,hs5.alc fun b9 H10 hs10=>⟨rfl,hs10.putAll 0 rfl rfl (docA_one D.w D.h D.next .nil) fun H11 hs11=>⟨K.p,K.l,K.c,hs11.get 2 rfl (j:=3) rfl,?_⟩⟩⟩
 intro X13 hX13
 have go: ∀k,k≤ks.length→ ∀(K':Sl3) (built:List T) H1,layKs built=D.ks.take k→St H H1 (.cell b9 (docA D.w D.h D.next K') 33:: .cell b2 (docA D.w D.h D.next K) 33:: .cell b4 (docA 0 0 0 .nil) 33::resG K' built)→X13 [.int .i64 (k:Nat)] H1:=by
  refine upto fun k hk ih K' built H1 hb hs1=>hX13 _ _ (br_dec (fun hlt=>?_) fun hge=>?_)
  ·have hk':k<ks.length:=by omega
   have ht:=List.getElem?_eq_getElem hk'
   generalize hte:ks[k]=t at ht
   obtain⟨a,h1,h2,h3⟩:=(hg.ext hs1.ext).get ht
   have hmem:layT t∈D.ks:=by rw[←hlk,layKs_map];exact List.mem_map_of_mem (List.mem_of_getElem? ht)
   refine⟨a,h1,by omega,hlt,(cellsT t).toArray,by simp[cellsT_len],h2,hs1.alc fun b18 H19 hs19=>⟨by simp[cellsT_len],hs19.putAll 0 rfl (by simp[cellsT_len]) (by simpa using cellsT_one t) fun H20 hs20=>⟨_,rfl,rowIn_whole (hs20.block 2 rfl),t.f.id,?_,?_⟩⟩⟩
   ·have:=hs20.get 0 rfl (j:=0) (v:= .int .i64 t.f.id) (by cases t;rfl)
    simpa using this
   refine find_st hs20 (hd0.ext hs20.ext) hi (fun hn=>?_) fun l hl B H24 hB hs24=>⟨_,_,rfl,?_⟩
   ·rw[←layT_f,find_top hi hmem] at hn;cases hn
   obtain rfl:l=layT t:=by rw[←layT_f,find_top hi hmem] at hl;cases hl;rfl
   obtain⟨t',hx1⟩:=St.unex hs24
   obtain⟨⟨rfl,hlt'⟩,hx2⟩:=St.fact hx1
   have hs24:=St.unpackAll _ hx2
   have hs24:=hs24.perm List.perm_append_comm
   refine hs24.alc fun b27 H28 hs28=>⟨by simp[cellsT_len],hs28.putAll 0 rfl (by simp[cellsT_len]) (by simpa using cellsT_one t') fun H29 hs29=>⟨K'.p,K'.l,K'.c,hs29.get 2 rfl (j:=3) rfl,_,by simp[cellsT_len],rowIn_whole (hs29.block 0 rfl),by simp[cellsT_len],by decide,?_⟩⟩
   rw[setL_all (by simp[cellsT_len])]
   have hbl:built.length=k:=by rw[←layKs_len,hb,List.length_take,←hlk,layKs_len];omega
   have hK'l:K'.l=k:=by have:=(hs29.fs 5 rfl).len;rw[cellsKs_len] at this;omega
   refine hs29.alc fun b32 H33 hs33=>hs33.appC 6 0 rfl rfl (by simp[cellsT_len]) (by simpa using cellsT_one t') (by decide) rfl (by omega) (by omega) fun p' c' H35 hs35=>?_
   refine hs35.put 3 rfl (j:=3) (Nat.le_of_ble_eq_true rfl) rfl fun H36 hs36=>?_
   rw[wrap_id (by omega) (by omega)]
   refine ih hk' ⟨p',K'.l+1,c'⟩ (built++[t']) H36 ?_ ?_
   ·rw[layKs_app,hb,List.take_add_one]
    have:D.ks[k]?=some (layT t):=by rw[←hlk,layKs_map,List.getElem?_map,ht];rfl
    rw[this,←hlt',layKs_map];rfl
   ·have e:(cellsT t').toArray.toList=cellsKs [t']:=by rw[cellsKs_one]
    rw[show cellsKs built++(cellsT t').toArray.toList=cellsKs (built++[t']) from by rw[cellsKs_app,e]] at hs36
    have this:St H H36 (.cell b9 (docA D.w D.h D.next ⟨p',K'.l+1,c'⟩) 33:: .cell b2 (docA D.w D.h D.next K) 33:: .cell b4 (docA 0 0 0 .nil) 33:: .sl p' (K'.l+1) c' 45 19 (cellsKs (built++[t']))::(resKs built++resT t')):=hs36.drop 3
    rw[←resKs_one,←resKs_app] at this
    exact this
  ·obtain rfl:k=ks.length:=by omega
   have hfull:layKs built=D.ks:=by rw[hb,List.take_of_length_le (by rw[←hlk,layKs_len];exact Nat.le_refl _)]
   refine⟨_,rfl,rowIn_whole (hs1.block 0 rfl),rfl,hs1.putAll 2 rfl rfl (docA_one _ _ _ _) fun H38 hs38=>⟨_,rfl,rowIn_whole (hs38.block 2 rfl),?_⟩⟩
   have hf:=St_docIn (H0:=H0) (σ:=σ) rfl hfull (by have:=hs.call (hs38.drop 3);exact this)
   exact hR _ _ (hf.doc 0 rfl) hf
 have hs12:St H H11 [.cell b9 (docA D.w D.h D.next .nil) 33,.cell b4 (docA 0 0 0 .nil) 33,.cell b2 (docA D.w D.h D.next K) 33]:=hs11
 exact go 0 (Nat.zero_le _) .nil [] H11 rfl ((hs12.nilSl 45 19).perm (perm4 _ _ _ _))
theorem docA_arr{H:Heap}{A:Array Value}{D:DocL}(h:DocR H A D): ∃K,A=docA D.w D.h D.next K:=let ⟨K,_,h1,_⟩:=h;⟨K,h1⟩
theorem set_call{b:Nat}{A:Array Value}{E:DocL}{c0 c1 c2 c3 c4:Value}{n:Int}(hs:St H0 H (.cell b #[c0,c1,c2,c3,c4,.int .i64 n] 74::σ))(hd:DocR H A E)(hi:Inv E)(hR: ∀H',St H0 H' (lvRs b ⟨E,[],n⟩::σ)→R (.tuple #[]) H'):CallsH Try.prog 20 #[.pointer (some ⟨b,0,none⟩),.agg A] H R:=by
 refine Try.s20 ?_
 unfold Try.S20
 refine hs.alcE fun b3 H4 he4 hs4=>⟨A,hd.size,rowIn_whole (hs4.block 0 rfl),c40 hs4 (hd.ext he4) hi fun A' H7 hd' hs7=>⟨_,rfl,hs7.alcO fun b9 H10 hs10=>⟨_,rfl,hd'.size,?_⟩⟩⟩
 obtain⟨K',rfl⟩:=docA_arr hd'
 refine hs10.putRow 3 rfl (j:=0) (vs:=(docA E.w E.h E.next K').toList) (Nat.le_of_ble_eq_true rfl) (docA_one _ _ _ _) fun H12 hs12=>⟨_,rfl,?_⟩
 refine hs12.put 3 rfl (j:=4) (Nat.le_of_ble_eq_true rfl) rfl fun H14 hs14=>hR H14 ?_
 have hs15:St H0 H14 (.obj b9 (mapO [] 0)::docRs (docA E.w E.h E.next K') E:: .cell b3 A 33:: .cell b (lvA E K' b9 n) 74::σ):=hs14
 have h16:=tlNil (D:=E) (hs15.del 2)
 refine lvIn ⟨K',b9,0,[]⟩ rfl (h16.perm ?_)
 exact(permC (a:=[_,_,_,_]) (b:=[_,_,_,_]) fun _ y=>by simp only[List.count_cons,List.count_nil];ac_rfl).append_right σ
theorem c10{A:Array Value}{E:DocL}(hs:St H0 H σ)(hd:DocR H A E)(hi:Inv E)(hR: ∀b H',St H0 H' (lvRs b ⟨E,[],0⟩::σ)→R (.pointer (some ⟨b,0,none⟩)) H'):CallsH Try.prog 10 #[.agg A] H R:=by
 refine Try.s10 ?_
 unfold Try.S10
 refine hs.alcE fun b2 H3 he3 hs3=>hs3.alcE fun b4 H5 he5 hs5=>⟨A,hd.size,rowIn_whole (hs5.block 1 rfl),?_⟩
 exact set_call hs5 (hd.ext (he3.trans he5)) hi fun H8 hs8=>⟨rfl,hR b4 H8 (hs8.del 1)⟩
theorem c20{b:Nat}{s:LvS}{A:Array Value}{E:DocL}(hs:St H0 H (lvRs b s::σ))(hd:DocR H A E)(hi:Inv E)(hR: ∀H',St H0 H' (lvRs b ⟨E,[],s.n⟩::σ)→R (.tuple #[]) H'):CallsH Try.prog 20 #[.pointer (some ⟨b,0,none⟩),.agg A] H R:=by
 obtain⟨M,hM,hs⟩:=lvOut hs
 have hs:St H0 H (.cell b (lvA s.D M.K M.m s.n) 74:: .obj M.m (mapO M.L M.c)::docRs (docA s.D.w s.D.h s.D.next M.K) s.D::tlRs s.D M.L::σ):=hs
 exact set_call hs hd hi fun H8 hs8=>hR H8 (((hs8.del 1).del 1).del 1)
theorem c18{b:Nat}{s:LvS}(hs:St H0 H (lvRs b s::σ))(ok:LvOk s)(hR: ∀A H',DocR H' A s.D→St H0 H' (docRs A s.D::lvRs b s::σ)→R (.agg A) H'):CallsH Try.prog 18 #[.pointer (some ⟨b,0,none⟩)] H R:=by
 obtain⟨M,hM,hs⟩:=lvOut hs
 have hs:St H0 H (.cell b (lvA s.D M.K M.m s.n) 74:: .obj M.m (mapO M.L M.c)::docRs (docA s.D.w s.D.h s.D.next M.K) s.D::tlRs s.D M.L::σ):=hs
 refine Try.s18 ?_
 unfold Try.S18
 refine hs.alcE fun b2 H3 he3 hs3=>⟨_,rfl,docA s.D.w s.D.h s.D.next M.K,rfl,lv_row (hs3.block 1 rfl),c40 hs3 (hs3.doc 3 rfl) ok.inv fun A H7 hd hs7=>⟨_,rfl,hd.size,?_⟩⟩
 refine hs7.putAll 1 rfl hd.size hd.one fun H9 hs9=>⟨A,hd.size,rowIn_whole (hs9.block 1 rfl),?_⟩
 have h9:St H0 H9 (lvList b s M++(docRs A s.D::σ)):=(hs9.del 1).perm (List.perm_middle (l₁:=lvList b s M)).symm
 have h10:=(lvIn M hM h9).swap
 exact hR A H9 (h10.doc 0 rfl) h10
theorem c12{b:Nat}{s:LvS}(hs:St H0 H (lvRs b s::σ))(hR:R (.int .i64 s.n) H):CallsH Try.prog 12 #[.pointer (some ⟨b,0,none⟩)] H R:=by
 obtain⟨M,hM,hs⟩:=lvOut hs
 refine Try.s12 ?_
 unfold Try.S12
 exact⟨_,rfl,s.n,hs.get 0 rfl (j:=5) rfl,hR⟩
theorem lay_hid{B:Array Value}{l:Lay}(h:LayR H B l):B[2]?=some (.bool l.f.hidden):=by
 obtain⟨t,rfl,_,rfl⟩:=h
 cases t;rfl
theorem par_gid{D:List Lay}{id:Int}{fr:FrL}{u:List FrL}{ks:List Lay}(hf:flK [] [] id D=some (fr::u,ks)):(parentL D id).1=gid u:=by
 unfold parentL;rw[hf]
 cases u<;>rfl
theorem c38{A:Array Value}{D:DocL}{id:Int}(hd:DocR H A D)(hi:Inv D)(hR: ∀H',Ext H H'→R (.bool (unseenL D.ks id)) H'):CallsH Try.prog 38 #[.agg A,.int .i64 id] H R:=by
 have hids:=hi.ids'
 have hcn:=hi.cnt
 refine Try.s38 ?_
 unfold Try.S38
 refine(St.nil H).alc fun b3 H4 hs4=>?_
 intro X5 hX5
 have go: ∀(z:List FrL) (id:Int) (ks:List Lay) (H1:Heap),flK [] [] id D.ks=some (z,ks)→St H H1 [.cell b3 A 33]→(∀H',Ext H H'→R (.bool (hidU z)) H')→X5 [.int .i64 id] H1:=by
  intro z
  induction z with
  |nil=>
   intro id ks H1 hf;exfalso;rcases fl_cases id D.ks with hn|⟨fr,u,ks,hf2,_⟩
   ·rw[hn] at hf;cases hf
   ·rw[hf2] at hf;cases hf
  |cons fr u ih=>
   intro id ks H1 hf hs1 hR
   obtain⟨hp,hfid⟩:plugL (fr::u) ks=D.ks∧fr.f.id=id:=by
    rcases fl_cases id D.ks with hn|⟨fr2,u2,ks2,hf2,hid2,hp2⟩
    ·rw[hn] at hf;cases hf
    ·rw[hf] at hf2;cases hf2;exact⟨hp2,hid2⟩
   have hids2:Ids (plugL (fr::u) ks):=by rw[hp];exact hids
   have hid0:id≠0:=by rw[←hfid];exact hids2.split.1
   have hfl:findL D.ks id=some (.mk fr.f ks):=by unfold findL;rw[hf]
   refine hX5 _ _ (br_ne (fun _=>⟨A,hd.size,rowIn_whole (hs1.block 0 rfl),?_⟩) fun h=>absurd h hid0)
   refine find_st hs1 (hd.ext hs1.ext) hi (fun hn=>by rw[hfl] at hn;cases hn) fun l hl B H10 hB hs10=>⟨_,_,rfl,?_⟩
   rw[hfl] at hl;cases hl
   refine hs10.alc fun b13 H14 hs14=>⟨hB.size,hs14.putAll 0 rfl hB.size hB.one fun H15 hs15=>br_f rfl ⟨fr.f.hidden,?_,br_i (fun hh=>?_) fun hh=>?_⟩⟩
   ·have:=hs15.get 0 rfl (j:=2) (v:= .bool fr.f.hidden) (lay_hid hB)
    simpa using this
   ·have:=hR H15 hs15.ext
    rw[hidU,hh] at this;exact this
   ·refine⟨A,hd.size,rowIn_whole (hs15.block 2 rfl),c56 (hd.ext hs15.ext) (by omega) fun H19 he19=>⟨_,_,_,rfl,?_⟩⟩
    rw[par_gid hf]
    have hR2: ∀H',Ext H H'→R (.bool (hidU u)) H':=fun H' he=>by have:=hR H' he;rw[hidU,hh] at this;exact this
    have h19:St H H19 [.cell b3 A 33]:=(hs15.step he19).drop 2
    cases u with
    |nil=>exact hX5 _ _ (br_ne (fun h=>absurd rfl h) fun _=>hR2 H19 h19.ext)
    |cons fp u=>
     refine ih fp.f.id (fr.pre++ .mk fr.f ks::fr.post) H19 ?_ h19 hR2
     rw[←hp]
     exact fl_at hids2
 rcases fl_cases id D.ks with hn|⟨fr,u,ks,hf,hid,hp⟩
 ·have hu:unseenL D.ks id=false:=by unfold unseenL;rw[hn]
  rw[hu] at hR
  refine hX5 _ _ (br_ne (fun _=>⟨A,hd.size,rowIn_whole (hs4.block 0 rfl),?_⟩) fun _=>hR H4 hs4.ext)
  refine find_st hs4 (hd.ext hs4.ext) hi (fun _ H10 hs10=>⟨_,_,rfl,?_⟩) fun l hl=>by unfold findL at hl;rw[hn] at hl;cases hl
  exact hs10.alc fun b13 H14 hs14=>⟨rfl,hs14.putAll 0 rfl rfl (cellsL_one _ _ _ _ _) fun H15 hs15=>br_t rfl (hR H15 hs15.ext)⟩
 ·refine go (fr::u) id ks H4 hf hs4 fun H' he=>?_
  have:=hR H' he
  rw[(found_some hf).2] at this;exact this
theorem c37{e:Ed}{s:EdS}{A:Array Value}{D:DocL}(hd:DocR H A D)(hi:Inv D)(hnx:D.next≤1000000000000000)(hR: ∀H',Ext H H'→R (.int .i64 (tgtL D e)) H'):CallsH Try.prog 37 #[.agg (edL e s).toArray,.agg A] H R:=by
 have h1:=hi.next
 have hA:A[2]?=some (.int .i64 D.next):=by obtain⟨K,ks,rfl,_⟩:=hd;rfl
 refine Try.s37 ?_
 unfold Try.S37
 refine(St.nil H).alc fun b3 H4 hs4=>hs4.alc fun b5 H6 hs6=>⟨e.kind,hs6.get 1 rfl (j:=0) rfl,br_eq (fun hk=>⟨D.next,hs6.get 0 rfl (j:=2) hA,?_⟩) fun hk=>⟨e.id,hs6.get 1 rfl (j:=1) rfl,?_⟩⟩
 ·have:=hR H6 hs6.ext
  unfold tgtL at this
  rw[if_pos hk] at this
  rw[wrap_id (by omega) (by omega)];exact this
 ·have:=hR H6 hs6.ext
  unfold tgtL at this
  rw[if_neg hk] at this;exact this
end Go.Proofs
namespace Go.Proofs
open Go.Sh
variable {H0 H:Heap} {σ:List Rs} {R:Value→Heap→Prop}
def LvS.tile(s:LvS)(k:Ky):LvS:=if k∈s.ks then s else⟨s.D,s.ks++[k],s.n+1⟩
def ntE(D:DocL)(k:Ky)(bt c:Nat):Ent:=(k,(⟨some ⟨bt,0,none⟩,(tileP D k).n,(tileP D k).n⟩:Sl3),c)
theorem tlAdd{D:DocL}{L:List Ent}{k:Ky}{bt c:Nat}(hs:St H0 H (.cell bt (ints (tileL D k)).toArray 3::tlRs D L::σ)):St H0 H (tlRs D (L++[ntE D k bt c])::σ):=
 St.persOf (τ:=[.cell bt (ints (tileL D k)).toArray 3,tlRs D L]) hs fun H' h' x hx=>by
  rcases List.mem_append.1 hx with hx|hx
  ·exact h'.persGet 1 rfl x hx
  ·rw[List.mem_singleton] at hx
   subst hx
   exact⟨rfl,h'.isA 0 rfl (plL_len _ _)⟩
theorem c34{b:Nat}{s:LvS}{k:Ky}(hs:St H0 H (lvRs b s::σ))(ok:LvOk s)(hn:s.n≤1000000000000000)(hk:KeyOk s.D k)
 (hR: ∀(Q:Sl3) H',Q.l=(tileP s.D k).n→IS H' Q.p Q.l (ints (tileL s.D k))→St H0 H' (lvRs b (s.tile k)::σ)→R Q.v H'):CallsH Try.prog 34 #[.pointer (some ⟨b,0,none⟩),.int .i64 k.1,.int .i64 k.2] H R:=by
 obtain⟨M,hM,hs⟩:=lvOut hs
 have hs:St H0 H (.cell b (lvA s.D M.K M.m s.n) 74:: .obj M.m (mapO M.L M.c)::docRs (docA s.D.w s.D.h s.D.next M.K) s.D::tlRs s.D M.L::σ):=hs
 obtain⟨s1,s2⟩:=ok.inv.sides
 have hln:=ok.len
 have hk':=hk
 obtain⟨⟨k1,k2⟩,k3,k4⟩:=hk'
 refine Try.s34 ?_
 unfold Try.S34
 refine hs.alc fun b4 H5 hs5=>⟨rfl,hs5.putAll 0 rfl rfl (by simp[Value.oneCell']) fun H6 hs6=>⟨_,rfl,some M.m,hs6.get 1 rfl (j:=4) rfl,#[.int .i64 k.1,.int .i64 k.2],rfl,rowIn_whole (hs6.block 0 rfl),_,rfl,_,_,hs6.objGet 2 rfl,key_form k,ent_form M.L,?_⟩⟩
 have h6:St H0 H6 (.cell b4 #[.int .i64 k.1,.int .i64 k.2] 81:: .cell b (lvA s.D M.K M.m s.n) 74:: .obj M.m (mapO M.L M.c)::docRs (docA s.D.w s.D.h s.D.next M.K) s.D::tlRs s.D M.L::σ):=hs6
 by_cases hin:k∈s.ks
 ·obtain⟨A,x,B,hL,hx,hA,hB⟩:=ent_split (L:=M.L) (k:=k) (by rw[hM];exact ok.nodup) (by rw[hM];exact hin)
  subst hx
  have hf:findE (keyV x.1) (M.L.map entV).toArray.toList 0=some (0+A.length,x.2.1.v):=by rw[hL];exact ent_some hA
  have hlook:lookV (keyV x.1) (M.L.map entV).toArray.toList (.slice none 0 0)=x.2.1.v:=by unfold lookV;rw[hf]
  have ht:=h6.persGet 4 rfl x (by rw[hL];simp)
  have:=hR x.2.1 H6 ht.1 ht.2 (by unfold LvS.tile;rw[if_pos hin];exact lvIn M hM h6.tail)
  exact⟨x.2.1.p,x.2.1.l,x.2.1.c,hlook,br_f (by rw[show findE (Value.agg _) _ _=_ from hf];rfl) this⟩
 ·have hf:findE (keyV k) (M.L.map entV).toArray.toList 0=none:=ent_none (by rw[hM];exact hin)
  have hlook:lookV (keyV k) (M.L.map entV).toArray.toList (.slice none 0 0)= .slice none 0 0:=by unfold lookV;rw[hf]
  refine⟨none,0,0,hlook,br_t (by rw[show findE (Value.agg _) _ _=_ from hf];rfl) ⟨_,rfl,s.D.w,h6.get 1 rfl (j:=0) rfl,_,rfl,s.D.h,h6.get 1 rfl (j:=1) rfl,_,rfl,docA s.D.w s.D.h s.D.next M.K,rfl,lv_row (h6.block 1 rfl),?_⟩⟩
  rw[wrap_id (n:=k.1*16) (by omega) (by omega),wrap_id (n:=k.2*16) (by omega) (by omega),wrap_id (n:=s.D.w-k.1*16) (by omega) (by omega),wrap_id (n:=s.D.h-k.2*16) (by omega) (by omega)]
  refine c39 (h6.doc 3 rfl) ok.inv (by omega) (fun hok bt H21 hs21=>⟨_,_,_,_,rfl,?_⟩) fun hno=>absurd (tileOk ok.inv hk).2 hno
  have h21:St H0 H21 (.cell bt (ints (tileL s.D k)).toArray 3:: .cell b4 #[.int .i64 k.1,.int .i64 k.2] 81:: .cell b (lvA s.D M.K M.m s.n) 74:: .obj M.m (mapO M.L M.c)::docRs (docA s.D.w s.D.h s.D.next M.K) s.D::tlRs s.D M.L::σ):=h6.call hs21
  refine⟨_,rfl,some M.m,h21.get 2 rfl (j:=4) rfl,#[.int .i64 k.1,.int .i64 k.2],rfl,rowIn_whole (h21.block 1 rfl),M.m,rfl,_,_,h21.objGet 3 rfl,key_form k,ent_form M.L,fun _=>?_,fun n u hfs=>?_⟩
  ·have h27:=h21.objSet 3 (mapO (M.L++[ntE s.D k bt M.c]) (M.c+1)) rfl
   have e:(M.L.map entV).toArray.push {key:= .agg #[.int .i64 k.1,.int .i64 k.2],val:=slV bt (tileP s.D k).n,born:=M.c}=((M.L++[ntE s.D k bt M.c]).map entV).toArray:=by simp[entV,keyV,slV,Sl3.v,ntE]
   have e2:H21.setIfInBounds M.m (.map ((M.L.map entV).toArray.push {key:= .agg #[.int .i64 k.1,.int .i64 k.2],val:=slV bt (tileP s.D k).n,born:=M.c}) (M.c+1))=H21.setIfInBounds M.m (mapO (M.L++[ntE s.D k bt M.c]) (M.c+1)):=by rw[e];rfl
   rw[show(Value.slice (some ⟨bt,0,none⟩) (regP s.D (k.1*16) (k.2*16) (min 16 (s.D.w-k.1*16)) (min 16 (s.D.h-k.2*16))).n (regP s.D (k.1*16) (k.2*16) (min 16 (s.D.w-k.1*16)) (min 16 (s.D.h-k.2*16))).n)=slV bt (tileP s.D k).n from rfl,e2]
   generalize H21.setIfInBounds M.m (mapO (M.L++[ntE s.D k bt M.c]) (M.c+1))=H27 at h27
   refine⟨_,rfl,s.n,h27.get 2 rfl (j:=5) rfl,_,rfl,h27.put 2 rfl (j:=5) (Nat.le_of_ble_eq_true rfl) rfl fun H31 hs31=>?_⟩
   rw[wrap_id (n:=s.n+1) (by omega) (by omega)] at hs31
   have h31:St H0 H31 (.cell bt (ints (tileL s.D k)).toArray 3:: .cell b4 #[.int .i64 k.1,.int .i64 k.2] 81:: .cell b (lvA s.D M.K M.m (s.n+1)) 74:: .obj M.m (mapO (M.L++[ntE s.D k bt M.c]) (M.c+1))::docRs (docA s.D.w s.D.h s.D.next M.K) s.D::tlRs s.D M.L::σ):=hs31
   refine hR ⟨some ⟨bt,0,none⟩,(tileP s.D k).n,(tileP s.D k).n⟩ H31 rfl (h31.isA 0 rfl (plL_len _ _)) ?_
   have h32:=(h31.front 5 rfl).swap
   have h33:=tlAdd (c:=M.c) h32
   unfold LvS.tile
   rw[if_neg hin]
   refine lvIn ⟨M.K,M.m,M.c+1,M.L++[ntE s.D k bt M.c]⟩ (by rw[List.map_append,hM];rfl) ?_
   have h34:St H0 H31 (tlRs s.D (M.L++[ntE s.D k bt M.c]):: .cell b4 #[.int .i64 k.1,.int .i64 k.2] 81:: .cell b (lvA s.D M.K M.m (s.n+1)) 74:: .obj M.m (mapO (M.L++[ntE s.D k bt M.c]) (M.c+1))::docRs (docA s.D.w s.D.h s.D.next M.K) s.D::σ):=h33
   exact(h34.del 1).perm (List.perm_middle (l₁:=[_,_,_])).symm
  ·rw[show findE (Value.agg _) _ _=_ from hf] at hfs;cases hfs
def LvS.rd(s:LvS)(p:Pn)(i:Nat):LvS:=⟨s.D,readK p s.ks i,s.n+((readK p s.ks i).length-s.ks.length:Int)⟩
theorem rd_D(s:LvS)(p:Pn)(i:Nat):(s.rd p i).D=s.D:=rfl
theorem rd_n(s:LvS)(p:Pn)(i:Nat):(s.rd p i).n=s.n+((readK p s.ks i).length-s.ks.length:Int):=rfl
theorem rd_zero(s:LvS)(p:Pn):s.rd p 0=s:=by
 unfold LvS.rd
 show(⟨s.D,s.ks,s.n+((s.ks.length:Int)-s.ks.length)⟩:LvS)=s
 rw[Int.sub_self,Int.add_zero]
theorem rd_tile(s:LvS)(p:Pn)(i:Nat):(s.rd p i).tile (keyP p i)=s.rd p (i+1):=by
 unfold LvS.rd LvS.tile
 simp only[readK]
 by_cases h:keyP p i∈readK p s.ks i
 ·rw[if_pos h,addK_in h]
 ·rw[if_neg h,addK_out h,List.length_append,List.length_singleton,Int.natCast_add]
  congr 1
  omega
theorem readK_le{p:Pn}{ks:List Ky}: ∀i,(readK p ks i).length≤ks.length+i
 |0=>Nat.le_refl _
 |i+1=>by
  have:=readK_le (p:=p) (ks:=ks) i
  rw[readK]
  unfold addK
  split
  ·omega
  ·rw[List.length_append,List.length_singleton];omega
theorem LvOk.rd{s:LvS}(ok:LvOk s){x y w h:Int}(hp:PnOk (regP s.D x y w h)){i:Nat}(hi:i≤(regP s.D x y w h).n):LvOk (s.rd (regP s.D x y w h) i):=
 ⟨ok.inv,readK_nodup ok.nodup i,read_ok hp ok.keys hi,by have:=ok.len;show((readK _ _ _).length:Int)≤s.n+(((readK _ _ _).length:Int)-_);omega⟩
theorem RegOk.pn{D:DocL}(hi:Inv D){x y w h:Int}(hk:RegOk D x y w h):PnOk (regP D x y w h):=by
 obtain⟨s1,s2⟩:=hi.sides
 obtain⟨h1,h2,h3,h4⟩:=hk
 refine⟨?_,?_,h1,h2,?_,?_⟩
 ·show 0≤D.w∧D.w≤32768;omega
 ·show 0≤D.h∧D.h≤32768;omega
 ·show 0≤w∧x+w≤D.w;omega
 ·show 0≤h∧y+h≤D.h;omega
theorem c11{b:Nat}{s:LvS}{x y w h:Int}(hs:St H0 H (lvRs b s::σ))(ok:LvOk s)(hn:s.n≤1000000000000)(hb:(-9223372036854775808≤x∧x≤9223372036854775807)∧(-9223372036854775808≤y∧y≤9223372036854775807))
 (h1:RegOk s.D x y w h→ ∀bo H',St H0 H' (.cell bo (ints (picL (regP s.D x y w h) s.D.ks)).toArray 3::lvRs b (s.rd (regP s.D x y w h) (regP s.D x y w h).n)::σ)→R (.tuple #[slV bo (regP s.D x y w h).n,.int .i64 0]) H')
 (h0: ¬RegOk s.D x y w h→R (.tuple #[.slice none 0 0,.int .i64 12]) H):CallsH Try.prog 11 #[.pointer (some ⟨b,0,none⟩),.int .i64 x,.int .i64 y,.int .i64 w,.int .i64 h] H R:=by
 obtain⟨s1,s2⟩:=ok.inv.sides
 obtain⟨M,hM,hsm⟩:=lvOut hs
 refine Try.s11 ?_
 unfold Try.S11
 intro J6 hJ6
 have cw: ∃W,Sh.cell H (Addr.add (Addr.add ⟨b,0,none⟩ 0) 0)=some (.int .i64 W)∧W=s.D.w:=⟨s.D.w,hsm.get 0 rfl (j:=0) rfl,rfl⟩
 refine br_dec (fun g=>h0 fun hh=>by have:=hh.hx;omega) fun g1=>br_dec (fun g=>h0 fun hh=>by have:=hh.hy;omega) fun g2=>br_dec (fun g=>h0 fun hh=>by have:=hh.hw;omega) fun g3=>br_dec (fun g=>h0 fun hh=>by have:=hh.hh;omega) fun g4=>⟨_,rfl,s.D.w,hsm.get 0 rfl (j:=0) rfl,br_dec (fun g=>h0 fun hh=>by have:=hh.hw;omega) fun g5=>⟨_,rfl,s.D.h,hsm.get 0 rfl (j:=1) rfl,br_dec (fun g=>h0 fun hh=>by have:=hh.hh;omega) fun g6=>⟨_,rfl,s.D.w,hsm.get 0 rfl (j:=0) rfl,?_⟩⟩⟩
 rw[wrap_id (n:=s.D.w-x) (by omega) (by omega)]
 refine br_dec (fun g=>h0 fun hh=>by have:=hh.hw;omega) fun g7=>⟨_,rfl,s.D.h,hsm.get 0 rfl (j:=1) rfl,?_⟩
 rw[wrap_id (n:=s.D.h-y) (by omega) (by omega)]
 refine br_dec (fun g=>h0 fun hh=>by have:=hh.hh;omega) fun g8=>hJ6 _ ?_
 clear hsm hM M h0
 have hok:RegOk s.D x y w h:=⟨by omega,by omega,by omega,by omega⟩
 have hp:=hok.pn ok.inv
 have har:=hp.area
 have har:0≤w*h∧w*h≤1073741824:=har
 have hpn:((regP s.D x y w h).n:Int)=w*h:=hp.n
 have hk1:=h1 hok
 clear h1
 have hlen:(picL (regP s.D x y w h) s.D.ks).length=(regP s.D x y w h).n:=plL_len _ _
 have hat: ∀i,i<(regP s.D x y w h).n→(picL (regP s.D x y w h) s.D.ks).getD i 0=lsPx s.D.w ((regP s.D x y w h).X i) ((regP s.D x y w h).Y i) s.D.ks 0:=fun i hi=>plL_at (p:=regP s.D x y w h) (f:=fun i=>lsPx (regP s.D x y w h).W ((regP s.D x y w h).X i) ((regP s.D x y w h).Y i) s.D.ks 0) hi
 rw[wrap_id (n:=w*h) (by omega) (by omega)]
 refine⟨by omega,by omega,by omega,by omega,?_⟩
 rw[show(w*h).toNat=(regP s.D x y w h).n from rfl]
 refine hs.alc fun bo H9 hs9=>?_
 rw[repsA,show List.replicate (regP s.D x y w h).n (0:Int)=fillA (picL (regP s.D x y w h) s.D.ks) 0 from by rw[fillA_zero,hlen]] at hs9
 intro X10 hX10
 have go: ∀i,i≤(regP s.D x y w h).n→ ∀H1,St H0 H1 (.cell bo (ints (fillA (picL (regP s.D x y w h) s.D.ks) i)).toArray 3::lvRs b (s.rd (regP s.D x y w h) i)::σ)→X10 [.int .i64 (i:Nat)] H1:=by
  refine upto fun i hi ih H1 hs1=>hX10 _ _ (br_dec (fun hlt=>?_) fun hge=>?_)
  ·have hi':i<(regP s.D x y w h).n:=by omega
   obtain⟨a1,a2,a3,a4,a5⟩:=hp.at hi'
   have a1:0<w:=a1
   have a2:0≤(regP s.D x y w h).X i∧(regP s.D x y w h).X i<s.D.w:=a2
   have a3:0≤(regP s.D x y w h).Y i∧(regP s.D x y w h).Y i<s.D.h:=a3
   have a5:0≤(i:Int)/w∧(i:Int)/w<h:=a5
   have hX:x+(i:Int)%w=(regP s.D x y w h).X i:=rfl
   have hY:y+(i:Int)/w=(regP s.D x y w h).Y i:=rfl
   have hati:=hat i hi'
   have hkeyP:keyP (regP s.D x y w h) i=((regP s.D x y w h).X i/16,(regP s.D x y w h).Y i/16):=rfl
   have htl:=rd_tile s (regP s.D x y w h) i
   rw[hkeyP] at htl
   rw[Int.tmod_eq_emod_of_nonneg (show(0:Int)≤i by omega),Int.tdiv_eq_ediv_of_nonneg (show(0:Int)≤i by omega),wrap_id (n:=(i:Int)/w) (by omega) (by omega),hX,hY]
   generalize hXX:(regP s.D x y w h).X i=X at*
   generalize hYY:(regP s.D x y w h).Y i=Y at*
   rw[wrap_id (n:=X) (by omega) (by omega),wrap_id (n:=Y) (by omega) (by omega),Int.tdiv_eq_ediv_of_nonneg (show(0:Int)≤X by omega),Int.tdiv_eq_ediv_of_nonneg (show(0:Int)≤Y by omega),Int.tmod_eq_emod_of_nonneg (show(0:Int)≤X by omega),Int.tmod_eq_emod_of_nonneg (show(0:Int)≤Y by omega)]
   rw[wrap_id (n:=X/16) (by omega) (by omega),wrap_id (n:=Y/16) (by omega) (by omega),wrap_id (n:=X/16*16) (by omega) (by omega)]
   refine⟨by omega,by omega,by decide,by decide,?_⟩
   have hkl:=readK_le (p:=regP s.D x y w h) (ks:=s.ks) i
   obtain⟨t1,t2,t3,t4⟩:=tile_at ok.inv a2 a3
   refine c34 (k:=(X/16,Y/16)) hs1.swap (ok.rd hp hi) (by show s.n+(((readK _ _ _).length:Int)-_)≤_;omega) t1 fun Q H14 hQl hQ hs14=>⟨_,_,_,rfl,?_⟩
   rw[htl] at hs14
   obtain⟨M,hM,hsm⟩:=lvOut hs14
   refine⟨_,rfl,s.D.w,hsm.get 0 rfl (j:=0) rfl,by decide,by decide,by decide,?_⟩
   have hm:0≤min 16 (s.D.w-X/16*16)∧min 16 (s.D.w-X/16*16)≤16:=by omega
   have hb15:=mul_bd (x:=Y%16) (y:=min 16 (s.D.w-X/16*16)) (A:=16) (B:=16) (by omega) (by omega)
   rw[wrap_id (n:=s.D.w-X/16*16) (by omega) (by omega),wrap_id (n:=Y%16*min 16 (s.D.w-X/16*16)) (by omega) (by omega),wrap_id (n:=Y%16*min 16 (s.D.w-X/16*16)+X%16) (by omega) (by omega)]
   refine rdG hQ (by omega) (by rw[hQl];exact t2) ?_
   rw[show(s.rd (regP s.D x y w h) i).D=s.D from rfl,t4]
   refine⟨_,rfl,by omega,hlt,?_⟩
   rw[Int.toNat_natCast,Nat.mul_one,add_none,Nat.zero_add]
   refine hs14.swap.putA 0 rfl (by rw[fillA_len (by omega),hlen];exact hi') fun H21 hs21=>?_
   rw[wrap_id (by omega) (by omega)]
   refine ih hi' H21 ?_
   have e:=fill_put (L:=picL (regP s.D x y w h) s.D.ks) (k:=i) (v:=lsPx s.D.w X Y s.D.ks 0) (by omega) hati.symm
   rw[←e]
   exact hs21
  ·obtain rfl:i=(regP s.D x y w h).n:=by omega
   have hfull:fillA (picL (regP s.D x y w h) s.D.ks) (regP s.D x y w h).n=picL (regP s.D x y w h) s.D.ks:=by
    have:=fillA_all (picL (regP s.D x y w h) s.D.ks);rw[hlen] at this;exact this
   rw[hfull] at hs1
   exact hk1 bo H1 hs1
 exact go 0 (Nat.zero_le _) H9 (by rw[rd_zero];exact hs9)
end Go.Proofs
