/-
  OWN WORK. Several texts in one: TsBackP, RnL, RnGroups, RnM, LvA, LvB, HsA, HsB, HsC, TsRight, LvC, LvD, TsRigB, LvE.
-/
import Derived.Test.YtnbelfjfealnhaaGreatMgLivePlaysG
import Derived.Test.YtnbelfjfealnhaaGreatMgLivePlaysF

set_option linter.unusedVariables false
set_option linter.unusedSimpArgs false
set_option maxRecDepth 10000
namespace Go.Proofs
open Go.Sh
theorem fl_skip{id:Int}: ∀(A B:List Lay) (up:List FrL) (pre:List Lay),id∉idsKs A→flK up pre id (A++B)=flK up (pre++A) id B
 |[],B,up,pre,_=>by rw[List.nil_append,List.append_nil]
 |t::A,B,up,pre,h=>by
  rw[idsKs,List.mem_append,not_or] at h
  rw[List.cons_append,flK,(fl_none id t up pre (A++B)).2 h.1]
  simp only
  rw[fl_skip A B up (pre++[t]) h.2,List.append_assoc];rfl
theorem fl_desc{id:Int}{z:ZL}: ∀(u:List FrL) (L:List Lay),id∉idsUp u→flK u [] id L=some z→flK [] [] id (plugL u L)=some z
 |[],L,_,h=>h
 |g::u,L,hn,h=>by
  rw[idsUp,List.mem_cons,List.mem_append,List.mem_append,not_or,not_or,not_or] at hn
  obtain⟨h1,⟨h2,h3⟩,h4⟩:=hn
  rw[plugL]
  refine fl_desc u _ h4 ?_
  rw[fl_skip _ _ _ _ h2,flK,flT,if_neg fun hh=>h1 hh.symm,List.nil_append]
  rw[show(⟨g.pre,g.f,g.post⟩:FrL)=g from rfl,h]
theorem fl_at{fr:FrL}{u:List FrL}{ks:List Lay}(hi:Ids (plugL (fr::u) ks)):flK [] [] fr.f.id (plugL (fr::u) ks)=some (fr::u,ks):=by
 obtain⟨h0,h1,h2,h3,h4,_⟩:=hi.split
 rw[plugL]
 refine fl_desc u _ h2 ?_
 rw[fl_skip _ _ _ _ h3,flK,flT,if_pos rfl,List.nil_append]
theorem do_chg{D:DocL}{e:Ed}(hk:4≤e.kind∧e.kind≤9){fr:FrL}{u:List FrL}{ks:List Lay}(hf:flK [] [] e.id D.ks=some (fr::u,ks)):
 doD D e=(if (chgK D.w D.h e fr.f).1≠0 then((chgK D.w D.h e fr.f).1,zeroD) else(0,⟨D.w,D.h,D.next,plugL (⟨fr.pre,(chgK D.w D.h e fr.f).2,fr.post⟩::u) ks⟩)):=by
 obtain⟨h1,h2⟩:=doL_step (w:=D.w) (h:=D.h) (next:=D.next) (D:=D.ks) (e:=e) ⟨by omega,by omega⟩
 have hst:stepL D.w D.h D.next D.ks e=(if (chgK D.w D.h e fr.f).1≠0 then((chgK D.w D.h e fr.f).1,[]) else(0,plugL (⟨fr.pre,(chgK D.w D.h e fr.f).2,fr.post⟩::u) ks)):=by
  rw[step_chg hk];unfold chgL;rw[hf]
 rw[hst] at h1 h2
 unfold doD
 by_cases h0:(chgK D.w D.h e fr.f).1=0
 ·rw[if_neg (fun hh=>hh h0)] at h1 h2
  have hz: ¬(doL D.w D.h D.next D.ks e).1≠0:=by rw[h1];exact fun hh=>hh rfl
  rw[if_neg hz,if_neg (fun hh=>hh h0),h2 rfl]
  show(0,(⟨D.w,D.h,nextL D.next e,_⟩:DocL))=_
  rw[show nextL D.next e=D.next from by unfold nextL;rw[if_neg (by omega)]]
 ·rw[if_pos h0] at h1 h2
  have hz:(doL D.w D.h D.next D.ks e).1≠0:=by rw[h1];exact h0
  rw[if_pos hz,if_pos h0,h1]
end Go.Proofs
namespace Go.Proofs
open Go.Sh
theorem nodup_len: ∀(m:Nat) (l:List Int),l.Nodup→(∀x∈l,1≤x∧x≤m)→l.length≤m
 |0,l,_,h=>by
  cases l with
  |nil=>exact Nat.le_refl _
  |cons x l=>have:=h x List.mem_cons_self;omega
 |m+1,l,hn,h=>by
  by_cases hm:((m+1:Nat):Int)∈l
  ·have h1:=nodup_len m (l.erase ((m+1:Nat):Int)) (hn.erase _) fun x hx=>by
    obtain⟨h2,h3⟩:=(List.Nodup.mem_erase_iff hn).1 hx
    have:=h x h3
    omega
   rw[List.length_erase_of_mem hm] at h1
   omega
  ·have:=nodup_len m l hn fun x hx=>by
    have h1:=h x hx
    have h2:x≠((m+1:Nat):Int):=fun he=>hm (he▸hx)
    omega
   omega
theorem back_one:backM oneM=(0,oneM):=by decide+kernel
end Go.Proofs
namespace Go.Proofs
open Go.Sh
variable {H0 H:Heap} {σ:List Rs} {R:Value→Heap→Prop}
end Go.Proofs
namespace Go.Proofs
open Go.Sh
variable {H0 H:Heap} {σ:List Rs} {R:Value→Heap→Prop}
theorem lay_hidden{W x y:Int}{f:LayF}{ks:List Lay}{o:Int}(h:f.hidden=true):layPx W x y (.mk f ks) o=o:=by rw[layPx,if_pos h]
end Go.Proofs
namespace Go.Proofs
open Go.Sh
def hidU:List FrL→Bool
 |[]=>false
 |fr::u=>fr.f.hidden||hidU u
def unseenL(D:List Lay)(id:Int):Bool:=match flK [] [] id D with
 |some (u,_)=>hidU u
 |none=>false
theorem plug_eq{W x y:Int}{A B:List Lay}(h: ∀o,lsPx W x y A o=lsPx W x y B o): ∀(u:List FrL) o,lsPx W x y (plugL u A) o=lsPx W x y (plugL u B) o
 |[],o=>h o
 |fr::u,o=>plug_eq (A:=fr.pre++ .mk fr.f A::fr.post) (B:=fr.pre++ .mk fr.f B::fr.post) (fun o=>by
  rw[lsPx_app,lsPx_app,lsPx,lsPx]
  congr 1
  rw[layPx,layPx,h 0]) u o
theorem hid_gone{W x y:Int}: ∀{u:List FrL} {fr:FrL} {ks:List Lay},hidU (fr::u)=true→ ∀o,lsPx W x y (plugL (fr::u) ks) o=lsPx W x y (plugL u (fr.pre++fr.post)) o:=by
 have hid2: ∀{u:List FrL} {A B:List Lay},hidU u=true→ ∀o,lsPx W x y (plugL u A) o=lsPx W x y (plugL u B) o:=by
  intro u
  induction u with
  |nil=>intro A B h;cases h
  |cons g u ih=>
   intro A B h o
   rw[hidU,Bool.or_eq_true] at h
   rcases h with h|h
   ·exact plug_eq (A:=g.pre++ .mk g.f A::g.post) (B:=g.pre++ .mk g.f B::g.post) (fun o=>by rw[lsPx_app,lsPx_app,lsPx,lsPx,lay_hidden h,lay_hidden h]) u o
   ·exact ih (A:=g.pre++ .mk g.f A::g.post) (B:=g.pre++ .mk g.f B::g.post) h o
 intro u fr ks h o
 rw[hidU,Bool.or_eq_true] at h
 rcases h with h|h
 ·exact plug_eq (A:=fr.pre++ .mk fr.f ks::fr.post) (fun o=>by rw[lsPx_app,lsPx_app,lsPx,lay_hidden h]) u o
 ·exact hid2 (A:=fr.pre++ .mk fr.f ks::fr.post) h o
theorem found_some{D:List Lay}{id:Int}{fr:FrL}{u:List FrL}{ks:List Lay}(h:flK [] [] id D=some (fr::u,ks)):(findL D id).isSome=true∧unseenL D id=hidU (fr::u):=by
 unfold findL unseenL;rw[h];exact⟨rfl,rfl⟩
theorem do_kinds{D:DocL}{e:Ed}(h0:(doD D e).1=0):(1≤e.kind∧e.kind≤9)∧(stepL D.w D.h D.next D.ks e).1=0∧(doD D e).2=⟨D.w,D.h,nextL D.next e,(stepL D.w D.h D.next D.ks e).2⟩:=by
 unfold doD at h0 ⊢
 by_cases hd:(doL D.w D.h D.next D.ks e).1≠0
 ·rw[if_pos hd] at h0;exact absurd h0 hd
 rw[if_neg hd]
 unfold doL at hd ⊢
 by_cases hk:e.kind<1∨e.kind>9
 ·rw[if_pos hk] at hd;simp at hd
 rw[if_neg hk] at hd ⊢
 by_cases hs:(stepL D.w D.h D.next D.ks e).1≠0
 ·rw[if_pos hs] at hd;exact absurd hs hd
 rw[if_neg hs]
 exact⟨by omega,Decidable.byContradiction hs,rfl⟩
def tgtL(D:DocL)(e:Ed):Int:=if e.kind=1 then D.next-1 else e.id
theorem unseen_px{D:DocL}(hi:Inv D){e:Ed}(h0:(doD D e).1=0)(ha:(findL D.ks (tgtL (doD D e).2 e)).isSome=true→unseenL D.ks (tgtL (doD D e).2 e)=true)
 (hb:(findL (doD D e).2.ks (tgtL (doD D e).2 e)).isSome=true→unseenL (doD D e).2.ks (tgtL (doD D e).2 e)=true)(W x y o:Int):lsPx W x y (doD D e).2.ks o=lsPx W x y D.ks o:=by
 have hi2:=do_inv hi h0
 obtain⟨hk,hs,hd⟩:=do_kinds h0
 rw[hd] at ha hb hi2 ⊢
 have hids:=hi2.ids'
 simp only at ha hb hids ⊢
 clear hi2 hd h0
 unfold stepL at hs hb hids ⊢
 by_cases k1:e.kind=1
 ·rw[if_pos k1] at hs hb hids ⊢
  have ht:tgtL ⟨D.w,D.h,nextL D.next e,(addL D.next D.ks e).2⟩ e=D.next:=by unfold tgtL nextL;rw[if_pos k1,if_pos k1];show D.next+1-1=_;omega
  rw[ht] at hb
  unfold addL at hs hb hids ⊢
  split at hs
  ·simp at hs
  rename_i c1
  split at hs
  ·simp at hs
  rename_i c2
  split at hs
  ·rename_i c3;exact absurd hs c3
  rename_i c3
  split at hs
  ·rename_i c4;exact absurd hs c4
  rename_i c4
  split at hs
  ·simp at hs
  rename_i c5
  rw[if_neg c1,if_neg c2,if_neg c3,if_neg c4,if_neg c5] at hb hids ⊢
  have hho:=home_tri (Decidable.byContradiction c3)
  obtain⟨hp,_⟩:=home_cases D.ks e.to hho
  obtain⟨i,hi,hpu,hdp⟩:=put_ok (Decidable.byContradiction c4)
  rw[hpu] at hb hids ⊢
  have hf:=fl_at (fr:=⟨_,newL D.next e,_⟩) hids
  obtain⟨f1,f2⟩:=found_some hf
  have:=hid_gone (W:=W) (x:=x) (y:=y) (fr:=⟨_,newL D.next e,_⟩) (ks:=[]) (f2▸hb f1) o
  refine this.trans ?_
  simp only[List.take_append_drop]
  rw[hp]
 rw[if_neg k1] at hs hb hids ⊢
 have ht: ∀E:DocL,tgtL E e=e.id:=fun E=>by unfold tgtL;rw[if_neg k1]
 rw[ht] at ha hb
 rcases fl_cases e.id D.ks with hn|⟨fr,u,ks,hf,hid,hp⟩
 ·exfalso
  have hc: ∀g,(chgL g D.ks e.id).1≠0:=fun g=>by unfold chgL;rw[hn];show(40:Int)≠0;decide
  by_cases k2:e.kind=2
  ·rw[if_pos k2] at hs;unfold removeL at hs;rw[hn] at hs;simp at hs
  rw[if_neg k2] at hs
  by_cases k3:e.kind=3
  ·rw[if_pos k3] at hs;unfold moveL at hs;rw[hn] at hs;simp at hs
  rw[if_neg k3] at hs
  repeat' (split at hs)
  all_goals first|exact hc _ hs|simp at hs
 obtain⟨f1,f2⟩:=found_some hf
 have hgo: ∀o,lsPx W x y D.ks o=lsPx W x y (plugL u (fr.pre++fr.post)) o:=fun o=>by have:=hid_gone (W:=W) (x:=x) (y:=y) (ks:=ks) (f2▸ha f1) o;rw[hp] at this;exact this
 by_cases k2:e.kind=2
 ·rw[if_pos k2,hgo];unfold removeL;rw[hf]
 rw[if_neg k2] at hs hb hids ⊢
 by_cases k3:e.kind=3
 ·rw[if_pos k3] at hs hb hids ⊢
  unfold moveL at hs hb hids ⊢
  rw[hf] at hs hb hids ⊢
  simp only at hs hb hids ⊢
  split at hs
  ·rename_i c;exact absurd hs c
  rename_i c1
  split at hs
  ·simp at hs
  rename_i c2
  split at hs
  ·rename_i c;exact absurd hs c
  rename_i c3
  rw[if_neg c1,if_neg c2,if_neg c3] at hb hids ⊢
  have hho:=home_tri (Decidable.byContradiction c3)
  obtain⟨hp2,_⟩:=home_cases _ e.to hho
  obtain⟨i,hi,hpu,hdp⟩:=put_ok hs
  rw[hpu] at hb hids ⊢
  have hf2:=fl_at (fr:=⟨_,fr.f,_⟩) hids
  obtain⟨q1,q2⟩:=found_some hf2
  rw[←hid] at hb
  refine(hid_gone (W:=W) (x:=x) (y:=y) (fr:=⟨_,fr.f,_⟩) (ks:=ks) (q2▸hb q1) o).trans ?_
  simp only[List.take_append_drop]
  rw[hp2,hgo]
 rw[if_neg k3] at hs hb hids ⊢
 have fin: ∀g:LayF→Int×LayF,(∀f,(g f).2.id=f.id)→(chgL g D.ks e.id).1=0→Ids (chgL g D.ks e.id).2→((findL (chgL g D.ks e.id).2 e.id).isSome=true→unseenL (chgL g D.ks e.id).2 e.id=true)→lsPx W x y (chgL g D.ks e.id).2 o=lsPx W x y D.ks o:=by
  intro g hg hs hids hb
  unfold chgL at hs hb hids ⊢
  rw[hf] at hs hb hids ⊢
  simp only at hs hb hids ⊢
  split at hs
  ·rename_i c;exact absurd hs c
  rename_i c1
  rw[if_neg c1] at hb hids ⊢
  have hf2:=fl_at (fr:=⟨_,(g fr.f).2,_⟩) hids
  obtain⟨q1,q2⟩:=found_some hf2
  rw[←hid,←hg fr.f] at hb
  refine(hid_gone (W:=W) (x:=x) (y:=y) (fr:=⟨_,(g fr.f).2,_⟩) (ks:=ks) (q2▸hb q1) o).trans ?_
  rw[hgo]
 have hst:=step_chg (w:=D.w) (h:=D.h) (next:=D.next) (D:=D.ks) (e:=e) (by omega)
 unfold stepL at hst
 rw[if_neg k1,if_neg k2,if_neg k3] at hst
 rw[hst] at hs hb hids ⊢
 exact fin _ (fun f=>chgK_id D.w D.h e f) hs hids hb
theorem seen_at{f g:LayF}(hm:f.map=oneM)(hg:g={f with p:=g.p}){x y:Int}(h:picAt f.w f.h f.p x y=picAt f.w f.h g.p x y):seenP f x y=seenP g x y:=by
 rw[hg]
 unfold seenP atP
 simp only
 rw[hm,back_one]
 have e1:atU oneM.a oneM.b oneM.e x y=65536*x+32768:=by unfold atU oneM;simp only;omega
 have e2:atU oneM.c oneM.d oneM.f x y=65536*y+32768:=by unfold atU oneM;simp only;omega
 simp only[e1,e2]
 split
 ·have hw: ∀a b c d:Int,wsum a b c d 0 0=a:=fun a b c d=>by unfold wsum;simp only[Int.sub_zero,Int.mul_zero,Int.zero_mul,Int.add_zero];omega
  have i1:(65536*x+32768-32768)/65536=x:=by omega
  have i2:(65536*y+32768-32768)/65536=y:=by omega
  have s1:(65536*x+32768-32768)/256%256=0:=by omega
  have s2:(65536*y+32768-32768)/256%256=0:=by omega
  unfold smC
  simp only[i1,i2,s1,s2,hw,h]
 ·rw[show(65536*x+32768)/65536=x from by omega,show(65536*y+32768)/65536=y from by omega,h]
theorem paint_at{e:Ed}{W Hh:Int}{p:List Int}{x y:Int}(ho: ¬(e.x≤x∧x<e.x+e.w∧e.y≤y∧y<e.y+e.h)):picAt W Hh p x y=picAt W Hh (paintP e W p) x y:=by
 unfold picAt
 by_cases hb:x<0∨x≥W∨y<0∨y≥Hh
 ·rw[if_pos hb,if_pos hb]
 rw[if_neg hb,if_neg hb]
 have h1:0≤y*W:=Int.mul_nonneg (by omega) (by omega)
 unfold paintP
 by_cases hl:(y*W+x).toNat<p.length
 ·rw[tab_getD hl]
  have hin: ¬insideB e W (y*W+x).toNat=true:=fun hin=>by
   have hin:=of_decide_eq_true hin
   rw[show(((y*W+x).toNat:Nat):Int)=y*W+x from by omega] at hin
   rw[Int.add_comm,Int.add_mul_emod_self_right,Int.emod_eq_of_lt (by omega) (by omega),Int.add_mul_ediv_right _ _ (by omega),Int.ediv_eq_zero_of_lt (by omega) (by omega)] at hin
   omega
  rw[if_neg hin]
 ·rw[List.getD_eq_getElem?_getD,List.getElem?_eq_none (by omega),List.getD_eq_getElem?_getD,List.getElem?_eq_none (by simp;omega)]
theorem paint_rng{e:Ed}{f:LayF}(h:(paintF e f).1=0):((-32768≤e.x∧e.x≤32768)∧(-32768≤e.y∧e.y≤32768)∧(1≤e.w∧e.w≤32768)∧1≤e.h∧e.h≤32768)∧f.kind=0∧(paintF e f).2={f with p:=paintP e f.w f.p}:=by
 unfold paintF at h ⊢
 by_cases c1:f.kind≠0
 ·rw[if_pos c1] at h;exact absurd h (show ¬(41:Int)=0 by decide)
 rw[if_neg c1] at h ⊢
 split at h
 ·exact absurd h (show ¬(25:Int)=0 by decide)
 split at h
 ·exact absurd h (show ¬(25:Int)=0 by decide)
 split at h
 ·exact absurd h (show ¬(31:Int)=0 by decide)
 rename_i c2 c3 c4
 rw[if_neg c2,if_neg c3,if_neg c4]
 exact⟨by omega,Decidable.byContradiction c1,rfl⟩
theorem paint_do{D:DocL}(hi:Inv D){e:Ed}(hk:e.kind=4)(h0:(doD D e).1=0): ∃fr u ks,plugL (fr::u) ks=D.ks∧(paintF e fr.f).1=0∧(doD D e).2=⟨D.w,D.h,D.next,plugL (⟨fr.pre,(paintF e fr.f).2,fr.post⟩::u) ks⟩∧findL D.ks e.id=some (.mk fr.f ks)∧findL (doD D e).2.ks e.id=some (.mk (paintF e fr.f).2 ks):=by
 have hids:=(do_inv hi h0).ids'
 rcases fl_cases e.id D.ks with hn|⟨fr,u,ks,hf,hid,hp⟩
 ·exfalso
  obtain⟨_,hs,_⟩:=do_kinds h0
  rw[step_chg (by omega)] at hs
  unfold chgL at hs;rw[hn] at hs;simp at hs
 have hc:=do_chg (D:=D) (e:=e) (by omega) hf
 have hch:chgK D.w D.h e fr.f=paintF e fr.f:=by unfold chgK;rw[if_pos hk]
 rw[hch] at hc
 by_cases c:(paintF e fr.f).1≠0
 ·rw[if_pos c] at hc;rw[hc] at h0;exact absurd h0 c
 rw[if_neg c] at hc
 have h1:=Decidable.byContradiction c
 have hgid:(paintF e fr.f).2.id=fr.f.id:=by rw[(paint_rng h1).2.2]
 rw[hc] at hids ⊢
 simp only at hids ⊢
 have hf2:=fl_at (fr:=⟨_,(paintF e fr.f).2,_⟩) hids
 simp only at hf2
 rw[hgid,hid] at hf2
 refine⟨fr,u,ks,hp,h1,rfl,?_,?_⟩
 ·unfold findL;rw[hf]
 ·unfold findL;rw[hf2]
theorem paint_px{D:DocL}(hi:Inv D){e:Ed}(hk:e.kind=4)(h0:(doD D e).1=0){l:Lay}(hl:findL (doD D e).2.ks e.id=some l)(hm:l.f.map=oneM){W x y o:Int}(ho: ¬(e.x≤x∧x<e.x+e.w∧e.y≤y∧y<e.y+e.h∧x<l.f.w∧y<l.f.h)):lsPx W x y (doD D e).2.ks o=lsPx W x y D.ks o:=by
 obtain⟨fr,u,ks,hp,c,hd,_,hf2⟩:=paint_do hi hk h0
 rw[hf2] at hl
 cases hl
 rw[hd]
 obtain⟨_,hk0,hF⟩:=paint_rng c
 have hgp:(paintF e fr.f).2.p=paintP e fr.f.w fr.f.p:=by rw[hF]
 have hF2:(paintF e fr.f).2={fr.f with p:=(paintF e fr.f).2.p}:=by rw[hgp,hF]
 generalize (paintF e fr.f).2=g at hgp hF2 hm ho
 simp only[Lay.f] at hm ho
 have hgw:g.w=fr.f.w∧g.h=fr.f.h∧g.map=fr.f.map:=by rw[hF2];exact⟨rfl,rfl,rfl⟩
 rw[hgw.1,hgw.2.1] at ho
 rw[hgw.2.2] at hm
 rw[←hp]
 refine plug_eq (u:=u) (A:=fr.pre++ .mk g ks::fr.post) (B:=fr.pre++ .mk fr.f ks::fr.post) (fun o=>?_) o
 rw[lsPx_app,lsPx_app,lsPx,lsPx]
 congr 1
 generalize lsPx W x y fr.pre o=q
 have hpic:picAt fr.f.w fr.f.h fr.f.p x y=picAt fr.f.w fr.f.h g.p x y:=by
  rw[hgp]
  by_cases hx:x<fr.f.w∧y<fr.f.h
  ·exact paint_at (by omega)
  ·unfold picAt;rw[if_pos (by omega),if_pos (by omega)]
 have hse:=seen_at hm hF2 hpic
 rw[layPx,layPx,←hse,hF2]
 simp only[hk0]
 rfl
end Go.Proofs
namespace Go.Proofs
open Go.Sh
abbrev Ky:=Int×Int
def addK(ks:List Ky)(k:Ky):List Ky:=if k∈ks then ks else ks++[k]
def keyP(p:Pn)(i:Nat):Ky:=(p.X i/16,p.Y i/16)
def readK(p:Pn)(ks:List Ky):Nat→List Ky
 |0=>ks
 |i+1=>addK (readK p ks i) (keyP p i)
def KeyOk(D:DocL)(k:Ky):Prop:=(0≤k.1∧k.1*16<D.w)∧0≤k.2∧k.2*16<D.h
theorem addK_mem{ks:List Ky}{k x:Ky}:x∈addK ks k↔x∈ks∨x=k:=by
 unfold addK
 split
 ·exact⟨.inl,fun h=>h.elim id fun e=>e▸(by assumption)⟩
 ·simp
theorem addK_in{ks:List Ky}{k:Ky}(h:k∈ks):addK ks k=ks:=by unfold addK;rw[if_pos h]
theorem addK_out{ks:List Ky}{k:Ky}(h:k∉ks):addK ks k=ks++[k]:=by unfold addK;rw[if_neg h]
theorem addK_nodup{ks:List Ky}{k:Ky}(h:ks.Nodup):(addK ks k).Nodup:=by
 unfold addK
 split
 ·exact h
 ·rename_i hn
  rw[List.nodup_append]
  exact⟨h,by simp,fun a ha b hb hab=>hn (by rw[List.mem_singleton] at hb;subst hb;exact hab▸ha)⟩
theorem readK_nodup{p:Pn}{ks:List Ky}(h:ks.Nodup): ∀i,(readK p ks i).Nodup
 |0=>h
 |i+1=>addK_nodup (readK_nodup h i)
theorem readK_mem{p:Pn}{ks:List Ky}: ∀{i:Nat} {x:Ky},x∈readK p ks i↔x∈ks∨ ∃j,j<i∧x=keyP p j
 |0,x=>⟨.inl,fun h=>h.elim id fun⟨j,hj,_⟩=>absurd hj (Nat.not_lt_zero j)⟩
 |i+1,x=>by
  rw[readK,addK_mem,readK_mem]
  constructor
  ·rintro((h|⟨j,hj,h⟩)|h)
   ·exact .inl h
   ·exact .inr ⟨j,by omega,h⟩
   ·exact .inr ⟨i,by omega,h⟩
  ·rintro(h|⟨j,hj,h⟩)
   ·exact .inl (.inl h)
   ·by_cases hji:j=i
    ·subst hji;exact .inr h
    ·exact .inl (.inr ⟨j,by omega,h⟩)
theorem readK_pre{p:Pn}{ks:List Ky}: ∀i,∃N,readK p ks i=ks++N
 |0=>⟨[],by simp[readK]⟩
 |i+1=>by
  obtain⟨N,h⟩:=readK_pre (p:=p) (ks:=ks) i
  rw[readK,h]
  unfold addK
  split
  ·exact⟨N,rfl⟩
  ·exact⟨N++[keyP p i],by rw[List.append_assoc]⟩
theorem readK_len{p:Pn}{ks:List Ky}(i:Nat):ks.length≤(readK p ks i).length:=by
 obtain⟨N,h⟩:=readK_pre (p:=p) (ks:=ks) i
 rw[h,List.length_append];omega
theorem readK_all{p:Pn}{ks:List Ky}: ∀{i:Nat},(∀j,j<i→keyP p j∈ks)→readK p ks i=ks
 |0,_=>rfl
 |i+1,h=>by rw[readK,readK_all fun j hj=>h j (by omega),addK_in (h i (by omega))]
theorem readK_new{p:Pn}{ks:List Ky}(h:ks.Nodup)(i:Nat): ∃N:List Ky,readK p ks i=ks++N∧N.Nodup∧ ∀k∈N,k∉ks∧ ∃j,j<i∧k=keyP p j:=by
 obtain⟨N,e⟩:=readK_pre (p:=p) (ks:=ks) i
 have hn:=readK_nodup (p:=p) h i
 rw[e,List.nodup_append] at hn
 refine⟨N,e,hn.2.1,fun k hk=>?_⟩
 have h1:k∉ks:=fun h2=>hn.2.2 k h2 k hk rfl
 refine⟨h1,?_⟩
 have:=(readK_mem (p:=p) (ks:=ks) (i:=i) (x:=k)).1 (by rw[e];exact List.mem_append_right _ hk)
 exact this.resolve_left h1
theorem box_len{N:List Ky}(hn:N.Nodup){a b m n:Int}(hm:0≤m)(hn0:0≤n)(h: ∀k∈N,(a≤k.1∧k.1<a+m)∧b≤k.2∧k.2<b+n):(N.length:Int)≤m*n:=by
 have hmn:0≤m*n:=Int.mul_nonneg hm hn0
 have h1:=nodup_len (m*n).toNat (N.map fun k=>(k.2-b)*m+(k.1-a)+1) ?_ ?_
 ·rw[List.length_map] at h1;omega
 ·refine List.Pairwise.map _ (fun x y hxy=>?_) (List.pairwise_iff_forall_sublist.2 fun{x y} hs=>?_) (R:=fun x y:Ky=>x≠y∧x∈N∧y∈N)
  ·obtain⟨hne,hx,hy⟩:=hxy
   obtain⟨⟨x1,x2⟩,x3,x4⟩:=h x hx
   obtain⟨⟨y1,y2⟩,y3,y4⟩:=h y hy
   intro he
   have hm0:m≠0:=by omega
   have dv: ∀u v:Int,0≤u→u<m→(v*m+u)/m=v:=fun u v h0 h1=>by
    rw[Int.add_comm,Int.add_mul_ediv_right u v hm0,Int.ediv_eq_zero_of_lt h0 h1,Int.zero_add]
   have e1:=dv (x.1-a) (x.2-b) (by omega) (by omega)
   have e2:=dv (y.1-a) (y.2-b) (by omega) (by omega)
   have he':(x.2-b)*m+(x.1-a)=(y.2-b)*m+(y.1-a):=by omega
   rw[he'] at e1
   have hq:x.2-b=y.2-b:=e1.symm.trans e2
   rw[hq] at he'
   exact hne (Prod.ext (by omega) (by omega))
  ·have:=List.pairwise_iff_forall_sublist.1 hn hs
   exact⟨this,hs.subset (by simp),hs.subset (by simp)⟩
 ·intro v hv
  obtain⟨k,hk,rfl⟩:=List.mem_map.1 hv
  obtain⟨⟨x1,x2⟩,x3,x4⟩:=h k hk
  have h1:0≤(k.2-b)*m:=Int.mul_nonneg (by omega) hm
  have h2:(k.2-b)*m≤(n-1)*m:=Int.mul_le_mul_of_nonneg_right (by omega) hm
  have h3:(n-1)*m=m*n-m:=by rw[Int.sub_mul,Int.one_mul,Int.mul_comm n m]
  omega
def tilesN(x y w h:Int):Int:=if w<1∨h<1 then 0 else((x+w-1)/16-x/16+1)*((y+h-1)/16-y/16+1)
theorem tilesN_box{N:List Ky}(hn:N.Nodup){x y w h:Int}(hk: ∀k∈N,(1≤w∧1≤h)∧(x/16≤k.1∧k.1≤(x+w-1)/16)∧y/16≤k.2∧k.2≤(y+h-1)/16):(N.length:Int)≤tilesN x y w h:=by
 unfold tilesN
 by_cases hc:w<1∨h<1
 ·rw[if_pos hc]
  cases N with
  |nil=>exact Int.le_refl _
  |cons k N=>have:=(hk k List.mem_cons_self).1;omega
 ·rw[if_neg hc]
  exact box_len hn (a:=x/16) (b:=y/16) (by omega) (by omega) fun k hkm=>by have:=hk k hkm;omega
theorem read_tiles{D:DocL}{x y w h:Int}(hp:PnOk (regP D x y w h)){ks:List Ky}(hn:ks.Nodup):((readK (regP D x y w h) ks (regP D x y w h).n).length:Int)-ks.length≤tilesN x y w h:=by
 obtain⟨N,e,h1,h2⟩:=readK_new (p:=regP D x y w h) hn (regP D x y w h).n
 rw[e,List.length_append]
 have:=tilesN_box h1 (x:=x) (y:=y) (w:=w) (h:=h) fun k hk=>by
  obtain⟨_,j,hj,rfl⟩:=h2 k hk
  obtain⟨a1,a2,a3,a4,a5⟩:=hp.at hj
  have hX:(regP D x y w h).X j=x+(j:Int)%w:=rfl
  have hY:(regP D x y w h).Y j=y+(j:Int)/w:=rfl
  have a1:0<w:=a1
  have a4:0≤(j:Int)%w∧(j:Int)%w<w:=a4
  have a5:0≤(j:Int)/w∧(j:Int)/w<h:=a5
  show _∧(_≤(regP D x y w h).X j/16∧(regP D x y w h).X j/16≤_)∧_≤(regP D x y w h).Y j/16∧(regP D x y w h).Y j/16≤_
  rw[hX,hY]
  omega
 omega
theorem read_ok{D:DocL}{x y w h:Int}(hp:PnOk (regP D x y w h)){ks:List Ky}(hk: ∀k∈ks,KeyOk D k): ∀{i:Nat},i≤(regP D x y w h).n→ ∀k∈readK (regP D x y w h) ks i,KeyOk D k:=fun{i} hi k hm=>by
 rcases readK_mem.1 hm with h1|⟨j,hj,rfl⟩
 ·exact hk k h1
 ·obtain⟨_,a2,a3,_,_⟩:=hp.at (i:=j) (by omega)
  have a2:0≤(regP D x y w h).X j∧(regP D x y w h).X j<D.w:=a2
  have a3:0≤(regP D x y w h).Y j∧(regP D x y w h).Y j<D.h:=a3
  unfold KeyOk keyP
  simp only
  omega
def tileP(D:DocL)(k:Ky):Pn:=regP D (k.1*16) (k.2*16) (min 16 (D.w-k.1*16)) (min 16 (D.h-k.2*16))
def tileL(D:DocL)(k:Ky):List Int:=picL (tileP D k) D.ks
theorem tileOk{D:DocL}(hi:Inv D){k:Ky}(hk:KeyOk D k):PnOk (tileP D k)∧RegOk D (k.1*16) (k.2*16) (min 16 (D.w-k.1*16)) (min 16 (D.h-k.2*16)):=by
 obtain⟨s1,s2⟩:=hi.sides
 obtain⟨⟨h1,h2⟩,h3,h4⟩:=hk
 refine⟨⟨?_,?_,?_,?_,?_,?_⟩,⟨?_,?_,?_,?_⟩⟩
 ·show 0≤D.w∧D.w≤32768;omega
 ·show 0≤D.h∧D.h≤32768;omega
 ·show 0≤k.1*16;omega
 ·show 0≤k.2*16;omega
 ·show 0≤min 16 (D.w-k.1*16)∧k.1*16+min 16 (D.w-k.1*16)≤D.w;omega
 ·show 0≤min 16 (D.h-k.2*16)∧k.2*16+min 16 (D.h-k.2*16)≤D.h;omega
 all_goals omega
theorem tile_at{D:DocL}(hi:Inv D){x y:Int}(hx:0≤x∧x<D.w)(hy:0≤y∧y<D.h):KeyOk D (x/16,y/16)∧y%16*min 16 (D.w-x/16*16)+x%16<(tileP D (x/16,y/16)).n∧0≤y%16*min 16 (D.w-x/16*16)∧
 (tileL D (x/16,y/16)).getD (y%16*min 16 (D.w-x/16*16)+x%16).toNat 0=lsPx D.w x y D.ks 0:=by
 have hk:KeyOk D (x/16,y/16):=by unfold KeyOk;simp only;omega
 obtain⟨hp,_⟩:=tileOk hi hk
 have hpn:=hp.n
 have hpn:((tileP D (x/16,y/16)).n:Int)=min 16 (D.w-x/16*16)*min 16 (D.h-y/16*16):=hpn
 obtain⟨w',hw'⟩: ∃w':Nat,min 16 (D.w-x/16*16)=w':=⟨(min 16 (D.w-x/16*16)).toNat,by omega⟩
 obtain⟨h',hh'⟩: ∃h':Nat,min 16 (D.h-y/16*16)=h':=⟨(min 16 (D.h-y/16*16)).toNat,by omega⟩
 obtain⟨i,hi'⟩: ∃i:Nat,x%16=i:=⟨(x%16).toNat,by omega⟩
 obtain⟨j,hj'⟩: ∃j:Nat,y%16=j:=⟨(y%16).toNat,by omega⟩
 have hil:i<w':=by omega
 have hjl:j<h':=by omega
 have:=reg_at (D:=D) (x:=x/16*16) (y:=y/16*16) hil hjl
 have hlt:(j+1)*w'≤h'*w':=Nat.mul_le_mul_right _ hjl
 rw[Nat.add_mul,Nat.one_mul] at hlt
 have e:(tileP D (x/16,y/16)).n=h'*w':=by
  rw[hw',hh'] at hpn
  have h1:((w':Int)*(h':Int))=((h'*w':Nat):Int):=by rw[Int.natCast_mul,Int.mul_comm]
  omega
 rw[hw',hi',hj',e]
 have h2:((j:Int)*(w':Int))=((j*w':Nat):Int):=by rw[Int.natCast_mul]
 rw[h2]
 refine⟨hk,by omega,by omega,?_⟩
 rw[show(((j*w':Nat):Int)+(i:Int)).toNat=j*w'+i from by omega]
 unfold tileL tileP
 simp only
 rw[hw',hh',this]
 congr 1<;>omega
theorem tile_eq{D E:DocL}(hw:E.w=D.w)(hh:E.h=D.h)(hi:Inv D){k:Ky}(hk:KeyOk D k)(h: ∀x y,k.1*16≤x→x<k.1*16+16→x<D.w→k.2*16≤y→y<k.2*16+16→y<D.h→lsPx D.w x y E.ks 0=lsPx D.w x y D.ks 0):tileL E k=tileL D k:=by
 have hp:=(tileOk hi hk).1
 have e:tileP E k=tileP D k:=by unfold tileP regP;rw[hw,hh]
 unfold tileL
 rw[e]
 refine List.map_congr_left fun i hi'=>?_
 obtain⟨_,a2,a3,a4,a5⟩:=hp.at (List.mem_range.1 hi')
 have a2:0≤(tileP D k).X i∧(tileP D k).X i<D.w:=a2
 have a3:0≤(tileP D k).Y i∧(tileP D k).Y i<D.h:=a3
 have hX:(tileP D k).X i=k.1*16+(i:Int)%min 16 (D.w-k.1*16):=rfl
 have hY:(tileP D k).Y i=k.2*16+(i:Int)/min 16 (D.w-k.1*16):=rfl
 have a4:0≤(i:Int)%min 16 (D.w-k.1*16)∧(i:Int)%min 16 (D.w-k.1*16)<min 16 (D.w-k.1*16):=a4
 have a5:0≤(i:Int)/min 16 (D.w-k.1*16)∧(i:Int)/min 16 (D.w-k.1*16)<min 16 (D.h-k.2*16):=a5
 exact h _ _ (by omega) (by omega) a2.2 (by omega) (by omega) a3.2
end Go.Proofs
namespace Go.Proofs
open Go.Sh
structure HL where
 now:DocL
 past:List DocL
 fut:List DocL
structure HOk(n:Nat)(h:HL):Prop where
 inv: ∀d,d=h.now∨d∈h.past∨d∈h.fut→Inv d∧d.next≤n+1
 len:h.past.length+h.fut.length≤n
theorem HOk.mono{n m:Nat}{h:HL}(hk:HOk n h)(hm:n≤m):HOk m h:=⟨fun d hd=>⟨(hk.inv d hd).1,by have:=(hk.inv d hd).2;omega⟩,by have:=hk.len;omega⟩
theorem HOk.now{n:Nat}{h:HL}(hk:HOk n h):Inv h.now∧h.now.next≤n+1:=hk.inv _ (.inl rfl)
theorem HOk.start{w h:Int}(hs:sizedB w h=true):HOk 0 ⟨⟨w,h,1,[]⟩,[],[]⟩:=
 ⟨fun d hd=>by simp at hd;subst hd;exact⟨new_inv hs,by show(1:Int)≤0+1;omega⟩,by simp⟩
def atH(all:List DocL)(k:Nat):HL:=⟨all.getD k zeroD,all.take k,(all.drop (k+1)).reverse⟩
theorem at_split(all:List DocL){k:Nat}(hk:k<all.length): ∃a x b,all=a++x::b∧a.length=k:=
 ⟨all.take k,all[k],all.drop (k+1),by rw[←List.drop_eq_getElem_cons hk,List.take_append_drop],by simp;omega⟩
theorem at_app(a b:List DocL)(x:DocL):atH (a++x::b) a.length=⟨x,a,b.reverse⟩:=by
 unfold atH
 simp[List.getD_eq_getElem?_getD]
theorem at_len(all:List DocL)(k:Nat)(hk:k<all.length):(atH all k).past.length=k∧(atH all k).fut.length=all.length-1-k:=by
 unfold atH;simp;omega
end Go.Proofs
namespace Go.Sh
variable {H0 H H':Heap} {σ τ:List Rs}
end Go.Sh
namespace Go.Proofs
open Go.Sh
variable {H0 H:Heap} {σ:List Rs} {R:Value→Heap→Prop}
abbrev PD:=Sl3×DocL
def arrP(x:PD):Array Value:=docA x.2.w x.2.h x.2.next x.1
def cellsP(l:List PD):List Value:=(l.map fun x=>(arrP x).toList).flatten
def DocK(H:Heap)(x:PD):Prop:=DocR H (arrP x) x.2
theorem arrP_size(x:PD):(arrP x).size=4:=rfl
theorem arrP_one(x:PD): ∀v∈(arrP x).toList,v.oneCell'=true:=docA_one _ _ _ _
theorem cellsP_app(a b:List PD):cellsP (a++b)=cellsP a++cellsP b:=by simp[cellsP]
theorem cellsP_one(x:PD):cellsP [x]=(arrP x).toList:=by simp[cellsP]
theorem cellsP_cons(x:PD)(l:List PD):cellsP (x::l)=(arrP x).toList++cellsP l:=by simp[cellsP]
theorem cellsP_len: ∀l:List PD,(cellsP l).length=l.length*4
 |[]=>rfl
 |x::l=>by rw[cellsP_cons,List.length_append,cellsP_len l,List.length_cons,Array.length_toList,arrP_size];omega
theorem cellsP_get{l:List PD}{i:Nat}{x:PD}(h:l[i]?=some x){j:Nat}{v:Value}(hv:(arrP x)[j]?=some v):(cellsP l)[i*4+j]?=some v:=by
 have hj:j<4:=(Array.getElem?_eq_some_iff.1 hv).1
 induction l generalizing i with
 |nil=>simp at h
 |cons y l ih=>
  rw[cellsP_cons]
  cases i with
  |zero=>
   simp at h;subst h
   rw[Nat.zero_mul,Nat.zero_add,List.getElem?_append_left (by rw[Array.length_toList];exact hj)];simpa using hv
  |succ i=>
   rw[List.getElem?_append_right (by rw[Array.length_toList,arrP_size];omega),Array.length_toList,arrP_size,show(i+1)*4+j-4=i*4+j from by omega]
   exact ih (by simpa using h)
theorem DocK.ext{H H':Heap}{x:PD}(h:DocK H x)(he:Ext H H'):DocK H' x:=DocR.ext h he
structure PdsR(H:Heap)(P:Sl3)(l:List PD):Prop where
 rs:RS H P.p P.l 26 4 (cellsP l)
 doc: ∀x∈l,DocK H x
theorem PdsR.ext{H H':Heap}{P:Sl3}{l:List PD}(h:PdsR H P l)(he:Ext H H'):PdsR H' P l:=⟨h.rs.ext he,fun x hx=>(h.doc x hx).ext he⟩
theorem PdsR.len{H:Heap}{P:Sl3}{l:List PD}(h:PdsR H P l):P.l=l.length:=by have:=h.rs.len;rw[cellsP_len] at this;omega
theorem pds_row{H:Heap}{P:Sl3}{l:List PD}(h:RS H P.p P.l 26 4 (cellsP l)){i:Nat}{x:PD}(hx:l[i]?=some x): ∃a,P.p=some a∧rowIn H (a.add (i*4)) (arrP x):=by
 have hi:=(List.getElem?_eq_some_iff.1 hx).1
 have hl:P.l=l.length:=by have:=h.len;rw[cellsP_len] at this;omega
 obtain⟨blk,h1,h2⟩:=h.row (i:=i) (by omega) (by decide) (xs:=arrP x) fun j v hv=>cellsP_get hx hv
 refine⟨_,h1,?_⟩
 rw[add_none,Nat.zero_add]
 exact h2
theorem PdsR.row{H:Heap}{P:Sl3}{l:List PD}(h:PdsR H P l){i:Nat}{x:PD}(hx:l[i]?=some x): ∃a,P.p=some a∧rowIn H (a.add (i*4)) (arrP x)∧DocK H x:=
 let ⟨a,h1,h2⟩:=pds_row h.rs hx;⟨a,h1,h2,h.doc x (List.mem_of_getElem? hx)⟩
theorem docR_arr{H:Heap}{A:Array Value}{D:DocL}(h:DocR H A D): ∃K,A=arrP (K,D):=let ⟨K,_,h1,_⟩:=h;⟨K,h1⟩
def pdRs(l:List PD):Rs:= .pers fun H=> ∀x∈l,DocK H x
theorem _root_.Go.Sh.St.pd(hs:St H0 H σ)(i:Nat){l:List PD}(hi:σ[i]?=some (pdRs l)){x:PD}(hx:x∈l):DocK H x:=hs.persGet i hi x hx
theorem _root_.Go.Sh.St.pdSub{l l':List PD}(hs:St H0 H (pdRs l::σ))(h: ∀x∈l',x∈l):St H0 H (pdRs l'::σ):=
 St.persOf (τ:=[pdRs l]) hs fun H' h' x hx=>h'.pd 0 rfl (h x hx)
theorem _root_.Go.Sh.St.pdAdd{A:Array Value}{x:PD}{l:List PD}(hs:St H0 H (docRs A x.2::pdRs l::σ))(hA:A=arrP x):St H0 H (pdRs (x::l)::σ):=
 St.persOf (τ:=[docRs A x.2,pdRs l]) hs fun H' h' y hy=>by
  rcases List.mem_cons.1 hy with rfl|hy
  ·have:=h'.doc 0 rfl
   rw[hA] at this
   exact this
  ·exact h'.pd 1 rfl hy
structure HM where
 now:PD
 P:Sl3
 F:Sl3
 past:List PD
 fut:List PD
def HM.abs(m:HM):HL:=⟨m.now.2,m.past.map Prod.snd,m.fut.map Prod.snd⟩
def histA(x:PD)(P F:Sl3):Array Value:=#[.int .i64 x.2.w,.int .i64 x.2.h,.int .i64 x.2.next,x.1.v,P.v,F.v]
structure StR(H:Heap)(A:Array Value)(h:HL):Prop where
 ex: ∃(m:HM),m.abs=h∧A=histA m.now m.P m.F∧DocK H m.now∧PdsR H m.P m.past∧PdsR H m.F m.fut
theorem StR.ext{H H':Heap}{A:Array Value}{h:HL}(hs:StR H A h)(he:Ext H H'):StR H' A h:=by
 obtain⟨m,h1,h2,h3,h4,h5⟩:=hs.ex
 exact⟨m,h1,h2,h3.ext he,h4.ext he,h5.ext he⟩
end Go.Proofs
namespace Go.Proofs
open Go.Sh
variable {H0 H:Heap} {σ:List Rs} {R:Value→Heap→Prop}
theorem fl_skipH{id:Int}: ∀(A B:List Lay) (up:List FrL) (pre:List Lay),id∉idsKs A→flK up pre id (A++B)=flK up (pre++A) id B
 |[],B,up,pre,_=>by rw[List.nil_append,List.append_nil]
 |t::A,B,up,pre,h=>by
  rw[idsKs,List.mem_append,not_or] at h
  rw[List.cons_append,flK,(fl_none id t up pre (A++B)).2 h.1]
  simp only
  rw[fl_skipH A B up (pre++[t]) h.2,List.append_assoc];rfl
theorem find_top{D:DocL}(hi:Inv D){l:Lay}(hl:l∈D.ks):findL D.ks l.f.id=some l:=by
 obtain⟨pre,post,he⟩:=List.append_of_mem hl
 have hn:=hi.ids
 rw[he,idsKs_app,List.nodup_append] at hn
 obtain⟨f,ks⟩:=l
 have h1:f.id∉idsKs pre:=fun h=>hn.2.2 _ h f.id (by rw[idsKs,idsT];exact List.mem_append_left _ List.mem_cons_self) rfl
 unfold findL
 show(match flK [] [] f.id D.ks with|some (fr::_,ks)=>some (Lay.mk fr.f ks)|_=>none)=_
 rw[he,fl_skipH _ _ _ _ h1,flK,flT,if_pos rfl]
theorem perm4{α:Type}(a b c d:α):[a,b,c,d].Perm [b,d,c,a]:=permC fun _ x=>by simp only[List.count_cons,List.count_nil];ac_rfl
end Go.Proofs
namespace Go.Proofs
open Go.Sh
variable {H0 H:Heap} {σ:List Rs} {R:Value→Heap→Prop}
def _root_.Go.Sh.Rs.obj(r:Nat)(o:Obj):Rs where
 at_ H fp:=fp=[r]∧H[r]?=some o
 loc h hk:=⟨h.1,hk _ (by rw[h.1];exact List.mem_singleton.2 rfl) _ h.2⟩
 has h b hb:=by rw[h.1,List.mem_singleton] at hb;subst hb;exact lt_of_get h.2
theorem _root_.Go.Sh.St.objGet(hs:St H0 H σ)(i:Nat){r:Nat}{o:Obj}(hi:σ[i]?=some (.obj r o)):H[r]?=some o:=by
 obtain⟨_,fps,hl,_⟩:=hs
 obtain⟨fp,_,h⟩:=hl.get hi
 exact h.2
theorem _root_.Go.Sh.St.objSet(hs:St H0 H σ)(i:Nat){r:Nat}{o:Obj}(o':Obj)(hi:σ[i]?=some (.obj r o)):St H0 (H.setIfInBounds r o') (σ.set i (.obj r o')):=
 hs.upd hi fun fp h1 _ _=>⟨[r],⟨rfl,get_set_self h1.2⟩,by simp,fun x hx=> .inl (h1.1▸hx),fun x o ho hx=>get_set_ne (fun he=>hx (by rw[h1.1,he];exact List.mem_singleton.2 rfl)) ho⟩
theorem _root_.Go.Sh.St.alcO(hs:St H0 H σ){o:Obj}{K:Nat→Heap→Prop}(hK: ∀b H',St H0 H' (.obj b o::σ)→K b H'):Sh.alc H o K:=
 hK _ _ (hs.new (Ext.push _ _) (fp:=[H.size]) ⟨rfl,get_push_self _ _⟩ (by simp) (by simp))
end Go.Proofs
namespace Go.Proofs
open Go.Sh
variable {H0 H:Heap} {σ:List Rs} {R:Value→Heap→Prop}
abbrev Ent:=Ky×Sl3×Nat
def keyV(k:Ky):Value:= .agg #[.int .i64 k.1,.int .i64 k.2]
def entV(x:Ent):MapEntry:={key:=keyV x.1,val:=x.2.1.v,born:=x.2.2}
def mapO(L:List Ent)(c:Nat):Obj:= .map (L.map entV).toArray c
theorem key_form(k:Ky):kForm (.arr 2 3) (.int .i64) (keyV k):=⟨rfl,_,_,rfl⟩
theorem ent_form(L:List Ent): ∀e∈(L.map entV).toArray.toList,kForm (.arr 2 3) (.int .i64) e.key:=fun e he=>by
 simp only[List.mem_map] at he
 obtain⟨x,_,rfl⟩:=he
 exact key_form x.1
theorem kEq_key(a b:Ky):kEq (keyV a) (keyV b)=decide (a=b):=by
 obtain⟨a1,a2⟩:=a
 obtain⟨b1,b2⟩:=b
 simp only[keyV,kEq,Prod.mk.injEq,decide_true,Bool.true_and]
 by_cases h1:a1=b1<;>by_cases h2:a2=b2<;>simp[h1,h2]
theorem ent_none{k:Ky}: ∀{L:List Ent} {n:Nat},k∉L.map Prod.fst→findE (keyV k) (L.map entV) n=none
 |[],_,_=>rfl
 |x::L,n,h=>by
  rw[List.map_cons,List.mem_cons,not_or] at h
  show(if kEq (keyV k) (keyV x.1)=true then _ else findE (keyV k) (L.map entV) (n+1))=none
  rw[kEq_key,if_neg (by simpa using h.1)]
  exact ent_none h.2
theorem ent_some{x:Ent}{B:List Ent}: ∀{A:List Ent} {n:Nat},x.1∉A.map Prod.fst→findE (keyV x.1) ((A++x::B).map entV) n=some (n+A.length,x.2.1.v)
 |[],n,_=>by
  show(if kEq (keyV x.1) (keyV x.1)=true then _ else _)=_
  rw[kEq_key,if_pos (by simp)];rfl
 |y::A,n,h=>by
  rw[List.map_cons,List.mem_cons,not_or] at h
  show(if kEq (keyV x.1) (keyV y.1)=true then _ else findE (keyV x.1) ((A++x::B).map entV) (n+1))=_
  rw[kEq_key,if_neg (by simpa using h.1),ent_some h.2,List.length_cons]
  congr 2;omega
theorem ent_split{k:Ky}{L:List Ent}(hn:(L.map Prod.fst).Nodup)(h:k∈L.map Prod.fst): ∃A x B,L=A++x::B∧x.1=k∧k∉A.map Prod.fst∧k∉B.map Prod.fst:=by
 obtain⟨x,hx,rfl⟩:=List.mem_map.1 h
 obtain⟨A,B,rfl⟩:=List.append_of_mem hx
 rw[List.map_append,List.map_cons,List.nodup_append] at hn
 refine⟨A,x,B,rfl,rfl,fun hA=>hn.2.2 _ hA x.1 List.mem_cons_self rfl,fun hB=>?_⟩
 have:=hn.2.1
 rw[List.nodup_cons] at this
 exact this.1 hB
theorem ent_del{r c:Nat}{L:List Ent}{k:Ky}{f:Heap→Prop}(hn:(L.map Prod.fst).Nodup)(h:H[r]?=some (mapO L c))(hf:f (H.setIfInBounds r (mapO (L.filter fun x=>decide (x.1≠k)) c))):delQ (.arr 2 3) (.int .i64) (.map (some r)) (keyV k) H f:=by
 refine⟨r,rfl,_,_,h,key_form k,ent_form L,fun h0=>?_,fun n u h1=>?_⟩
 ·by_cases hk:k∈L.map Prod.fst
  ·obtain⟨A,x,B,rfl,rfl,hA,_⟩:=ent_split hn hk
   have:=ent_some (B:=B) (n:=0) hA
   rw[show findE (keyV x.1) ((A++x::B).map entV).toArray.toList 0=_ from this] at h0
   cases h0
  ·have e:(L.filter fun x=>decide (x.1≠k))=L:=List.filter_eq_self.2 fun x hx=>by
    rw[decide_eq_true_eq];exact fun he=>hk (he▸List.mem_map_of_mem hx)
   rw[e] at hf;exact hf
 ·by_cases hk:k∈L.map Prod.fst
  ·obtain⟨A,x,B,rfl,rfl,hA,hB⟩:=ent_split hn hk
   have:=ent_some (B:=B) (n:=0) hA
   rw[show findE (keyV x.1) ((A++x::B).map entV).toArray.toList 0=_ from this] at h1
   cases h1
   have hf1: ∀{M:List Ent},x.1∉M.map Prod.fst→(M.filter fun y=>decide (y.1≠x.1))=M:=fun{M} hM=>List.filter_eq_self.2 fun y hy=>by
    rw[decide_eq_true_eq];exact fun he=>hM (he▸List.mem_map_of_mem hy)
   have e:((A++x::B).filter fun y=>decide (y.1≠x.1))=A++B:=by
    rw[List.filter_append,hf1 hA,List.filter_cons,if_neg (by simp),hf1 hB]
   rw[e] at hf
   have e2:((A++x::B).map entV).toArray.eraseIdxIfInBounds (0+A.length)=((A++B).map entV).toArray:=by
    apply Array.toList_inj.1
    rw[Array.toList_eraseIdxIfInBounds,List.toList_toArray,List.toList_toArray,List.map_append,List.map_cons,List.map_append,Nat.zero_add]
    rw[List.eraseIdx_append_of_length_le (by rw[List.length_map];exact Nat.le_refl _),List.length_map,Nat.sub_self];rfl
   rw[e2]
   exact hf
  ·have:=ent_none (n:=0) hk
   rw[show findE (keyV k) (L.map entV).toArray.toList 0=_ from this] at h1
   cases h1
structure LvS where
 D:DocL
 ks:List Ky
 n:Int
structure LvM where
 K:Sl3
 m:Nat
 c:Nat
 L:List Ent
structure LvOk(s:LvS):Prop where
 inv:Inv s.D
 nodup:s.ks.Nodup
 keys: ∀k∈s.ks,KeyOk s.D k
 len:(s.ks.length:Int)≤s.n
def lvA(D:DocL)(K:Sl3)(m:Nat)(n:Int):Array Value:=#[.int .i64 D.w,.int .i64 D.h,.int .i64 D.next,K.v,.map (some m),.int .i64 n]
def tlRs(D:DocL)(L:List Ent):Rs:= .pers fun H=> ∀x∈L,x.2.1.l=(tileP D x.1).n∧IS H x.2.1.p x.2.1.l (ints (tileL D x.1))
def lvList(b:Nat)(s:LvS)(M:LvM):List Rs:=[.cell b (lvA s.D M.K M.m s.n) 74,.obj M.m (mapO M.L M.c),docRs (docA s.D.w s.D.h s.D.next M.K) s.D,tlRs s.D M.L]
def lvRs(b:Nat)(s:LvS):Rs:= .ex fun(M:LvM)=> .pu (M.L.map Prod.fst=s.ks) (starAll (lvList b s M))
theorem lvIn{b:Nat}{s:LvS}(M:LvM)(h:M.L.map Prod.fst=s.ks)(hs:St H0 H (lvList b s M++σ)):St H0 H (lvRs b s::σ):=
 St.inex (f:=fun(M:LvM)=> .pu (M.L.map Prod.fst=s.ks) (starAll (lvList b s M))) M (St.with h (St.packAll _ hs))
theorem lvOut{b:Nat}{s:LvS}(hs:St H0 H (lvRs b s::σ)): ∃M:LvM,M.L.map Prod.fst=s.ks∧St H0 H (lvList b s M++σ):=by
 obtain⟨M,h1⟩:=St.unex hs
 obtain⟨h2,h3⟩:=St.fact h1
 exact⟨M,h2,St.unpackAll _ h3⟩
theorem tlNil{D:DocL}(hs:St H0 H σ):St H0 H (tlRs D []::σ):=St.persOf (τ:=[]) hs fun H' _ x hx=>by cases hx
theorem tlSub{D E:DocL}{L L':List Ent}(hs:St H0 H (tlRs D L::σ))(h: ∀x∈L',x∈L∧tileL E x.1=tileL D x.1∧(tileP E x.1).n=(tileP D x.1).n):St H0 H (tlRs E L'::σ):=
 St.persOf (τ:=[tlRs D L]) hs fun H' h' x hx=>by
  obtain⟨h1,h2,h3⟩:=h x hx
  have:=h'.persGet 0 rfl x h1
  rw[h2,h3];exact this
theorem lv_row{b:Nat}{D:DocL}{K:Sl3}{m:Nat}{n:Int}(h:H[b]?=some (.cells (lvA D K m n) 74)):rowIn H ⟨b,0,none⟩ (docA D.w D.h D.next K):=
 rowIn_block h fun j v hv=>by
  rw[Nat.zero_add]
  have hj:j<4:=(Array.getElem?_eq_some_iff.1 hv).1
  match j,hj with
  |0,_=>exact hv
  |1,_=>exact hv
  |2,_=>exact hv
  |3,_=>exact hv
theorem c25{A:Array Value}{D:DocL}(hs:St H0 H σ)(hd:DocR H A D)(hi:Inv D)(hR: ∀A' H',DocR H' A' D→St H0 H' (docRs A' D::σ)→R (.agg A') H'):CallsH Tryz.prog 25 #[.agg A] H R:=by
 have hd0:=hd
 obtain⟨K,ks,rfl,hg,hlk⟩:=hd
 have hlen:ks.length≤1000000000:=by have h1:=len_cnt D.ks;have:=hi.cnt;rw[←hlk,layKs_len] at h1;rw[←hlk] at this;omega
 have hKl:=hg.1.1
 refine Tryz.s25 ?_
 unfold Tryz.S25
 refine(St.nil H).alc fun b2 H3 hs3=>hs3.alc fun b4 H5 hs5=>⟨_,hs5.get 1 rfl (j:=0) rfl,_,hs5.get 1 rfl (j:=1) rfl,_,hs5.get 1 rfl (j:=2) rfl,hs5.alc fun b9 H10 hs10=>⟨rfl,hs10.putAll 0 rfl rfl (docA_one D.w D.h D.next .nil) fun H11 hs11=>⟨K.p,K.l,K.c,hs11.get 2 rfl (j:=3) rfl,?_⟩⟩⟩
 intro X13 hX13
 have go: ∀k,k≤ks.length→ ∀(K':Sl3) (built:List T) H1,layKs built=D.ks.take k→St H H1 (.cell b9 (docA D.w D.h D.next K') 26:: .cell b2 (docA D.w D.h D.next K) 26:: .cell b4 (docA 0 0 0 .nil) 26::resG K' built)→X13 [.int .i64 (k:Nat)] H1:=by
  refine upto fun k hk ih K' built H1 hb hs1=>hX13 _ _ (br_dec (fun hlt=>?_) fun hge=>?_)
  ·have hk':k<ks.length:=by omega
   have ht:=List.getElem?_eq_getElem hk'
   generalize hte:ks[k]=t at ht
   obtain⟨a,h1,h2,h3⟩:=(hg.ext hs1.ext).get ht
   have hmem:layT t∈D.ks:=by rw[←hlk,layKs_map];exact List.mem_map_of_mem (List.mem_of_getElem? ht)
   refine⟨a,h1,by omega,hlt,(cellsT t).toArray,by simp[cellsT_len],h2,hs1.alc fun b18 H19 hs19=>⟨by simp[cellsT_len],hs19.putAll 0 rfl (by simp[cellsT_len]) (by simpa using cellsT_one t) fun H20 hs20=>⟨_,rfl,rowIn_whole (hs20.block 2 rfl),t.f.id,?_,?_⟩⟩⟩
   ·have:=hs20.get 0 rfl (j:=0) (v:= .int .i64 t.f.id) (by cases t;rfl)
    simpa using this
   refine find_st hs20 (hd0.ext hs20.ext) hi (fun hn=>?_) fun l hl B H24 hB hs24=>⟨_,_,rfl,?_⟩
   ·rw[←layT_f,find_top hi hmem] at hn;cases hn
   obtain rfl:l=layT t:=by rw[←layT_f,find_top hi hmem] at hl;cases hl;rfl
   obtain⟨t',hx1⟩:=St.unex hs24
   obtain⟨⟨rfl,hlt'⟩,hx2⟩:=St.fact hx1
   have hs24:=St.unpackAll _ hx2
   have hs24:=hs24.perm List.perm_append_comm
   refine hs24.alc fun b27 H28 hs28=>⟨by simp[cellsT_len],hs28.putAll 0 rfl (by simp[cellsT_len]) (by simpa using cellsT_one t') fun H29 hs29=>⟨K'.p,K'.l,K'.c,hs29.get 2 rfl (j:=3) rfl,_,by simp[cellsT_len],rowIn_whole (hs29.block 0 rfl),by simp[cellsT_len],by decide,?_⟩⟩
   rw[setL_all (by simp[cellsT_len])]
   have hbl:built.length=k:=by rw[←layKs_len,hb,List.length_take,←hlk,layKs_len];omega
   have hK'l:K'.l=k:=by have:=(hs29.fs 5 rfl).len;rw[cellsKs_len] at this;omega
   refine hs29.alc fun b32 H33 hs33=>hs33.appC 6 0 rfl rfl (by simp[cellsT_len]) (by simpa using cellsT_one t') (by decide) rfl (by omega) (by omega) fun p' c' H35 hs35=>?_
   refine hs35.put 3 rfl (j:=3) (Nat.le_of_ble_eq_true rfl) rfl fun H36 hs36=>?_
   rw[wrap_id (by omega) (by omega)]
   refine ih hk' ⟨p',K'.l+1,c'⟩ (built++[t']) H36 ?_ ?_
   ·rw[layKs_app,hb,List.take_add_one]
    have:D.ks[k]?=some (layT t):=by rw[←hlk,layKs_map,List.getElem?_map,ht];rfl
    rw[this,←hlt',layKs_map];rfl
   ·have e:(cellsT t').toArray.toList=cellsKs [t']:=by rw[cellsKs_one]
    rw[show cellsKs built++(cellsT t').toArray.toList=cellsKs (built++[t']) from by rw[cellsKs_app,e]] at hs36
    have this:St H H36 (.cell b9 (docA D.w D.h D.next ⟨p',K'.l+1,c'⟩) 26:: .cell b2 (docA D.w D.h D.next K) 26:: .cell b4 (docA 0 0 0 .nil) 26:: .sl p' (K'.l+1) c' 70 19 (cellsKs (built++[t']))::(resKs built++resT t')):=hs36.drop 3
    rw[←resKs_one,←resKs_app] at this
    exact this
  ·obtain rfl:k=ks.length:=by omega
   have hfull:layKs built=D.ks:=by rw[hb,List.take_of_length_le (by rw[←hlk,layKs_len];exact Nat.le_refl _)]
   refine⟨_,rfl,rowIn_whole (hs1.block 0 rfl),rfl,hs1.putAll 2 rfl rfl (docA_one _ _ _ _) fun H38 hs38=>⟨_,rfl,rowIn_whole (hs38.block 2 rfl),?_⟩⟩
   have hf:=St_docIn (H0:=H0) (σ:=σ) rfl hfull (by have:=hs.call (hs38.drop 3);exact this)
   exact hR _ _ (hf.doc 0 rfl) hf
 have hs12:St H H11 [.cell b9 (docA D.w D.h D.next .nil) 26,.cell b4 (docA 0 0 0 .nil) 26,.cell b2 (docA D.w D.h D.next K) 26]:=hs11
 exact go 0 (Nat.zero_le _) .nil [] H11 rfl ((hs12.nilSl 70 19).perm (perm4 _ _ _ _))
theorem docA_arr{H:Heap}{A:Array Value}{D:DocL}(h:DocR H A D): ∃K,A=docA D.w D.h D.next K:=let ⟨K,_,h1,_⟩:=h;⟨K,h1⟩
theorem set_call{b:Nat}{A:Array Value}{E:DocL}{c0 c1 c2 c3 c4:Value}{n:Int}(hs:St H0 H (.cell b #[c0,c1,c2,c3,c4,.int .i64 n] 74::σ))(hd:DocR H A E)(hi:Inv E)(hR: ∀H',St H0 H' (lvRs b ⟨E,[],n⟩::σ)→R (.tuple #[]) H'):CallsH Tryz.prog 15 #[.pointer (some ⟨b,0,none⟩),.agg A] H R:=by
 refine Tryz.s15 ?_
 unfold Tryz.S15
 refine hs.alcE fun b3 H4 he4 hs4=>⟨A,hd.size,rowIn_whole (hs4.block 0 rfl),c25 hs4 (hd.ext he4) hi fun A' H7 hd' hs7=>⟨_,rfl,hs7.alcO fun b9 H10 hs10=>⟨_,rfl,hd'.size,?_⟩⟩⟩
 obtain⟨K',rfl⟩:=docA_arr hd'
 refine hs10.putRow 3 rfl (j:=0) (vs:=(docA E.w E.h E.next K').toList) (Nat.le_of_ble_eq_true rfl) (docA_one _ _ _ _) fun H12 hs12=>⟨_,rfl,?_⟩
 refine hs12.put 3 rfl (j:=4) (Nat.le_of_ble_eq_true rfl) rfl fun H14 hs14=>hR H14 ?_
 have hs15:St H0 H14 (.obj b9 (mapO [] 0)::docRs (docA E.w E.h E.next K') E:: .cell b3 A 26:: .cell b (lvA E K' b9 n) 74::σ):=hs14
 have h16:=tlNil (D:=E) (hs15.del 2)
 refine lvIn ⟨K',b9,0,[]⟩ rfl (h16.perm ?_)
 exact(permC (a:=[_,_,_,_]) (b:=[_,_,_,_]) fun _ y=>by simp only[List.count_cons,List.count_nil];ac_rfl).append_right σ
theorem c8{A:Array Value}{E:DocL}(hs:St H0 H σ)(hd:DocR H A E)(hi:Inv E)(hR: ∀b H',St H0 H' (lvRs b ⟨E,[],0⟩::σ)→R (.pointer (some ⟨b,0,none⟩)) H'):CallsH Tryz.prog 8 #[.agg A] H R:=by
 refine Tryz.s8 ?_
 unfold Tryz.S8
 refine hs.alcE fun b2 H3 he3 hs3=>hs3.alcE fun b4 H5 he5 hs5=>⟨A,hd.size,rowIn_whole (hs5.block 1 rfl),?_⟩
 exact set_call hs5 (hd.ext (he3.trans he5)) hi fun H8 hs8=>⟨rfl,hR b4 H8 (hs8.del 1)⟩
theorem c15{b:Nat}{s:LvS}{A:Array Value}{E:DocL}(hs:St H0 H (lvRs b s::σ))(hd:DocR H A E)(hi:Inv E)(hR: ∀H',St H0 H' (lvRs b ⟨E,[],s.n⟩::σ)→R (.tuple #[]) H'):CallsH Tryz.prog 15 #[.pointer (some ⟨b,0,none⟩),.agg A] H R:=by
 obtain⟨M,hM,hs⟩:=lvOut hs
 have hs:St H0 H (.cell b (lvA s.D M.K M.m s.n) 74:: .obj M.m (mapO M.L M.c)::docRs (docA s.D.w s.D.h s.D.next M.K) s.D::tlRs s.D M.L::σ):=hs
 exact set_call hs hd hi fun H8 hs8=>hR H8 (((hs8.del 1).del 1).del 1)
theorem c20{b:Nat}{s:LvS}(hs:St H0 H (lvRs b s::σ))(ok:LvOk s)(hR: ∀A H',DocR H' A s.D→St H0 H' (docRs A s.D::lvRs b s::σ)→R (.agg A) H'):CallsH Tryz.prog 20 #[.pointer (some ⟨b,0,none⟩)] H R:=by
 obtain⟨M,hM,hs⟩:=lvOut hs
 have hs:St H0 H (.cell b (lvA s.D M.K M.m s.n) 74:: .obj M.m (mapO M.L M.c)::docRs (docA s.D.w s.D.h s.D.next M.K) s.D::tlRs s.D M.L::σ):=hs
 refine Tryz.s20 ?_
 unfold Tryz.S20
 refine hs.alcE fun b2 H3 he3 hs3=>⟨_,rfl,docA s.D.w s.D.h s.D.next M.K,rfl,lv_row (hs3.block 1 rfl),c25 hs3 (hs3.doc 3 rfl) ok.inv fun A H7 hd hs7=>⟨_,rfl,hd.size,?_⟩⟩
 refine hs7.putAll 1 rfl hd.size hd.one fun H9 hs9=>⟨A,hd.size,rowIn_whole (hs9.block 1 rfl),?_⟩
 have h9:St H0 H9 (lvList b s M++(docRs A s.D::σ)):=(hs9.del 1).perm (List.perm_middle (l₁:=lvList b s M)).symm
 have h10:=(lvIn M hM h9).swap
 exact hR A H9 (h10.doc 0 rfl) h10
theorem c10{b:Nat}{s:LvS}(hs:St H0 H (lvRs b s::σ))(hR:R (.int .i64 s.n) H):CallsH Tryz.prog 10 #[.pointer (some ⟨b,0,none⟩)] H R:=by
 obtain⟨M,hM,hs⟩:=lvOut hs
 refine Tryz.s10 ?_
 unfold Tryz.S10
 exact⟨_,rfl,s.n,hs.get 0 rfl (j:=5) rfl,hR⟩
theorem lay_hid{B:Array Value}{l:Lay}(h:LayR H B l):B[2]?=some (.bool l.f.hidden):=by
 obtain⟨t,rfl,_,rfl⟩:=h
 cases t;rfl
theorem par_gid{D:List Lay}{id:Int}{fr:FrL}{u:List FrL}{ks:List Lay}(hf:flK [] [] id D=some (fr::u,ks)):(parentL D id).1=gid u:=by
 unfold parentL;rw[hf]
 cases u<;>rfl
theorem c33{A:Array Value}{D:DocL}{id:Int}(hd:DocR H A D)(hi:Inv D)(hR: ∀H',Ext H H'→R (.bool (unseenL D.ks id)) H'):CallsH Tryz.prog 33 #[.agg A,.int .i64 id] H R:=by
 have hids:=hi.ids'
 have hcn:=hi.cnt
 refine Tryz.s33 ?_
 unfold Tryz.S33
 refine(St.nil H).alc fun b3 H4 hs4=>?_
 intro X5 hX5
 have go: ∀(z:List FrL) (id:Int) (ks:List Lay) (H1:Heap),flK [] [] id D.ks=some (z,ks)→St H H1 [.cell b3 A 26]→(∀H',Ext H H'→R (.bool (hidU z)) H')→X5 [.int .i64 id] H1:=by
  intro z
  induction z with
  |nil=>
   intro id ks H1 hf;exfalso;rcases fl_cases id D.ks with hn|⟨fr,u,ks,hf2,_⟩
   ·rw[hn] at hf;cases hf
   ·rw[hf2] at hf;cases hf
  |cons fr u ih=>
   intro id ks H1 hf hs1 hR
   obtain⟨hp,hfid⟩:plugL (fr::u) ks=D.ks∧fr.f.id=id:=by
    rcases fl_cases id D.ks with hn|⟨fr2,u2,ks2,hf2,hid2,hp2⟩
    ·rw[hn] at hf;cases hf
    ·rw[hf] at hf2;cases hf2;exact⟨hp2,hid2⟩
   have hids2:Ids (plugL (fr::u) ks):=by rw[hp];exact hids
   have hid0:id≠0:=by rw[←hfid];exact hids2.split.1
   have hfl:findL D.ks id=some (.mk fr.f ks):=by unfold findL;rw[hf]
   refine hX5 _ _ (br_ne (fun _=>⟨A,hd.size,rowIn_whole (hs1.block 0 rfl),?_⟩) fun h=>absurd h hid0)
   refine find_st hs1 (hd.ext hs1.ext) hi (fun hn=>by rw[hfl] at hn;cases hn) fun l hl B H10 hB hs10=>⟨_,_,rfl,?_⟩
   rw[hfl] at hl;cases hl
   refine hs10.alc fun b13 H14 hs14=>⟨hB.size,hs14.putAll 0 rfl hB.size hB.one fun H15 hs15=>br_f rfl ⟨fr.f.hidden,?_,br_i (fun hh=>?_) fun hh=>?_⟩⟩
   ·have:=hs15.get 0 rfl (j:=2) (v:= .bool fr.f.hidden) (lay_hid hB)
    simpa using this
   ·have:=hR H15 hs15.ext
    rw[hidU,hh] at this;exact this
   ·refine⟨A,hd.size,rowIn_whole (hs15.block 2 rfl),c67 (hd.ext hs15.ext) (by omega) fun H19 he19=>⟨_,_,_,rfl,?_⟩⟩
    rw[par_gid hf]
    have hR2: ∀H',Ext H H'→R (.bool (hidU u)) H':=fun H' he=>by have:=hR H' he;rw[hidU,hh] at this;exact this
    have h19:St H H19 [.cell b3 A 26]:=(hs15.step he19).drop 2
    cases u with
    |nil=>exact hX5 _ _ (br_ne (fun h=>absurd rfl h) fun _=>hR2 H19 h19.ext)
    |cons fp u=>
     refine ih fp.f.id (fr.pre++ .mk fr.f ks::fr.post) H19 ?_ h19 hR2
     rw[←hp]
     exact fl_at hids2
 rcases fl_cases id D.ks with hn|⟨fr,u,ks,hf,hid,hp⟩
 ·have hu:unseenL D.ks id=false:=by unfold unseenL;rw[hn]
  rw[hu] at hR
  refine hX5 _ _ (br_ne (fun _=>⟨A,hd.size,rowIn_whole (hs4.block 0 rfl),?_⟩) fun _=>hR H4 hs4.ext)
  refine find_st hs4 (hd.ext hs4.ext) hi (fun _ H10 hs10=>⟨_,_,rfl,?_⟩) fun l hl=>by unfold findL at hl;rw[hn] at hl;cases hl
  exact hs10.alc fun b13 H14 hs14=>⟨rfl,hs14.putAll 0 rfl rfl (cellsL_one _ _ _ _ _) fun H15 hs15=>br_t rfl (hR H15 hs15.ext)⟩
 ·refine go (fr::u) id ks H4 hf hs4 fun H' he=>?_
  have:=hR H' he
  rw[(found_some hf).2] at this;exact this
theorem c31{e:Ed}{s:EdS}{A:Array Value}{D:DocL}(hd:DocR H A D)(hi:Inv D)(hnx:D.next≤1000000000000000)(hR: ∀H',Ext H H'→R (.int .i64 (tgtL D e)) H'):CallsH Tryz.prog 31 #[.agg (edL e s).toArray,.agg A] H R:=by
 have h1:=hi.next
 have hA:A[2]?=some (.int .i64 D.next):=by obtain⟨K,ks,rfl,_⟩:=hd;rfl
 refine Tryz.s31 ?_
 unfold Tryz.S31
 refine(St.nil H).alc fun b3 H4 hs4=>hs4.alc fun b5 H6 hs6=>⟨e.kind,hs6.get 1 rfl (j:=0) rfl,br_eq (fun hk=>⟨D.next,hs6.get 0 rfl (j:=2) hA,?_⟩) fun hk=>⟨e.id,hs6.get 1 rfl (j:=1) rfl,?_⟩⟩
 ·have:=hR H6 hs6.ext
  unfold tgtL at this
  rw[if_pos hk] at this
  rw[wrap_id (by omega) (by omega)];exact this
 ·have:=hR H6 hs6.ext
  unfold tgtL at this
  rw[if_neg hk] at this;exact this
end Go.Proofs
namespace Go.Proofs
open Go.Sh
variable {H0 H:Heap} {σ:List Rs} {R:Value→Heap→Prop}
def LvS.tile(s:LvS)(k:Ky):LvS:=if k∈s.ks then s else⟨s.D,s.ks++[k],s.n+1⟩
def ntE(D:DocL)(k:Ky)(bt c:Nat):Ent:=(k,(⟨some ⟨bt,0,none⟩,(tileP D k).n,(tileP D k).n⟩:Sl3),c)
theorem tlAdd{D:DocL}{L:List Ent}{k:Ky}{bt c:Nat}(hs:St H0 H (.cell bt (ints (tileL D k)).toArray 3::tlRs D L::σ)):St H0 H (tlRs D (L++[ntE D k bt c])::σ):=
 St.persOf (τ:=[.cell bt (ints (tileL D k)).toArray 3,tlRs D L]) hs fun H' h' x hx=>by
  rcases List.mem_append.1 hx with hx|hx
  ·exact h'.persGet 1 rfl x hx
  ·rw[List.mem_singleton] at hx
   subst hx
   exact⟨rfl,h'.isA 0 rfl (plL_len _ _)⟩
theorem c23{b:Nat}{s:LvS}{k:Ky}(hs:St H0 H (lvRs b s::σ))(ok:LvOk s)(hn:s.n≤1000000000000000)(hk:KeyOk s.D k)
 (hR: ∀(Q:Sl3) H',Q.l=(tileP s.D k).n→IS H' Q.p Q.l (ints (tileL s.D k))→St H0 H' (lvRs b (s.tile k)::σ)→R Q.v H'):CallsH Tryz.prog 23 #[.pointer (some ⟨b,0,none⟩),.int .i64 k.1,.int .i64 k.2] H R:=by
 obtain⟨M,hM,hs⟩:=lvOut hs
 have hs:St H0 H (.cell b (lvA s.D M.K M.m s.n) 74:: .obj M.m (mapO M.L M.c)::docRs (docA s.D.w s.D.h s.D.next M.K) s.D::tlRs s.D M.L::σ):=hs
 obtain⟨s1,s2⟩:=ok.inv.sides
 have hln:=ok.len
 have hk':=hk
 obtain⟨⟨k1,k2⟩,k3,k4⟩:=hk'
 refine Tryz.s23 ?_
 unfold Tryz.S23
 refine hs.alc fun b4 H5 hs5=>⟨rfl,hs5.putAll 0 rfl rfl (by simp[Value.oneCell']) fun H6 hs6=>⟨_,rfl,some M.m,hs6.get 1 rfl (j:=4) rfl,#[.int .i64 k.1,.int .i64 k.2],rfl,rowIn_whole (hs6.block 0 rfl),_,rfl,_,_,hs6.objGet 2 rfl,key_form k,ent_form M.L,?_⟩⟩
 have h6:St H0 H6 (.cell b4 #[.int .i64 k.1,.int .i64 k.2] 93:: .cell b (lvA s.D M.K M.m s.n) 74:: .obj M.m (mapO M.L M.c)::docRs (docA s.D.w s.D.h s.D.next M.K) s.D::tlRs s.D M.L::σ):=hs6
 by_cases hin:k∈s.ks
 ·obtain⟨A,x,B,hL,hx,hA,hB⟩:=ent_split (L:=M.L) (k:=k) (by rw[hM];exact ok.nodup) (by rw[hM];exact hin)
  subst hx
  have hf:findE (keyV x.1) (M.L.map entV).toArray.toList 0=some (0+A.length,x.2.1.v):=by rw[hL];exact ent_some hA
  have hlook:lookV (keyV x.1) (M.L.map entV).toArray.toList (.slice none 0 0)=x.2.1.v:=by unfold lookV;rw[hf]
  have ht:=h6.persGet 4 rfl x (by rw[hL];simp)
  have:=hR x.2.1 H6 ht.1 ht.2 (by unfold LvS.tile;rw[if_pos hin];exact lvIn M hM h6.tail)
  exact⟨x.2.1.p,x.2.1.l,x.2.1.c,hlook,br_f (by rw[show findE (Value.agg _) _ _=_ from hf];rfl) this⟩
 ·have hf:findE (keyV k) (M.L.map entV).toArray.toList 0=none:=ent_none (by rw[hM];exact hin)
  have hlook:lookV (keyV k) (M.L.map entV).toArray.toList (.slice none 0 0)= .slice none 0 0:=by unfold lookV;rw[hf]
  refine⟨none,0,0,hlook,br_t (by rw[show findE (Value.agg _) _ _=_ from hf];rfl) ⟨_,rfl,s.D.w,h6.get 1 rfl (j:=0) rfl,_,rfl,s.D.h,h6.get 1 rfl (j:=1) rfl,_,rfl,docA s.D.w s.D.h s.D.next M.K,rfl,lv_row (h6.block 1 rfl),?_⟩⟩
  rw[wrap_id (n:=k.1*16) (by omega) (by omega),wrap_id (n:=k.2*16) (by omega) (by omega),wrap_id (n:=s.D.w-k.1*16) (by omega) (by omega),wrap_id (n:=s.D.h-k.2*16) (by omega) (by omega)]
  refine c47 (h6.doc 3 rfl) ok.inv (by omega) (fun hok bt H21 hs21=>⟨_,_,_,_,rfl,?_⟩) fun hno=>absurd (tileOk ok.inv hk).2 hno
  have h21:St H0 H21 (.cell bt (ints (tileL s.D k)).toArray 3:: .cell b4 #[.int .i64 k.1,.int .i64 k.2] 93:: .cell b (lvA s.D M.K M.m s.n) 74:: .obj M.m (mapO M.L M.c)::docRs (docA s.D.w s.D.h s.D.next M.K) s.D::tlRs s.D M.L::σ):=h6.call hs21
  refine⟨_,rfl,some M.m,h21.get 2 rfl (j:=4) rfl,#[.int .i64 k.1,.int .i64 k.2],rfl,rowIn_whole (h21.block 1 rfl),M.m,rfl,_,_,h21.objGet 3 rfl,key_form k,ent_form M.L,fun _=>?_,fun n u hfs=>?_⟩
  ·have h27:=h21.objSet 3 (mapO (M.L++[ntE s.D k bt M.c]) (M.c+1)) rfl
   have e:(M.L.map entV).toArray.push {key:= .agg #[.int .i64 k.1,.int .i64 k.2],val:=slV bt (tileP s.D k).n,born:=M.c}=((M.L++[ntE s.D k bt M.c]).map entV).toArray:=by simp[entV,keyV,slV,Sl3.v,ntE]
   have e2:H21.setIfInBounds M.m (.map ((M.L.map entV).toArray.push {key:= .agg #[.int .i64 k.1,.int .i64 k.2],val:=slV bt (tileP s.D k).n,born:=M.c}) (M.c+1))=H21.setIfInBounds M.m (mapO (M.L++[ntE s.D k bt M.c]) (M.c+1)):=by rw[e];rfl
   rw[show(Value.slice (some ⟨bt,0,none⟩) (regP s.D (k.1*16) (k.2*16) (min 16 (s.D.w-k.1*16)) (min 16 (s.D.h-k.2*16))).n (regP s.D (k.1*16) (k.2*16) (min 16 (s.D.w-k.1*16)) (min 16 (s.D.h-k.2*16))).n)=slV bt (tileP s.D k).n from rfl,e2]
   generalize H21.setIfInBounds M.m (mapO (M.L++[ntE s.D k bt M.c]) (M.c+1))=H27 at h27
   refine⟨_,rfl,s.n,h27.get 2 rfl (j:=5) rfl,_,rfl,h27.put 2 rfl (j:=5) (Nat.le_of_ble_eq_true rfl) rfl fun H31 hs31=>?_⟩
   rw[wrap_id (n:=s.n+1) (by omega) (by omega)] at hs31
   have h31:St H0 H31 (.cell bt (ints (tileL s.D k)).toArray 3:: .cell b4 #[.int .i64 k.1,.int .i64 k.2] 93:: .cell b (lvA s.D M.K M.m (s.n+1)) 74:: .obj M.m (mapO (M.L++[ntE s.D k bt M.c]) (M.c+1))::docRs (docA s.D.w s.D.h s.D.next M.K) s.D::tlRs s.D M.L::σ):=hs31
   refine hR ⟨some ⟨bt,0,none⟩,(tileP s.D k).n,(tileP s.D k).n⟩ H31 rfl (h31.isA 0 rfl (plL_len _ _)) ?_
   have h32:=(h31.front 5 rfl).swap
   have h33:=tlAdd (c:=M.c) h32
   unfold LvS.tile
   rw[if_neg hin]
   refine lvIn ⟨M.K,M.m,M.c+1,M.L++[ntE s.D k bt M.c]⟩ (by rw[List.map_append,hM];rfl) ?_
   have h34:St H0 H31 (tlRs s.D (M.L++[ntE s.D k bt M.c]):: .cell b4 #[.int .i64 k.1,.int .i64 k.2] 93:: .cell b (lvA s.D M.K M.m (s.n+1)) 74:: .obj M.m (mapO (M.L++[ntE s.D k bt M.c]) (M.c+1))::docRs (docA s.D.w s.D.h s.D.next M.K) s.D::σ):=h33
   exact(h34.del 1).perm (List.perm_middle (l₁:=[_,_,_])).symm
  ·rw[show findE (Value.agg _) _ _=_ from hf] at hfs;cases hfs
def LvS.rd(s:LvS)(p:Pn)(i:Nat):LvS:=⟨s.D,readK p s.ks i,s.n+((readK p s.ks i).length-s.ks.length:Int)⟩
theorem rd_D(s:LvS)(p:Pn)(i:Nat):(s.rd p i).D=s.D:=rfl
theorem rd_n(s:LvS)(p:Pn)(i:Nat):(s.rd p i).n=s.n+((readK p s.ks i).length-s.ks.length:Int):=rfl
theorem rd_zero(s:LvS)(p:Pn):s.rd p 0=s:=by
 unfold LvS.rd
 show(⟨s.D,s.ks,s.n+((s.ks.length:Int)-s.ks.length)⟩:LvS)=s
 rw[Int.sub_self,Int.add_zero]
theorem rd_tile(s:LvS)(p:Pn)(i:Nat):(s.rd p i).tile (keyP p i)=s.rd p (i+1):=by
 unfold LvS.rd LvS.tile
 simp only[readK]
 by_cases h:keyP p i∈readK p s.ks i
 ·rw[if_pos h,addK_in h]
 ·rw[if_neg h,addK_out h,List.length_append,List.length_singleton,Int.natCast_add]
  congr 1
  omega
theorem readK_le{p:Pn}{ks:List Ky}: ∀i,(readK p ks i).length≤ks.length+i
 |0=>Nat.le_refl _
 |i+1=>by
  have:=readK_le (p:=p) (ks:=ks) i
  rw[readK]
  unfold addK
  split
  ·omega
  ·rw[List.length_append,List.length_singleton];omega
theorem LvOk.rd{s:LvS}(ok:LvOk s){x y w h:Int}(hp:PnOk (regP s.D x y w h)){i:Nat}(hi:i≤(regP s.D x y w h).n):LvOk (s.rd (regP s.D x y w h) i):=
 ⟨ok.inv,readK_nodup ok.nodup i,read_ok hp ok.keys hi,by have:=ok.len;show((readK _ _ _).length:Int)≤s.n+(((readK _ _ _).length:Int)-_);omega⟩
theorem RegOk.pn{D:DocL}(hi:Inv D){x y w h:Int}(hk:RegOk D x y w h):PnOk (regP D x y w h):=by
 obtain⟨s1,s2⟩:=hi.sides
 obtain⟨h1,h2,h3,h4⟩:=hk
 refine⟨?_,?_,h1,h2,?_,?_⟩
 ·show 0≤D.w∧D.w≤32768;omega
 ·show 0≤D.h∧D.h≤32768;omega
 ·show 0≤w∧x+w≤D.w;omega
 ·show 0≤h∧y+h≤D.h;omega
theorem c11{b:Nat}{s:LvS}{x y w h:Int}(hs:St H0 H (lvRs b s::σ))(ok:LvOk s)(hn:s.n≤1000000000000)
 (h1:RegOk s.D x y w h→ ∀bo H',St H0 H' (.cell bo (ints (picL (regP s.D x y w h) s.D.ks)).toArray 3::lvRs b (s.rd (regP s.D x y w h) (regP s.D x y w h).n)::σ)→R (.tuple #[slV bo (regP s.D x y w h).n,.int .i64 0]) H')
 (h0: ¬RegOk s.D x y w h→R (.tuple #[.slice none 0 0,.int .i64 12]) H):CallsH Tryz.prog 11 #[.pointer (some ⟨b,0,none⟩),.int .i64 x,.int .i64 y,.int .i64 w,.int .i64 h] H R:=by
 obtain⟨s1,s2⟩:=ok.inv.sides
 obtain⟨M,hM,hsm⟩:=lvOut hs
 refine Tryz.s11 ?_
 unfold Tryz.S11
 intro J6 hJ6
 have cw: ∃W,Sh.cell H (Addr.add (Addr.add ⟨b,0,none⟩ 0) 0)=some (.int .i64 W)∧W=s.D.w:=⟨s.D.w,hsm.get 0 rfl (j:=0) rfl,rfl⟩
 refine br_dec (fun g=>h0 fun hh=>by have:=hh.hx;omega) fun g1=>br_dec (fun g=>h0 fun hh=>by have:=hh.hy;omega) fun g2=>br_dec (fun g=>h0 fun hh=>by have:=hh.hw;omega) fun g3=>br_dec (fun g=>h0 fun hh=>by have:=hh.hh;omega) fun g4=>⟨_,rfl,s.D.w,hsm.get 0 rfl (j:=0) rfl,br_dec (fun g=>h0 fun hh=>by have:=hh.hw;omega) fun g5=>⟨_,rfl,s.D.h,hsm.get 0 rfl (j:=1) rfl,br_dec (fun g=>h0 fun hh=>by have:=hh.hh;omega) fun g6=>⟨_,rfl,s.D.w,hsm.get 0 rfl (j:=0) rfl,?_⟩⟩⟩
 rw[wrap_id (n:=s.D.w-x) (by omega) (by omega)]
 refine br_dec (fun g=>h0 fun hh=>by have:=hh.hw;omega) fun g7=>⟨_,rfl,s.D.h,hsm.get 0 rfl (j:=1) rfl,?_⟩
 rw[wrap_id (n:=s.D.h-y) (by omega) (by omega)]
 refine br_dec (fun g=>h0 fun hh=>by have:=hh.hh;omega) fun g8=>hJ6 _ ?_
 clear hsm hM M h0
 have hok:RegOk s.D x y w h:=⟨by omega,by omega,by omega,by omega⟩
 have hp:=hok.pn ok.inv
 have har:=hp.area
 have har:0≤w*h∧w*h≤1073741824:=har
 have hpn:((regP s.D x y w h).n:Int)=w*h:=hp.n
 have hk1:=h1 hok
 clear h1
 have hlen:(picL (regP s.D x y w h) s.D.ks).length=(regP s.D x y w h).n:=plL_len _ _
 have hat: ∀i,i<(regP s.D x y w h).n→(picL (regP s.D x y w h) s.D.ks).getD i 0=lsPx s.D.w ((regP s.D x y w h).X i) ((regP s.D x y w h).Y i) s.D.ks 0:=fun i hi=>plL_at (p:=regP s.D x y w h) (f:=fun i=>lsPx (regP s.D x y w h).W ((regP s.D x y w h).X i) ((regP s.D x y w h).Y i) s.D.ks 0) hi
 rw[wrap_id (n:=w*h) (by omega) (by omega)]
 refine⟨by omega,by omega,by omega,by omega,?_⟩
 rw[show(w*h).toNat=(regP s.D x y w h).n from rfl]
 refine hs.alc fun bo H9 hs9=>?_
 rw[repsA,show List.replicate (regP s.D x y w h).n (0:Int)=fillA (picL (regP s.D x y w h) s.D.ks) 0 from by rw[fillA_zero,hlen]] at hs9
 intro X10 hX10
 have go: ∀i,i≤(regP s.D x y w h).n→ ∀H1,St H0 H1 (.cell bo (ints (fillA (picL (regP s.D x y w h) s.D.ks) i)).toArray 3::lvRs b (s.rd (regP s.D x y w h) i)::σ)→X10 [.int .i64 (i:Nat)] H1:=by
  refine upto fun i hi ih H1 hs1=>hX10 _ _ (br_dec (fun hlt=>?_) fun hge=>?_)
  ·have hi':i<(regP s.D x y w h).n:=by omega
   obtain⟨a1,a2,a3,a4,a5⟩:=hp.at hi'
   have a1:0<w:=a1
   have a2:0≤(regP s.D x y w h).X i∧(regP s.D x y w h).X i<s.D.w:=a2
   have a3:0≤(regP s.D x y w h).Y i∧(regP s.D x y w h).Y i<s.D.h:=a3
   have a5:0≤(i:Int)/w∧(i:Int)/w<h:=a5
   have hX:x+(i:Int)%w=(regP s.D x y w h).X i:=rfl
   have hY:y+(i:Int)/w=(regP s.D x y w h).Y i:=rfl
   have hati:=hat i hi'
   have hkeyP:keyP (regP s.D x y w h) i=((regP s.D x y w h).X i/16,(regP s.D x y w h).Y i/16):=rfl
   have htl:=rd_tile s (regP s.D x y w h) i
   rw[hkeyP] at htl
   rw[Int.tmod_eq_emod_of_nonneg (show(0:Int)≤i by omega),Int.tdiv_eq_ediv_of_nonneg (show(0:Int)≤i by omega),wrap_id (n:=(i:Int)/w) (by omega) (by omega),hX,hY]
   generalize hXX:(regP s.D x y w h).X i=X at*
   generalize hYY:(regP s.D x y w h).Y i=Y at*
   rw[wrap_id (n:=X) (by omega) (by omega),wrap_id (n:=Y) (by omega) (by omega),Int.tdiv_eq_ediv_of_nonneg (show(0:Int)≤X by omega),Int.tdiv_eq_ediv_of_nonneg (show(0:Int)≤Y by omega),Int.tmod_eq_emod_of_nonneg (show(0:Int)≤X by omega),Int.tmod_eq_emod_of_nonneg (show(0:Int)≤Y by omega)]
   rw[wrap_id (n:=X/16) (by omega) (by omega),wrap_id (n:=Y/16) (by omega) (by omega),wrap_id (n:=X/16*16) (by omega) (by omega)]
   refine⟨by omega,by omega,by decide,by decide,?_⟩
   have hkl:=readK_le (p:=regP s.D x y w h) (ks:=s.ks) i
   obtain⟨t1,t2,t3,t4⟩:=tile_at ok.inv a2 a3
   refine c23 (k:=(X/16,Y/16)) hs1.swap (ok.rd hp hi) (by show s.n+(((readK _ _ _).length:Int)-_)≤_;omega) t1 fun Q H14 hQl hQ hs14=>⟨_,_,_,rfl,?_⟩
   rw[htl] at hs14
   obtain⟨M,hM,hsm⟩:=lvOut hs14
   refine⟨_,rfl,s.D.w,hsm.get 0 rfl (j:=0) rfl,by decide,by decide,by decide,?_⟩
   have hm:0≤min 16 (s.D.w-X/16*16)∧min 16 (s.D.w-X/16*16)≤16:=by omega
   have hb15:=mul_bd (x:=Y%16) (y:=min 16 (s.D.w-X/16*16)) (A:=16) (B:=16) (by omega) (by omega)
   rw[wrap_id (n:=s.D.w-X/16*16) (by omega) (by omega),wrap_id (n:=Y%16*min 16 (s.D.w-X/16*16)) (by omega) (by omega),wrap_id (n:=Y%16*min 16 (s.D.w-X/16*16)+X%16) (by omega) (by omega)]
   refine rdG hQ (by omega) (by rw[hQl];exact t2) ?_
   rw[show(s.rd (regP s.D x y w h) i).D=s.D from rfl,t4]
   refine⟨_,rfl,by omega,hlt,?_⟩
   rw[Int.toNat_natCast,Nat.mul_one,add_none,Nat.zero_add]
   refine hs14.swap.putA 0 rfl (by rw[fillA_len (by omega),hlen];exact hi') fun H21 hs21=>?_
   rw[wrap_id (by omega) (by omega)]
   refine ih hi' H21 ?_
   have e:=fill_put (L:=picL (regP s.D x y w h) s.D.ks) (k:=i) (v:=lsPx s.D.w X Y s.D.ks 0) (by omega) hati.symm
   rw[←e]
   exact hs21
  ·obtain rfl:i=(regP s.D x y w h).n:=by omega
   have hfull:fillA (picL (regP s.D x y w h) s.D.ks) (regP s.D x y w h).n=picL (regP s.D x y w h) s.D.ks:=by
    have:=fillA_all (picL (regP s.D x y w h) s.D.ks);rw[hlen] at this;exact this
   rw[hfull] at hs1
   exact hk1 bo H1 hs1
 exact go 0 (Nat.zero_le _) H9 (by rw[rd_zero];exact hs9)
end Go.Proofs
namespace Go.Proofs
open Go.Sh
variable {H0 H:Heap} {σ:List Rs} {R:Value→Heap→Prop}
theorem cellMap{f:LayF}{P M A K:Value}{b:Nat}{ty:TypeId}(hb:H[b]?=some (.cells (cellsL f P M A K).toArray ty)):rowIn H (Addr.add ⟨b,0,none⟩ 9) (ints f.map.l).toArray:=by
 intro j v hv
 rw[List.getElem?_toArray] at hv
 have hj:j<6:=(List.getElem?_eq_some_iff.1 hv).1
 rw[add_none,add_none]
 refine cell_get hb ?_
 obtain rfl|rfl|rfl|rfl|rfl|rfl:j=0∨j=1∨j=2∨j=3∨j=4∨j=5:=by omega
 all_goals (rw[←hv];rfl)
end Go.Proofs
namespace Go.Proofs
open Go.Sh
variable {H0 H:Heap} {σ:List Rs} {R:Value→Heap→Prop}
def quietB(D E:DocL)(id:Int):Bool:=(!(findL D.ks id).isSome||unseenL D.ks id)&&(!(findL E.ks id).isSome||unseenL E.ks id)
def boxB(x0 x1 y0 y1:Int)(k:Ky):Bool:=decide (x0<x1∧(x0/16≤k.1∧k.1*16<x1)∧y0<y1∧y0/16≤k.2∧k.2*16<y1)
def boxE(e:Ed)(f:LayF)(E:DocL):Ky→Bool:=boxB (max 0 e.x) (min (min (e.x+e.w) f.w) E.w) (max 0 e.y) (min (min (e.y+e.h) f.h) E.h)
def keptL(D E:DocL)(e:Ed)(ks:List Ky):List Ky:=
 if quietB D E (tgtL E e)=true then ks else match findL E.ks (tgtL E e) with
  |some l=>if e.kind=4∧l.f.map=oneM then ks.filter fun k=> !boxE e l.f E k else[]
  |none=>[]
def LvS.doE(s:LvS)(e:Ed):Int×LvS:=if (doD s.D e).1≠0 then((doD s.D e).1,s) else(0,⟨(doD s.D e).2,keptL s.D (doD s.D e).2 e s.ks,s.n⟩)
theorem kept_sub{D E:DocL}{e:Ed}{ks:List Ky}:(keptL D E e ks).Sublist ks:=by
 unfold keptL
 split
 ·exact List.Sublist.refl _
 split
 ·split
  ·exact List.filter_sublist
  ·exact List.nil_sublist _
 ·exact List.nil_sublist _
theorem kept_tile{D:DocL}(hi:Inv D){e:Ed}(h0:(doD D e).1=0){ks:List Ky}(hk: ∀k∈ks,KeyOk D k): ∀k∈keptL D (doD D e).2 e ks,tileL (doD D e).2 k=tileL D k:=by
 obtain⟨_,_,hw,hh⟩:=do_next h0
 intro k hm
 have hkk:=hk k (kept_sub.subset hm)
 unfold keptL at hm
 by_cases hq:quietB D (doD D e).2 (tgtL (doD D e).2 e)=true
 ·unfold quietB at hq
  rw[Bool.and_eq_true,Bool.or_eq_true,Bool.or_eq_true] at hq
  refine tile_eq hw hh hi hkk fun x y _ _ _ _ _ _=>unseen_px hi h0 (fun h=>hq.1.resolve_left (by rw[h];decide)) (fun h=>hq.2.resolve_left (by rw[h];decide)) _ _ _ _
 rw[if_neg hq] at hm
 split at hm
 ·rename_i l hl
  split at hm
  ·rename_i hc
   obtain⟨hc1,hc2⟩:=hc
   rw[List.mem_filter] at hm
   have ht:tgtL (doD D e).2 e=e.id:=by unfold tgtL;rw[if_neg (by omega)]
   rw[ht] at hl
   refine tile_eq hw hh hi hkk fun x y x1 x2 x3 y1 y2 y3=>paint_px hi hc1 h0 hl hc2 fun hin=>?_
   obtain⟨⟨k1,_⟩,k3,_⟩:=hkk
   have hb:=hm.2
   unfold boxE boxB at hb
   rw[Bool.not_eq_true',decide_eq_false_iff_not] at hb
   rw[hw,hh] at hb
   omega
  ·cases hm
 ·cases hm
theorem LvOk.doE{s:LvS}(ok:LvOk s)(e:Ed):LvOk (s.doE e).2:=by
 unfold LvS.doE
 split
 ·exact ok
 ·rename_i h0
  have h0:=Decidable.byContradiction h0
  obtain⟨_,_,hw,hh⟩:=do_next h0
  refine⟨do_inv ok.inv h0,kept_sub.nodup ok.nodup,fun k hk=>?_,?_⟩
  ·have:=ok.keys k (kept_sub.subset hk)
   unfold KeyOk at this ⊢
   show(0≤k.1∧k.1*16<(doD s.D e).2.w)∧0≤k.2∧k.2*16<(doD s.D e).2.h
   rw[hw,hh];exact this
  ·have:=ok.len
   have h2:=(kept_sub (D:=s.D) (E:=(doD s.D e).2) (e:=e) (ks:=s.ks)).length_le
   show((keptL s.D (doD s.D e).2 e s.ks).length:Int)≤s.n
   omega
theorem LvOk.start{E:DocL}(hi:Inv E){n:Int}(hn:0≤n):LvOk ⟨E,[],n⟩:=⟨hi,by simp,by simp,hn⟩
theorem tileP_n{D E:DocL}(hw:E.w=D.w)(hh:E.h=D.h)(k:Ky):(tileP E k).n=(tileP D k).n:=by
 unfold tileP regP Pn.n
 rw[hw,hh]
theorem find_g{A:Array Value}{D:DocL}{id:Int}(hs:St H0 H σ)(hd:DocR H A D)(hi:Inv D)
 (hR: ∀B H',LayR H' B ((findL D.ks id).getD (.mk zeroF []))→St H0 H' σ→Ext H H'→R (.tuple #[.agg B,.bool (findL D.ks id).isSome]) H'):CallsH Tryz.prog 32 #[.agg A,.int .i64 id] H R:=by
 refine find_st (St.nil H) hd hi (fun hn H' hs'=>?_) fun l hl B H' hB hs'=>?_
 ·have:=hR (cellsL zeroF Sl3.nil.v Sl3.nil.v Sl3.nil.v Sl3.nil.v).toArray H' (by rw[hn];exact LayR.zero H') (hs.step hs'.ext) hs'.ext
  rw[hn] at this;exact this
 ·have:=hR B H' (by rw[hl];exact hB) (hs.step hs'.ext) hs'.ext
  rw[hl] at this;exact this
theorem lay_cells{B:Array Value}{l:Lay}(h:LayR H B l): ∃P M A K:Value,B=(cellsL l.f P M A K).toArray:=by
 obtain⟨t,rfl,_,rfl⟩:=h
 cases t with|mk f P M A K ks=>exact⟨P.v,M.v,A.v,K.v,rfl⟩
theorem del_rows{b:Nat}{D:DocL}{K:Sl3}{m c:Nat}{n:Int}{L:List Ent}(hn:(L.map Prod.fst).Nodup){x0 x1 y0 y1:Int}(hx:0≤x0∧x0≤100000)(hx1:x0<x1∧x1≤100000)(hy:0≤y0∧y0≤100000)(hy1:y1≤100000){J:Heap→Prop}
 (hJ: ∀H',St H0 H' (.cell b (lvA D K m n) 74:: .obj m (mapO (L.filter fun z=> !boxB x0 x1 y0 y1 z.1) c)::σ)→J H'){X:List Value→Heap→Prop}
 (hX: ∀(y:Int) (H1:Heap),(∀J63:List Value→Heap→Prop,(∀H64,(∀X65:List Value→Heap→Prop,(∀(x:Int) H67,(br (decide ((IntKind.wrap .i64 (x*16))<x1))
  (∃a68,(some ⟨b,0,none⟩:Option Addr)=some a68∧ ∃t:Option Nat,Sh.cell H67 (Addr.add a68 4)=some (.map t)∧delQ (.arr 2 3) (.int .i64) (.map t) (.agg #[.int .i64 x,.int .i64 y]) H67 fun H70=>X65 [.int .i64 (IntKind.wrap .i64 (x+1))] H70)
  (X [.int .i64 (IntKind.wrap .i64 (y+1))] H67))→X65 [.int .i64 x] H67)→X65 [.int .i64 (IntKind.wrap .i64 (Int.tdiv x0 16))] H64)→J63 [] H64)→
  br (decide (y0<y1)) (br (decide ((IntKind.wrap .i64 (y*16))<y1)) (J63 [] H1) (J H1)) (J H1))→X [.int .i64 y] H1)
 (hs:St H0 H (.cell b (lvA D K m n) 74:: .obj m (mapO L c)::σ)):X [.int .i64 (y0/16)] H:=by
 have hfl: ∀{P Q:Ent→Bool},(∀z,P z=Q z)→L.filter P=L.filter Q:=fun h=>List.filter_congr fun z _=>h z
 have hnp: ∀P:Ent→Bool,((L.filter P).map Prod.fst).Nodup:=fun P=>(List.Sublist.map _ List.filter_sublist).nodup hn
 generalize hp:(fun(y:Int) (z:Ent)=> !decide ((x0/16≤z.1.1∧z.1.1*16<x1)∧y0/16≤z.1.2∧z.1.2<y))=p
 generalize hN:(if y0<y1 then((y1+15)/16-y0/16).toNat else 0)=N
 have go: ∀j,j≤N→ ∀H1,St H0 H1 (.cell b (lvA D K m n) 74:: .obj m (mapO (L.filter (p (y0/16+(j:Int)))) c)::σ)→X [.int .i64 (y0/16+(j:Int))] H1:=by
  refine upto fun j hj ih H1 hs1=>hX _ _ fun J63 hJ63=>br_dec (fun hlt=>?_) fun hge=>?_
  ·rw[if_pos hlt] at hN
   rw[wrap_id (by omega) (by omega)]
   refine br_dec (fun hlt2=>hJ63 H1 ?_) fun hge2=>?_
   ·have hj':j<N:=by omega
    intro X65 hX65
    rw[Int.tdiv_eq_ediv_of_nonneg hx.1,wrap_id (by omega) (by omega)]
    generalize hq:(fun(x:Int) (z:Ent)=>p (y0/16+(j:Int)) z&& !decide (z.1.2=y0/16+(j:Int)∧x0/16≤z.1.1∧z.1.1<x))=q
    have go2: ∀i,i≤((x1+15)/16-x0/16).toNat→ ∀H1,St H0 H1 (.cell b (lvA D K m n) 74:: .obj m (mapO (L.filter (q (x0/16+(i:Int)))) c)::σ)→X65 [.int .i64 (x0/16+(i:Int))] H1:=by
     refine upto fun i hi ih2 H1 hs1=>hX65 _ _ ?_
     rw[wrap_id (n:=(x0/16+(i:Int))*16) (by omega) (by omega)]
     refine br_dec (fun hlt3=>?_) fun hge3=>?_
     ·refine⟨_,rfl,some m,hs1.get 0 rfl (j:=4) rfl,?_⟩
      refine ent_del (k:=(x0/16+(i:Int),y0/16+(j:Int))) (hnp _) (hs1.objGet 1 rfl) ?_
      rw[wrap_id (n:=x0/16+(i:Int)+1) (by omega) (by omega)]
      have:=ih2 (by omega) (H1.setIfInBounds m (mapO ((L.filter (q (x0/16+(i:Int)))).filter fun z=>decide (z.1≠(x0/16+(i:Int),y0/16+(j:Int)))) c))
      rw[show x0/16+((i+1:Nat):Int)=x0/16+(i:Int)+1 from by omega] at this
      refine this ?_
      have e:((L.filter (q (x0/16+(i:Int)))).filter fun z=>decide (z.1≠(x0/16+(i:Int),y0/16+(j:Int))))=L.filter (q (x0/16+(i:Int)+1)):=by
       rw[List.filter_filter]
       refine hfl fun z=>?_
       rw[←hq,←hp]
       obtain⟨⟨z1,z2⟩,z3⟩:=z
       rw[Bool.eq_iff_iff]
       simp only[ne_eq,Prod.mk.injEq,Bool.and_eq_true,Bool.not_eq_true',decide_eq_true_eq,decide_eq_false_iff_not]
       omega
      rw[e]
      exact hs1.objSet 1 _ rfl
     ·rw[wrap_id (n:=y0/16+(j:Int)+1) (by omega) (by omega)]
      have:=ih hj' H1
      rw[show y0/16+((j+1:Nat):Int)=y0/16+(j:Int)+1 from by omega] at this
      refine this ?_
      have e:L.filter (q (x0/16+(i:Int)))=L.filter (p (y0/16+(j:Int)+1)):=by
       refine hfl fun z=>?_
       rw[←hq,←hp]
       rw[Bool.eq_iff_iff]
       simp only[Bool.and_eq_true,Bool.not_eq_true',decide_eq_false_iff_not]
       omega
      rw[←e];exact hs1
    have:=go2 0 (Nat.zero_le _) H1
    rw[show x0/16+((0:Nat):Int)=x0/16 from by omega] at this
    refine this ?_
    have e:L.filter (q (x0/16))=L.filter (p (y0/16+(j:Int))):=by
     refine hfl fun z=>?_
     rw[←hq,←hp]
     rw[Bool.eq_iff_iff]
     simp only[Bool.and_eq_true,Bool.not_eq_true',decide_eq_false_iff_not]
     omega
    rw[e];exact hs1
   ·refine hJ H1 ?_
    have e:(L.filter fun z=> !boxB x0 x1 y0 y1 z.1)=L.filter (p (y0/16+(j:Int))):=by
     refine hfl fun z=>?_
     rw[←hp]
     unfold boxB
     rw[Bool.eq_iff_iff]
     simp only[Bool.not_eq_true',decide_eq_false_iff_not]
     omega
    rw[e];exact hs1
  ·rw[if_neg hge] at hN
   refine hJ H1 ?_
   have e:(L.filter fun z=> !boxB x0 x1 y0 y1 z.1)=L.filter (p (y0/16+(j:Int))):=by
    refine hfl fun z=>?_
    rw[←hp]
    unfold boxB
    rw[Bool.eq_iff_iff]
    simp only[Bool.not_eq_true',decide_eq_false_iff_not]
    omega
   rw[e];exact hs1
 have:=go 0 (Nat.zero_le _) H
 rw[show y0/16+((0:Nat):Int)=y0/16 from by omega] at this
 refine this ?_
 have e:L.filter (p (y0/16))=L:=by
  refine List.filter_eq_self.2 fun z _=>?_
  rw[←hp]
  simp only[Bool.not_eq_true',decide_eq_false_iff_not]
  omega
 rw[e];exact hs
theorem doE_err{s:LvS}{e:Ed}(h:(doD s.D e).1≠0):s.doE e=((doD s.D e).1,s):=by unfold LvS.doE;rw[if_pos h]
theorem doE_ok{s:LvS}{e:Ed}(h:(doD s.D e).1=0):s.doE e=(0,⟨(doD s.D e).2,keptL s.D (doD s.D e).2 e s.ks,s.n⟩):=by unfold LvS.doE;rw[if_neg (fun hh=>hh h)]
theorem c18{b:Nat}{s:LvS}{e:Ed}{es:EdS}(hs:St H0 H (lvRs b s::σ))(ok:LvOk s)(hnx:s.D.next≤100000000000000)(hed:EdOk H e es)(hR: ∀H',St H0 H' (lvRs b (s.doE e).2::σ)→R (.int .i64 (s.doE e).1) H'):
 CallsH Tryz.prog 18 #[.pointer (some ⟨b,0,none⟩),.agg (edL e es).toArray] H R:=by
 obtain⟨M,hM,hs⟩:=lvOut hs
 have hs:St H0 H (.cell b (lvA s.D M.K M.m s.n) 74:: .obj M.m (mapO M.L M.c)::docRs (docA s.D.w s.D.h s.D.next M.K) s.D::tlRs s.D M.L::σ):=hs
 obtain⟨s1,s2⟩:=ok.inv.sides
 have hi:=ok.inv
 refine Tryz.s18 ?_
 unfold Tryz.S18
 refine hs.alcE fun b3 H4 he4 hs4=>?_
 intro J5 hJ5
 have after: ∀(bd:Nat) (K':Sl3) (H1:Heap),(doD s.D e).1=0→St H0 H1 (.cell bd (docA (doD s.D e).2.w (doD s.D e).2.h (doD s.D e).2.next K') 26::docRs (docA (doD s.D e).2.w (doD s.D e).2.h (doD s.D e).2.next K') (doD s.D e).2:: .cell b3 (edL e es).toArray 44:: .cell b (lvA s.D M.K M.m s.n) 74:: .obj M.m (mapO M.L M.c)::docRs (docA s.D.w s.D.h s.D.next M.K) s.D::tlRs s.D M.L::σ)→J5 [.pointer (some ⟨bd,0,none⟩),.int .i64 0] H1:=by
  intro bd K' H1 h0 hs1
  have hi2:=do_inv hi h0
  obtain⟨hn1,hn2,hw,hh⟩:=do_next h0
  rw[doE_ok h0] at hR
  have hkt:=kept_tile hi h0 ok.keys
  have hM':=hM
  generalize hE:(doD s.D e).2=E at hs1 hi2 hn1 hn2 hw hh hR hkt
  refine hJ5 _ _ _ (br_ne (fun h=>absurd rfl h) fun _=>⟨_,rfl,docA s.D.w s.D.h s.D.next M.K,rfl,lv_row (hs1.block 3 rfl),hs1.alc fun b11 H12 hs12=>⟨rfl,hs12.putAll 0 rfl rfl (docA_one _ _ _ _) fun H13 hs13=>⟨docA E.w E.h E.next K',rfl,rowIn_whole (hs13.block 1 rfl),_,rfl,rfl,?_⟩⟩⟩)
  refine hs13.putRow 4 rfl (j:=0) (vs:=(docA E.w E.h E.next K').toList) (Nat.le_of_ble_eq_true rfl) (docA_one _ _ _ _) fun H16 hs16=>?_
  have h16:St H0 H16 (.cell b11 (docA s.D.w s.D.h s.D.next M.K) 26:: .cell bd (docA E.w E.h E.next K') 26::docRs (docA E.w E.h E.next K') E:: .cell b3 (edL e es).toArray 44:: .cell b (lvA E K' M.m s.n) 74:: .obj M.m (mapO M.L M.c)::docRs (docA s.D.w s.D.h s.D.next M.K) s.D::tlRs s.D M.L::σ):=hs16
  -- what is answered,with the tiles that are kept
  have fin: ∀(L':List Ent) (H':Heap),(∀x∈L',x∈M.L)→L'.map Prod.fst=keptL s.D E e s.ks→St H0 H' (.cell b (lvA E K' M.m s.n) 74:: .obj M.m (mapO L' M.c)::docRs (docA E.w E.h E.next K') E::tlRs s.D M.L::σ)→R (.int .i64 0) H':=fun L' H' hsub hmap hs'=>by
   refine hR H' (lvIn ⟨K',M.m,M.c,L'⟩ hmap ?_)
   have h1:=tlSub (E:=E) (L':=L') (hs'.front 3 rfl) fun x hx=>⟨hsub x hx,hkt x.1 (hmap▸List.mem_map_of_mem hx),tileP_n hw hh x.1⟩
   exact h1.perm (List.perm_middle (l₁:=[_,_,_])).symm
  have good: ∀(L':List Ent) (H':Heap) {τ:List Rs},(∀x∈L',x∈M.L)→L'.map Prod.fst=keptL s.D E e s.ks→St H0 H' (τ++(.cell b11 (docA s.D.w s.D.h s.D.next M.K) 26:: .cell bd (docA E.w E.h E.next K') 26::docRs (docA E.w E.h E.next K') E:: .cell b3 (edL e es).toArray 44:: .cell b (lvA E K' M.m s.n) 74:: .obj M.m (mapO L' M.c)::docRs (docA s.D.w s.D.h s.D.next M.K) s.D::tlRs s.D M.L::σ))→R (.int .i64 0) H':=fun L' H' τ hsub hmap hs'=>by
   have h1:=hs'.app.2
   have h2:St H0 H' (docRs (docA E.w E.h E.next K') E:: .cell b (lvA E K' M.m s.n) 74:: .obj M.m (mapO L' M.c)::tlRs s.D M.L::σ):=(((h1.del 6).del 3).del 0).del 0
   exact fin L' H' hsub hmap (h2.perm ((permC (a:=[_,_,_]) (b:=[_,_,_]) fun _ y=>by simp only[List.count_cons,List.count_nil];ac_rfl).append_right (tlRs s.D M.L::σ)))
  refine⟨_,rfl,rowIn_whole (h16.block 3 rfl),docA E.w E.h E.next K',rfl,rowIn_whole (h16.block 1 rfl),c31 (h16.doc 2 rfl) hi2 (by omega) fun H20 he20=>⟨_,rfl,docA s.D.w s.D.h s.D.next M.K,rfl,rowIn_whole ((h16.step he20).block 0 rfl),?_⟩⟩
  have h20:=h16.step he20
  generalize hid:tgtL E e=id
  refine find_g h20 (h20.doc 6 rfl) hi fun B H24 hB hs24 _=>⟨_,_,rfl,hs24.alc fun b27 H28 hs28=>⟨hB.size,hs28.putAll 0 rfl hB.size hB.one fun H29 hs29=>⟨docA E.w E.h E.next K',rfl,rowIn_whole (hs29.block 2 rfl),?_⟩⟩⟩
  refine find_g hs29 (hs29.doc 3 rfl) hi2 fun C H32 hC hs32 _=>⟨_,_,rfl,hs32.alc fun b35 H36 hs36=>⟨hC.size,hs36.putAll 0 rfl hC.size hC.one fun H37 hs37=>?_⟩⟩
  have quiet: ∀{H':Heap} {τ:List Rs},quietB s.D E id=true→St H0 H' (τ++(.cell b11 (docA s.D.w s.D.h s.D.next M.K) 26:: .cell bd (docA E.w E.h E.next K') 26::docRs (docA E.w E.h E.next K') E:: .cell b3 (edL e es).toArray 44:: .cell b (lvA E K' M.m s.n) 74:: .obj M.m (mapO M.L M.c)::docRs (docA s.D.w s.D.h s.D.next M.K) s.D::tlRs s.D M.L::σ))→R (.int .i64 0) H':=fun hq hs'=>good M.L _ (fun _ h=>h) (by unfold keptL;rw[hid,if_pos hq,hM]) hs'
  intro J38 hJ38
  have loud: ∀{H':Heap},quietB s.D E id=false→St H0 H' ([.cell b35 C 70,.cell b27 B 70]++(.cell b11 (docA s.D.w s.D.h s.D.next M.K) 26:: .cell bd (docA E.w E.h E.next K') 26::docRs (docA E.w E.h E.next K') E:: .cell b3 (edL e es).toArray 44:: .cell b (lvA E K' M.m s.n) 74:: .obj M.m (mapO M.L M.c)::docRs (docA s.D.w s.D.h s.D.next M.K) s.D::tlRs s.D M.L::σ))→J38 [] H':=by
   intro H39 hq hs39
   have h39:=hs39.drop 2
   refine hJ38 H39 ⟨docA E.w E.h E.next K',rfl,rowIn_whole (h39.block 1 rfl),find_g h39 (h39.doc 2 rfl) hi2 fun F H42 hF hs42 _=>⟨_,_,rfl,hs42.alc fun b45 H46 hs46=>⟨hF.size,hs46.putAll 0 rfl hF.size hF.one fun H47 hs47=>?_⟩⟩⟩
   have clr: ∀{H':Heap} {τ:List Rs},keptL s.D E e s.ks=[]→St H0 H' (τ++(.cell b11 (docA s.D.w s.D.h s.D.next M.K) 26:: .cell bd (docA E.w E.h E.next K') 26::docRs (docA E.w E.h E.next K') E:: .cell b3 (edL e es).toArray 44:: .cell b (lvA E K' M.m s.n) 74:: .obj M.m (mapO M.L M.c)::docRs (docA s.D.w s.D.h s.D.next M.K) s.D::tlRs s.D M.L::σ))→ ∃a,(some ⟨b,0,none⟩:Option Addr)=some a∧ ∃t:Option Nat,Sh.cell H' (Addr.add a 4)=some (.map t)∧ ∃r,t=some r∧ ∃(es:Array MapEntry) (c:Nat),H'[r]?=some (.map es c)∧sto H' r (.map #[] c) fun H77=>R (.int .i64 0) H77:=fun{H' τ} hk hs'=>by
    have h1:=hs'.app.2
    refine⟨_,rfl,some M.m,h1.get 4 rfl (j:=4) rfl,M.m,rfl,_,_,h1.objGet 5 rfl,?_⟩
    exact good [] _ (τ:=[]) (by simp) (by rw[hk];rfl) (h1.objSet 5 (mapO [] M.c) rfl)
   obtain⟨fP,fM,fA,fK,rfl⟩:=lay_cells hF
   intro J48 hJ48
   refine⟨e.kind,hs47.get 4 rfl (j:=0) rfl,br_ne (fun hk=>clr (τ:=[_]) ?_ hs47) fun hk=>⟨_,rfl,cellMap (hs47.block 0 rfl),c34 fun H80 he80=>⟨_,rfl,.inl he80,rfl,((findL E.ks id).getD (.mk zeroF [])).f.map.l,oneM.l,rfl,rfl,rfl,rfl,br_not (fun c=>clr (τ:=[_]) ?_ (hs47.step he80)) fun d4=>hJ48 H80 ?_⟩⟩⟩
   ·unfold keptL
    rw[hid,hq,if_neg (by decide)]
    split
    ·rw[if_neg (fun h=>hk h.1)]
    ·rfl
   ·unfold keptL
    rw[hid,hq,if_neg (by decide)]
    split
    ·rename_i l hl
     rw[hl] at c
     rw[if_neg (fun h=>of_decide_eq_false c (by rw[Option.getD_some,h.2]))]
    ·rfl
   have hone:=M6_l.1 (of_decide_eq_true d4)
   obtain⟨l,hl⟩: ∃l,findL E.ks id=some l:=by
    cases hf:findL E.ks id with
    |some l=>exact⟨l,rfl⟩
    |none=>rw[hf] at hone;exact absurd hone (by decide)
   rw[hl,Option.getD_some] at hone hs47
   have h80:=hs47.step he80
   have hkept:keptL s.D E e s.ks=s.ks.filter fun k=> !boxE e l.f E k:=by
    unfold keptL
    rw[hid,hq,if_neg (by decide),hl]
    simp only
    rw[if_pos ⟨hk,hone⟩]
   obtain⟨_,_,_,_,hc,_⟩:=paint_do hi hk h0
   obtain⟨hrng,_⟩:=paint_rng hc
   obtain⟨⟨q1,q2⟩,⟨q3,q4⟩,⟨q5,q6⟩,q7,q8⟩:=hrng
   refine⟨e.x,h80.get 4 rfl (j:=6) rfl,e.y,h80.get 4 rfl (j:=7) rfl,e.x,h80.get 4 rfl (j:=6) rfl,e.w,h80.get 4 rfl (j:=8) rfl,l.f.w,h80.get 0 rfl (j:=5) rfl,E.w,h80.get 2 rfl (j:=0) rfl,e.y,h80.get 4 rfl (j:=7) rfl,e.h,h80.get 4 rfl (j:=9) rfl,l.f.h,h80.get 0 rfl (j:=6) rfl,E.h,h80.get 2 rfl (j:=1) rfl,?_⟩
   rw[wrap_id (n:=e.x+e.w) (by omega) (by omega),wrap_id (n:=e.y+e.h) (by omega) (by omega)]
   have hbox:boxE e l.f E=boxB (max 0 e.x) (min (min (e.x+e.w) l.f.w) E.w) (max 0 e.y) (min (min (e.y+e.h) l.f.h) E.h):=rfl
   have bx:0≤max 0 e.x∧max 0 e.x≤100000∧min (min (e.x+e.w) l.f.w) E.w≤100000∧0≤max 0 e.y∧max 0 e.y≤100000∧min (min (e.y+e.h) l.f.h) E.h≤100000:=by omega
   generalize max 0 e.x=x0 at*
   generalize min (min (e.x+e.w) l.f.w) E.w=x1 at*
   generalize max 0 e.y=y0 at*
   generalize min (min (e.y+e.h) l.f.h) E.h=y1 at*
   obtain⟨b0,b1,b2,b3',b4,b5⟩:=bx
   have hmapf:(M.L.filter fun z=> !boxB x0 x1 y0 y1 z.1).map Prod.fst=s.ks.filter fun k=> !boxB x0 x1 y0 y1 k:=by
    rw[←hM,List.filter_map];rfl
   refine br_dec (fun hge=>?_) fun hlt=>⟨by decide,?_⟩
   ·refine good M.L H80 (τ:=[_]) (fun _ h=>h) ?_ h80
    rw[hkept,hbox,hM]
    refine(List.filter_eq_self.2 fun k _=>?_).symm
    unfold boxB
    rw[Bool.not_eq_true',decide_eq_false_iff_not]
    omega
   intro X60 hX60
   rw[Int.tdiv_eq_ediv_of_nonneg b3',wrap_id (n:=y0/16) (by omega) (by omega)]
   have h81:St H0 H80 (.cell b (lvA E K' M.m s.n) 74:: .obj M.m (mapO M.L M.c)::tlRs s.D M.L::docRs (docA E.w E.h E.next K') E::σ):=by
    have h1:St H0 H80 (docRs (docA E.w E.h E.next K') E:: .cell b (lvA E K' M.m s.n) 74:: .obj M.m (mapO M.L M.c)::tlRs s.D M.L::σ):=((((h80.drop 1).del 6).del 3).del 0).del 0
    exact h1.perm ((permC (a:=[_,_,_,_]) (b:=[_,_,_,_]) fun _ y=>by simp only[List.count_cons,List.count_nil];ac_rfl).append_right σ)
   refine del_rows (x0:=x0) (x1:=x1) (y0:=y0) (y1:=y1) (L:=M.L) (by rw[hM];exact ok.nodup) ⟨b0,b1⟩ ⟨by omega,b2⟩ ⟨b3',b4⟩ b5 (J:=fun H'=>R (.int .i64 0) H') (fun H' hs'=>?_) (fun y H1 hx=>hX60 y H1 fun J63 hJ63=>?_) h81
   ·refine fin _ H' (fun x hx=>(List.mem_filter.1 hx).1) (by rw[hmapf,hkept,hbox]) ?_
    exact hs'.perm (List.Perm.cons _ (List.Perm.cons _ (List.Perm.swap _ _ _)))
   ·exact hx J63 fun H64 hh=>hJ63 H64 ⟨by decide,hh⟩
  refine br_not (fun ha=>br_not (fun hb=>quiet (τ:=[_,_]) (by unfold quietB;rw[ha,hb];rfl) hs37) fun hb=>⟨docA E.w E.h E.next K',rfl,rowIn_whole (hs37.block 3 rfl),c33 (hs37.doc 4 rfl) hi2 fun H93 he93=>⟨_,rfl,br_i (fun hu=>quiet (τ:=[_,_]) (by unfold quietB;rw[ha,hu];simp) (hs37.step he93)) fun hu=>loud (by unfold quietB;rw[hb,hu];simp) (hs37.step he93)⟩⟩) fun ha=>⟨docA s.D.w s.D.h s.D.next M.K,rfl,rowIn_whole (hs37.block 2 rfl),c33 (hs37.doc 8 rfl) hi fun H97 he97=>⟨_,rfl,br_i (fun hu=>?_) fun hu=>loud (by unfold quietB;rw[ha,hu];simp) (hs37.step he97)⟩⟩
  have hs97:=hs37.step he97
  refine br_not (fun hb=>quiet (τ:=[_,_]) (by unfold quietB;rw[hu,hb];simp) hs97) fun hb=>⟨docA E.w E.h E.next K',rfl,rowIn_whole (hs97.block 3 rfl),c33 (hs97.doc 4 rfl) hi2 fun H93 he93=>⟨_,rfl,br_i (fun hv=>quiet (τ:=[_,_]) (by unfold quietB;rw[hu,hv];simp) (hs97.step he93)) fun hv=>loud (by unfold quietB;rw[hb,hv];simp) (hs97.step he93)⟩⟩
 have done: ∀(bd:Nat) (A':Array Value) (H1:Heap),DocR H1 A' (doD s.D e).2→St H0 H1 (.cell bd A' 26::docRs A' (doD s.D e).2:: .cell b3 (edL e es).toArray 44:: .cell b (lvA s.D M.K M.m s.n) 74:: .obj M.m (mapO M.L M.c)::docRs (docA s.D.w s.D.h s.D.next M.K) s.D::tlRs s.D M.L::σ)→J5 [.pointer (some ⟨bd,0,none⟩),.int .i64 (doD s.D e).1] H1:=fun bd A' H1 hd hs1=>by
  by_cases h0:(doD s.D e).1=0
  ·obtain⟨K',rfl⟩:=docA_arr hd
   rw[h0]
   exact after bd K' H1 h0 hs1
  ·rw[doE_err h0] at hR
   exact hJ5 _ _ _ (br_ne (fun _=>hR H1 (lvIn M hM (hs1.drop 3))) fun h=>absurd h h0)
 refine⟨_,rfl,docA s.D.w s.D.h s.D.next M.K,rfl,lv_row (hs4.block 1 rfl),(edL e es).toArray,rfl,rowIn_whole (hs4.block 0 rfl),?_,?_⟩
 ·refine do_st hs4 (hs4.doc 3 rfl) hi (by omega) ⟨hed.rd.ext he4,hed.shape,hed.params⟩ fun A' H107 hd' hs107=>⟨_,_,rfl,hs107.alcE fun b110 H111 he111 hs111=>⟨hd'.size,hs111.putAll 0 rfl hd'.size hd'.one fun H112 hs112=>done b110 A' H112 (hs112.doc 1 rfl) hs112⟩⟩
 ·refine hs4.alcE fun b113 H114 he114 hs114=>⟨.inl he114,?_⟩
  refine do_st hs114 (hs114.doc 4 rfl) hi (by omega) ⟨hed.rd.ext (he4.trans he114),hed.shape,hed.params⟩ fun A' H116 hd' hs116=>⟨_,_,rfl,hd'.size,hs116.putAll 1 rfl hd'.size hd'.one fun H119 hs119=>done b113 A' H119 (hs119.doc 0 rfl) hs119.swap⟩
end Go.Proofs
