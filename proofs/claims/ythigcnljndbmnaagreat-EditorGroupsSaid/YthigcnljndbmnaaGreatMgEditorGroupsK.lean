/-
  OWN WORK. Several texts in one: EdM.
-/
import Derived.Test.YthigcnljndbmnaaGreatMgEditorGroupsJ

set_option linter.unusedVariables false
set_option linter.unusedSimpArgs false
set_option maxRecDepth 10000
namespace Go.Proofs
open Go.Sh
variable {H0 H:Heap} {σ:List Rs} {R:Value→Heap→Prop}
def aE1:Ed:=ed0 1 0 0 (-1) 0 0 0 0 4 4
def aE(x:Int):Ed:=⟨4,1,0,0,0,0,x,0,1,1,[255],[],zeroM,[]⟩
def aS(b:Nat):EdS:=⟨⟨some ⟨b,0,none⟩,1,1⟩,.nil,.nil⟩
def aD(px:List Int):DocL:=⟨4,4,2,[.mk (fA px) []]⟩
theorem aD1:doD (newD 4 4) aE1=(0,aD (List.replicate 16 0)):=by
 rw[add_flat (D:=newD 4 4) (e:=aE1) (fun t ht=>by cases ht) (by decide) rfl rfl rfl (by decide) (by decide) (by decide)]
 rfl
theorem aD2:doD (aD (List.replicate 16 0)) (aE 0)=(0,aD (255::List.replicate 15 0)):=by kernel_rfl
theorem aD3:doD (aD (255::List.replicate 15 0)) (aE 1)=(0,aD (255::255::List.replicate 14 0)):=by kernel_rfl
theorem aE_ok{b:Nat}{x:Int}{i:Nat}{ty:TypeId}(hs:St H0 H σ)(hi:σ[i]?=some (.cell b #[.int .i64 255] ty)):EdOk H (aE x) (aS b):=
 ⟨⟨hs.isA i hi rfl,⟨rfl,fun i x y h=>(by cases h)⟩,⟨rfl,fun i v h=>(by cases h)⟩⟩,Nat.zero_le _,Nat.zero_le _⟩
theorem done_now{x:EB}{e:Ed}{D:DocL}(hd:doD x.h.now e=(0,D))(Q:Sl3)(m:Nat)(s:TS)(acc:List (Int×Nat)):(x.done e Q m s acc).h.now=D:=by
 show(doH x.h e).2.now=D
 unfold doH;rw[if_pos (by rw[hd]),hd]
theorem edg_anchor(hR: ∀H',Ext H H'→R (.bool true) H'):CallsH Tryz.prog 4 #[] H R:=by
 refine Tryz.s4 (_u:=()) ?_
 unfold Tryz.S4
 refine c5 (St.nil H) (by decide) (by decide) fun rb H2 h2=>⟨_,rfl,br_f rfl ?_⟩
 refine c6 (n:=500) h2 (by decide) (by decide) (by decide) (by decide) (by decide) fun xb hb lb A m0 m1 p jb r H5 hf h5=>⟨_,_,rfl,?_⟩
 intro J hJ
 refine br_ne (fun h=>absurd rfl h) fun _=>br_f rfl (hJ _ ⟨rfl,by decide,?_⟩)
 have f1:RlFit r ((recB (1::edB aE1)).length+282):=hf.mono (by decide)
 have hx0:XOk 0 (newX xb hb lb A m0 m1 p 4 4 1):=⟨HOk.start (by decide),by decide,LvOk.start (new_inv (by decide)) (by decide),rfl,Nat.le_refl _,rfl,rfl⟩
 refine do_edit (e:=aE1) (es:=es0) h5 hx0 (old:=[]) (List.mem_cons_of_mem _ List.mem_cons_self) (fun H' _=>ed0_ok H' ..) rfl (Nat.zero_le _) (Nat.zero_le _) (by show(doD (newD 4 4) aE1).1=0;rw[aD1]) (f1.mono (by decide)) ?_
 show shlQ 1 A [] (rasKs (doD (newD 4 4) aE1).2.ks) ⟨A,1,[],[]⟩ [] true _
 rw[aD1]
 refine shl_bare (w:=4) (h:=4) (by decide) (by decide) (by decide) (by decide) (by decide) [fA (List.replicate 16 0)] _ _ (fun f hf=>by rw[List.mem_singleton] at hf;subst hf;exact⟨rfl,rfl,rfl⟩) (by decide) (fun f hf=>rfl) (by show 0+1≤1000000;decide) ⟨rfl,rfl,fun p hp=>by cases hp⟩ (fun z hz=>by cases hz) (fun z hz=>by cases hz) fun s1 acc1 g1 g2 g3 g4 _=>?_
 intro m1' Q1 H11 h11
 have hx1:=hx0.done (e:=aE1) (by decide) (by show(doD (newD 4 4) aE1).1=0;rw[aD1]) Q1 m1' s1 acc1
 have hn1:=done_now (x:=newX xb hb lb A m0 m1 p 4 4 1) aD1 Q1 m1' s1 acc1
 have hm1:((EB.done (newX xb hb lb A m0 m1 p 4 4 1) aE1 Q1 m1' s1 acc1).now,acc1)∈(EB.done (newX xb hb lb A m0 m1 p 4 4 1) aE1 Q1 m1' s1 acc1).ms:=List.mem_append_right _ (List.mem_singleton.2 rfl)
 generalize hX1:EB.done (newX xb hb lb A m0 m1 p 4 4 1) aE1 Q1 m1' s1 acc1=x1 at h11 hx1 hn1 hm1
 have e1:x1.tiles=1∧x1.ab=A∧x1.s=s1∧x1.xb=xb:=by subst hX1;exact⟨rfl,rfl,rfl,rfl⟩
 obtain⟨t1,a1,ss1,xb1⟩:=e1
 refine⟨_,rfl,h11.alc fun b13 H14 h14=>⟨rfl,h14.putAll 0 rfl rfl (resA_one 0) fun H15 h15=>h15.alc fun b16 H17 h17=>⟨rfl,by decide,?_⟩⟩⟩
 have h18:St H H17 (x1.rs (some ⟨jb,0,none⟩)++jlRs jb rb _::[.cell b16 #[.int .i64 255] 3,.cell b13 (resA 0) 34]):=h17.perm (List.perm_append_comm_assoc [_,_] [_,_,_,_,_,_,_] [])
 have f2:RlFit (r.more (recB (1::edB aE1))) ((recB (1::edB (aE 0))).length+100):=(f1.more (recB_bys (List.forall_mem_cons.2 ⟨by decide,edB_bys _⟩))).mono (by decide)
 rw[←xb1]
 refine do_edit (e:=aE 0) (es:=aS b16) h18 hx1 hm1 (fun H' h'=>aE_ok (i:=0) h' rfl) rfl (by decide) (by decide) (by rw[hn1,aD2]) (f2.mono (by decide)) ?_
 rw[hn1,aD2,t1,a1,ss1]
 refine shl_two g1 g2 (by rw[g3];show 0+1≤10;decide) g4 fun s2 bb hsh=>?_
 intro m2 Q2 H19 h19
 have hx2:=hx1.done (e:=aE 0) (by decide) (by rw[hn1,aD2]) Q2 m2 s2 [(1,bb)]
 have hn2:=done_now (x:=x1) (e:=aE 0) (by rw[hn1];exact aD2) Q2 m2 s2 [(1,bb)]
 have hm2:((EB.done x1 (aE 0) Q2 m2 s2 [(1,bb)]).now,[((1:Int),bb)])∈(EB.done x1 (aE 0) Q2 m2 s2 [(1,bb)]).ms:=List.mem_append_right _ (List.mem_singleton.2 rfl)
 have e2:(EB.done x1 (aE 0) Q2 m2 s2 [(1,bb)]).tiles=1∧(EB.done x1 (aE 0) Q2 m2 s2 [(1,bb)]).ab=A∧(EB.done x1 (aE 0) Q2 m2 s2 [(1,bb)]).s=s2∧(EB.done x1 (aE 0) Q2 m2 s2 [(1,bb)]).xb=x1.xb:=⟨t1,a1,rfl,rfl⟩
 generalize hX2:EB.done x1 (aE 0) Q2 m2 s2 [(1,bb)]=x2 at h19 hx2 hn2 hm2 e2
 obtain⟨t2,a2,ss2,xb2⟩:=e2
 refine⟨_,rfl,h19.alc fun b21 H22 h22=>⟨rfl,h22.putAll 0 rfl rfl (resA_one 0) fun H23 h23=>h23.alc fun b24 H25 h25=>⟨rfl,by decide,?_⟩⟩⟩
 have h26:St H H25 (x2.rs (some ⟨jb,0,none⟩)++jlRs jb rb _::[.cell b24 #[.int .i64 255] 3,.cell b21 (resA 0) 34,.cell b16 #[.int .i64 255] 3,.cell b13 (resA 0) 34]):=h25.perm (List.perm_append_comm_assoc [_,_] [_,_,_,_,_,_,_] [_,_])
 have f3:RlFit ((r.more (recB (1::edB aE1))).more (recB (1::edB (aE 0)))) 100:=f2.more (recB_bys (List.forall_mem_cons.2 ⟨by decide,edB_bys _⟩))
 rw[←xb2]
 refine do_edit (e:=aE 1) (es:=aS b24) h26 hx2 hm2 (fun H' h'=>aE_ok (i:=0) h' rfl) rfl (by decide) (by decide) (by rw[hn2,aD3]) (f3.mono (by decide)) ?_
 rw[hn2,aD3,t2,a2,ss2]
 refine shl_three hsh fun s3 b' hdrop=>?_
 intro bs hbs
 rw[List.perm_singleton.1 hbs]
 refine hdrop _ fun s4 hfr hA m3 Q3 H27 h27=>?_
 refine⟨_,rfl,h27.alc fun b29 H30 h30=>⟨rfl,h30.putAll 0 rfl rfl (resA_one 30) fun H31 h31=>⟨_,h31.get 11 rfl (j:=0) rfl,br_true ⟨_,h31.get 9 rfl (j:=0) rfl,br_true ⟨_,h31.get 0 rfl (j:=0) rfl,br_true ?_⟩⟩⟩⟩⟩
 refine c8 (x:=EB.full x2 Q3 m3 s4 [(1,b')]) h31.tail (hA.trans a2.symm) ⟨_,rfl,?_⟩
 have:=hR H31 h31.ext
 show R (.bool (s4.free==0)) H31
 rw[hfr];exact this
theorem edg_said{n1 un2:Int}(hR: ∀H',Ext H H'→R (.bool true) H'):CallsH Tryz.prog 3 #[.int .i64 n1,.int .i64 un2] H R:=edg_law (fun h=>edg_anchor h) hR
end Go.Proofs
