/-
  OWN WORK. Several texts in one: TrY, TrZ, TsBegun, HsA, ShV, HsB, TtA, HsC, HsD, HsE, HsF, HsG, TtB, TtC.
-/
import Derived.Test.YthigcnljndbmnaaGreatMgEditorGroupsF
import Derived.Test.YthigcnljndbmnaaGreatMgEditorGroupsD

set_option linter.unusedVariables false
set_option linter.unusedSimpArgs false
set_option maxRecDepth 100000
namespace Go.Proofs
open Go.Sh
variable {H0 H:Heap} {σ:List Rs} {R:Value→Heap→Prop}
def ed0(kind id to at_ n m x y w h:Int):Ed:=⟨kind,id,to,at_,n,m,x,y,w,h,[],[],zeroM,[]⟩
def es0:EdS:=⟨.nil,.nil,.nil⟩
theorem ed0_ok(H:Heap)(kind id to at_ n m x y w h:Int):EdOk H (ed0 kind id to at_ n m x y w h) es0:=
 ⟨⟨⟨rfl,fun i v h=>by simp[ed0,ints] at h⟩,IS2.nil H,⟨rfl,fun i v h=>by simp[ed0,ints] at h⟩⟩,by simp[ed0],by simp[ed0]⟩
end Go.Proofs
namespace Go.Sh
variable {H0 H H':Heap} {σ τ:List Rs}
def starAll:List Rs→Rs
 |[]=> .emp
 |r::l=> .star r (starAll l)
theorem St.addEmp(hs:St H0 H σ):St H0 H (.emp::σ):=hs.new (Ext.refl H) (fp:=[]) rfl (by simp) (by simp)
theorem St.packAll: ∀(l:List Rs) {σ:List Rs},St H0 H (l++σ)→St H0 H (starAll l::σ)
 |[],σ,hs=>hs.addEmp
 |r::l,σ,hs=>by
  have h1:St H0 H (l++(r::σ)):=hs.perm List.perm_middle.symm
  exact(St.packAll l h1).swap.cat
theorem St.unpackAll: ∀(l:List Rs) {σ:List Rs},St H0 H (starAll l::σ)→St H0 H (l++σ)
 |[],σ,hs=>hs.tail
 |r::l,σ,hs=>by
  have h1:St H0 H (l++(r::σ)):=St.unpackAll l hs.cut.swap
  exact h1.perm List.perm_middle
end Go.Sh
namespace Go.Proofs
open Go.Sh
variable {H0 H:Heap} {σ:List Rs} {R:Value→Heap→Prop}
def docRs(A:Array Value)(D:DocL):Rs:= .ex fun(x:Sl3×List T)=> .pu (A=docA D.w D.h D.next x.1∧layKs x.2=D.ks) (starAll (resG x.1 x.2))
theorem St_docIn{A:Array Value}{D:DocL}{K:Sl3}{ks:List T}(hA:A=docA D.w D.h D.next K)(hl:layKs ks=D.ks)(hs:St H0 H (resG K ks++σ)):St H0 H (docRs A D::σ):=
 St.inex (f:=fun(x:Sl3×List T)=> .pu (A=docA D.w D.h D.next x.1∧layKs x.2=D.ks) (starAll (resG x.1 x.2))) (K,ks) (St.with ⟨hA,hl⟩ (St.packAll _ hs))
theorem St_docOut{A:Array Value}{D:DocL}(hs:St H0 H (docRs A D::σ)): ∃K ks,A=docA D.w D.h D.next K∧layKs ks=D.ks∧St H0 H (resG K ks++σ):=by
 obtain⟨⟨K,ks⟩,h1⟩:=St.unex hs
 obtain⟨⟨h2,h3⟩,h4⟩:=St.fact h1
 exact⟨K,ks,h2,h3,St.unpackAll _ h4⟩
theorem _root_.Go.Sh.St.doc(hs:St H0 H σ)(i:Nat){A:Array Value}{D:DocL}(hi:σ[i]?=some (docRs A D)):DocR H A D:=by
 obtain⟨K,ks,h1,h2,h3⟩:=St_docOut (hs.front i hi)
 exact⟨K,ks,h1,h3.grp,h2⟩
theorem _root_.Go.Sh.St.docNil(hs:St H0 H σ)(w h next:Int):St H0 H (docRs (docA w h next .nil) ⟨w,h,next,[]⟩::σ):=
 St_docIn (K:= .nil) (ks:=[]) rfl rfl (hs.nilSl _ _)
theorem do_gen{A:Array Value}{D:DocL}{e:Ed}{s:EdS}(hs:St H0 H σ)(hd:DocR H A D)(hok:okKs D.ks)(hcn:cntKs D.ks≤1000000000)(hnx:0≤D.next∧D.next≤1000000000000000)(hsz:e.kind=7→sizedB D.w D.h=true)(hras: ∀fr u ks',flK [] [] e.id D.ks=some (fr::u,ks')→okRas fr.f)(hed:EdOk H e s)
 (hR: ∀A' H',DocR H' A' (doD D e).2→St H0 H' (docRs A' (doD D e).2::σ)→R (.tuple #[.agg A',.int .i64 (doD D e).1]) H'):
 CallsH Tryz.prog 37 #[.agg A,.agg (edL e s).toArray] H R:=by
 obtain⟨K,ks,rfl,hg,hl⟩:=hd
 rw[←hl] at hok hcn hras
 refine c37 hg hok hcn hnx hsz hed hras (fun H' hne he=>?_) fun K' ks' H' h0 hl' hs'=>?_
 ·rw[hl] at hne ⊢
  have e1:doD D e=((doL D.w D.h D.next D.ks e).1,zeroD):=by unfold doD;rw[if_pos hne]
  have:=hR (docA 0 0 0 .nil) H' (by rw[e1];exact DocR.zero H') (by rw[e1];exact(hs.step he).docNil 0 0 0)
  rw[e1] at this;exact this
 ·rw[hl] at h0 hl' ⊢
  have e1:doD D e=(0,⟨D.w,D.h,(doL D.w D.h D.next D.ks e).2.1,(doL D.w D.h D.next D.ks e).2.2⟩):=by unfold doD;rw[if_neg (by rw[h0];simp)]
  have hs2:St H0 H' (docRs (docA D.w D.h (doL D.w D.h D.next D.ks e).2.1 K') ⟨D.w,D.h,(doL D.w D.h D.next D.ks e).2.1,(doL D.w D.h D.next D.ks e).2.2⟩::σ):=St_docIn rfl hl' (hs.call hs')
  have:=hR (docA D.w D.h (doL D.w D.h D.next D.ks e).2.1 K') H' (by rw[e1];exact hs2.doc 0 rfl) (by rw[e1];exact hs2)
  rw[e1] at this;exact this
theorem do_st{A:Array Value}{D:DocL}{e:Ed}{s:EdS}(hs:St H0 H σ)(hd:DocR H A D)(hi:Inv D)(hnx:D.next≤1000000000000000)(hed:EdOk H e s)(hR: ∀A' H',DocR H' A' (doD D e).2→St H0 H' (docRs A' (doD D e).2::σ)→R (.tuple #[.agg A',.int .i64 (doD D e).1]) H'):
 CallsH Tryz.prog 37 #[.agg A,.agg (edL e s).toArray] H R:=by
 have h1:=hi.next
 have h2:=hi.cnt
 exact do_gen hs hd hi.ok (by omega) ⟨by omega,hnx⟩ (fun _=>hi.size) (fun fr u ks' hf=>hi.ras hf) hed hR
end Go.Proofs
namespace Go.Proofs
open Go.Sh
variable {H0 H:Heap} {σ:List Rs} {R:Value→Heap→Prop}
def layRs(B:Array Value)(l:Lay):Rs:= .ex fun(t:T)=> .pu (B=(cellsT t).toArray∧layT t=l) (starAll (resT t))
theorem _root_.Go.Sh.St.lay(hs:St H0 H σ)(i:Nat){B:Array Value}{l:Lay}(hi:σ[i]?=some (layRs B l)):LayR H B l:=by
 obtain⟨t,h1⟩:=St.unex (hs.front i hi)
 obtain⟨⟨h2,h3⟩,h4⟩:=St.fact h1
 exact⟨t,h2,St.rdT t (St.unpackAll _ h4),h3⟩
theorem LayR.size{H:Heap}{B:Array Value}{l:Lay}(h:LayR H B l):B.size=19:=by obtain⟨t,rfl,_⟩:=h;simp[cellsT_len]
theorem LayR.one{H:Heap}{B:Array Value}{l:Lay}(h:LayR H B l): ∀v∈B.toList,v.oneCell'=true:=by obtain⟨t,rfl,_⟩:=h;simpa using cellsT_one t
theorem find_st{A:Array Value}{D:DocL}{id:Int}(hs:St H0 H σ)(hd:DocR H A D)(hi:Inv D)
 (h0:findL D.ks id=none→ ∀H',St H0 H' (layRs (cellsL zeroF Sl3.nil.v Sl3.nil.v Sl3.nil.v Sl3.nil.v).toArray (.mk zeroF [])::σ)→R (.tuple #[.agg (cellsL zeroF Sl3.nil.v Sl3.nil.v Sl3.nil.v Sl3.nil.v).toArray,.bool false]) H')
 (h1: ∀l,findL D.ks id=some l→ ∀B H',LayR H' B l→St H0 H' (layRs B l::σ)→R (.tuple #[.agg B,.bool true]) H'):CallsH Tryz.prog 87 #[.agg A,.int .i64 id] H R:=by
 have hc:=hi.cnt
 refine c87 hd (by omega) hi.ok (fun l hl=>?_) (fun hn H' he=>h0 hn H' ?_) fun l hl t' H' hlay hst=>?_
 ·unfold findL at hl
  rcases fl_cases id D.ks with hn|⟨fr,u,ks,hf,hid,hp⟩
  ·rw[hn] at hl;cases hl
  ·rw[hf] at hl
   cases hl
   have hg:=hi.good
   rw[←hp] at hg
   refine Inv.okL hi.size _ (g_node hg).2.2.1 ?_
   have:cntKs D.ks=cntUp (fr::u)+cntKs ks:=by rw[←hp,cnt_plug]
   rw[cntL]
   rw[cntUp] at this
   omega
 ·refine St.inex (f:=fun(t:T)=> .pu ((cellsL zeroF Sl3.nil.v Sl3.nil.v Sl3.nil.v Sl3.nil.v).toArray=(cellsT t).toArray∧layT t= .mk zeroF []) (starAll (resT t))) (.mk zeroF .nil .nil .nil .nil []) (St.with ⟨rfl,rfl⟩ (St.packAll _ ?_))
  rw[resT_mk]
  exact((((hs.step he).nilSl 118 19).nilSl 3 1).nilSl 5 1).nilSl 3 1
 ·rw[List.append_nil] at hst
  have hs2:St H0 H' (layRs (cellsT t').toArray l::σ):=St.inex (f:=fun(t:T)=> .pu ((cellsT t').toArray=(cellsT t).toArray∧layT t=l) (starAll (resT t))) t' (St.with ⟨rfl,hlay⟩ (St.packAll _ (hs.call hst)))
  exact h1 l hl _ H' (hs2.lay 0 rfl) hs2
end Go.Proofs
namespace Go.Proofs
open Go.Sh
structure HL where
 now:DocL
 past:List DocL
 fut:List DocL
def doH(h:HL)(e:Ed):Int×HL:=if (doD h.now e).1=0 then(0,⟨(doD h.now e).2,h.past++[h.now],[]⟩) else((doD h.now e).1,h)
def undoH(h:HL):Int×HL:=match h.past.getLast? with
 |none=>(44,h)
 |some d=>(0,⟨d,h.past.dropLast,h.fut++[h.now]⟩)
theorem undo_snoc{d x:DocL}{p f:List DocL}:undoH ⟨d,p++[x],f⟩=(0,⟨x,p,f++[d]⟩):=by simp[undoH]
theorem snoc_or{α:Type}(l:List α):l=[]∨ ∃p x,l=p++[x]:=by
 rcases List.eq_nil_or_concat l with h|⟨p,x,h⟩
 ·exact .inl h
 ·exact .inr ⟨p,x,by simpa using h⟩
structure HOk(n:Nat)(h:HL):Prop where
 inv: ∀d,d=h.now∨d∈h.past∨d∈h.fut→Inv d∧d.next≤n+1
 len:h.past.length+h.fut.length≤n
theorem HOk.mono{n m:Nat}{h:HL}(hk:HOk n h)(hm:n≤m):HOk m h:=⟨fun d hd=>⟨(hk.inv d hd).1,by have:=(hk.inv d hd).2;omega⟩,by have:=hk.len;omega⟩
theorem HOk.now{n:Nat}{h:HL}(hk:HOk n h):Inv h.now∧h.now.next≤n+1:=hk.inv _ (.inl rfl)
theorem HOk.doH{n:Nat}{h:HL}(hk:HOk n h)(e:Ed):HOk (n+1) (doH h e).2:=by
 unfold Go.Proofs.doH
 split
 ·rename_i h0
  have hnow:=hk.now
  have hnx:=do_next h0
  refine⟨fun d hd=>?_,by have:=hk.len;simp only[List.length_append,List.length_cons,List.length_nil];omega⟩
  simp only[List.mem_append,List.mem_singleton,List.not_mem_nil,or_false] at hd
  rcases hd with rfl|hd|rfl
  ·exact⟨do_inv hnow.1 h0,by omega⟩
  ·have:=hk.inv d (.inr (.inl hd));exact⟨this.1,by omega⟩
  ·exact⟨hnow.1,by omega⟩
 ·exact hk.mono (by omega)
theorem HOk.undoH{n:Nat}{h:HL}(hk:HOk n h):HOk n (undoH h).2:=by
 obtain⟨now,past,fut⟩:=h
 rcases snoc_or past with rfl|⟨p,x,rfl⟩
 ·exact hk
 ·rw[undo_snoc]
  refine⟨fun d hd=>hk.inv d ?_,by have:=hk.len;simp only[List.length_append,List.length_cons,List.length_nil] at this ⊢;omega⟩
  simp only[List.mem_append,List.mem_singleton] at hd ⊢
  rcases hd with h|h|h|h<;>simp[h]
theorem HOk.start{w h:Int}(hs:sizedB w h=true):HOk 0 ⟨⟨w,h,1,[]⟩,[],[]⟩:=
 ⟨fun d hd=>by simp at hd;subst hd;exact⟨new_inv hs,by show(1:Int)≤0+1;omega⟩,by simp⟩
end Go.Proofs
namespace Go.Sh
variable {H0 H H':Heap} {σ τ:List Rs}
def Rs.pers(Q:Heap→Prop):Rs where
 at_ H fp:=(∀b∈fp,b<H.size)∧ ∀H',(∀b∈fp,∀o,H[b]?=some o→H'[b]?=some o)→Q H'
 loc:=fun{H H' fp} h hk=>⟨fun b hb=>by
  have hlt:=h.1 b hb
  exact lt_of_get (hk b hb _ (Array.getElem?_eq_getElem hlt)),fun H'' hk2=>h.2 H'' fun b hb o ho=>hk2 b hb o (hk b hb o ho)⟩
 has h:=h.1
theorem St.persGet(hs:St H0 H σ)(i:Nat){Q:Heap→Prop}(hi:σ[i]?=some (.pers Q)):Q H:=by
 obtain⟨_,fps,hl,_⟩:=hs
 obtain⟨fp,_,h⟩:=hl.get hi
 exact h.2 H fun b _ o ho=>ho
theorem Ext.empty(H:Heap):Ext #[] H:=fun b o h=>by simp at h
theorem St.persOf{Q:Heap→Prop}(hs:St H0 H (τ++σ))(hq: ∀H',St #[] H' τ→Q H'):St H0 H (.pers Q::σ):=by
 obtain⟨he,fps,hl,hn,hb⟩:=hs
 obtain⟨a,b,rfl,h1,h2⟩:=hl.split
 have hna:a.flatten.Nodup:=by rw[List.flatten_append,List.nodup_append] at hn;exact hn.1
 refine⟨he,a.flatten::b,⟨⟨h1.has,fun H' hk=>hq H' ⟨Ext.empty H',a,h1.loc hk,hna,fun x _=>Nat.zero_le x⟩⟩,h2⟩,by simpa using hn,fun x hx=>hb x (by simpa using hx)⟩
end Go.Sh
namespace Go.Sh
variable {H0 H H':Heap} {σ τ:List Rs}
theorem St.slTake(hs:St H0 H σ)(i:Nat){p:Option Addr}{l c k n:Nat}{el:TypeId}{fs:List Value}(hi:σ[i]?=some (.sl p l c el k fs))(hn:n≤l):St H0 H (σ.set i (.sl p n c el k (fs.take (n*k)))):=
 hs.as i hi fun fp h=>by
  obtain⟨h1,h2⟩:=h
  have hlen:=h1.len
  have hle:=h1.le
  have hnk:n*k≤l*k:=Nat.mul_le_mul_right k hn
  refine⟨⟨by rw[List.length_take];omega,by omega,fun v hv=>h1.one v (List.mem_of_mem_take hv),?_⟩,h2⟩
  rcases h1.at_ with h|⟨blk,cs,a1,a2,a3,a4,a5⟩
  ·exact .inl h
  ·refine .inr ⟨blk,cs,a1,a2,a3,a4,fun j v hv=>?_⟩
   rw[List.getElem?_take] at hv
   split at hv
   ·exact a5 j v hv
   ·cases hv
theorem St.idx(hs:St H0 H σ){r:Rs}(h:r∈σ): ∃i:Nat,σ[i]?=some r:=List.getElem?_of_mem h
end Go.Sh
namespace Go.Proofs
open Go.Sh
variable {H0 H:Heap} {σ:List Rs} {R:Value→Heap→Prop}
abbrev PD:=Sl3×DocL
def arrP(x:PD):Array Value:=docA x.2.w x.2.h x.2.next x.1
def cellsP(l:List PD):List Value:=(l.map fun x=>(arrP x).toList).flatten
def DocK(H:Heap)(x:PD):Prop:=DocR H (arrP x) x.2
theorem arrP_size(x:PD):(arrP x).size=4:=rfl
theorem arrP_one(x:PD): ∀v∈(arrP x).toList,v.oneCell'=true:=docA_one _ _ _ _
theorem cellsP_app(a b:List PD):cellsP (a++b)=cellsP a++cellsP b:=by simp[cellsP]
theorem cellsP_one(x:PD):cellsP [x]=(arrP x).toList:=by simp[cellsP]
theorem cellsP_cons(x:PD)(l:List PD):cellsP (x::l)=(arrP x).toList++cellsP l:=by simp[cellsP]
theorem cellsP_len: ∀l:List PD,(cellsP l).length=l.length*4
 |[]=>rfl
 |x::l=>by rw[cellsP_cons,List.length_append,cellsP_len l,List.length_cons,Array.length_toList,arrP_size];omega
theorem cellsP_take(a b:List PD):(cellsP (a++b)).take (a.length*4)=cellsP a:=by
 rw[cellsP_app,←cellsP_len,List.take_left']
 rfl
theorem cellsP_get{l:List PD}{i:Nat}{x:PD}(h:l[i]?=some x){j:Nat}{v:Value}(hv:(arrP x)[j]?=some v):(cellsP l)[i*4+j]?=some v:=by
 have hj:j<4:=(Array.getElem?_eq_some_iff.1 hv).1
 induction l generalizing i with
 |nil=>simp at h
 |cons y l ih=>
  rw[cellsP_cons]
  cases i with
  |zero=>
   simp at h;subst h
   rw[Nat.zero_mul,Nat.zero_add,List.getElem?_append_left (by rw[Array.length_toList];exact hj)];simpa using hv
  |succ i=>
   rw[List.getElem?_append_right (by rw[Array.length_toList,arrP_size];omega),Array.length_toList,arrP_size,show(i+1)*4+j-4=i*4+j from by omega]
   exact ih (by simpa using h)
theorem DocK.ext{H H':Heap}{x:PD}(h:DocK H x)(he:Ext H H'):DocK H' x:=DocR.ext h he
structure PdsR(H:Heap)(P:Sl3)(l:List PD):Prop where
 rs:RS H P.p P.l 46 4 (cellsP l)
 doc: ∀x∈l,DocK H x
theorem PdsR.ext{H H':Heap}{P:Sl3}{l:List PD}(h:PdsR H P l)(he:Ext H H'):PdsR H' P l:=⟨h.rs.ext he,fun x hx=>(h.doc x hx).ext he⟩
theorem PdsR.len{H:Heap}{P:Sl3}{l:List PD}(h:PdsR H P l):P.l=l.length:=by have:=h.rs.len;rw[cellsP_len] at this;omega
theorem pds_row{H:Heap}{P:Sl3}{l:List PD}(h:RS H P.p P.l 46 4 (cellsP l)){i:Nat}{x:PD}(hx:l[i]?=some x): ∃a,P.p=some a∧rowIn H (a.add (i*4)) (arrP x):=by
 have hi:=(List.getElem?_eq_some_iff.1 hx).1
 have hl:P.l=l.length:=by have:=h.len;rw[cellsP_len] at this;omega
 obtain⟨blk,h1,h2⟩:=h.row (i:=i) (by omega) (by decide) (xs:=arrP x) fun j v hv=>cellsP_get hx hv
 refine⟨_,h1,?_⟩
 rw[add_none,Nat.zero_add]
 exact h2
theorem PdsR.row{H:Heap}{P:Sl3}{l:List PD}(h:PdsR H P l){i:Nat}{x:PD}(hx:l[i]?=some x): ∃a,P.p=some a∧rowIn H (a.add (i*4)) (arrP x)∧DocK H x:=
 let ⟨a,h1,h2⟩:=pds_row h.rs hx;⟨a,h1,h2,h.doc x (List.mem_of_getElem? hx)⟩
theorem docR_arr{H:Heap}{A:Array Value}{D:DocL}(h:DocR H A D): ∃K,A=arrP (K,D):=let ⟨K,_,h1,_⟩:=h;⟨K,h1⟩
def pdRs(l:List PD):Rs:= .pers fun H=> ∀x∈l,DocK H x
theorem _root_.Go.Sh.St.pd(hs:St H0 H σ)(i:Nat){l:List PD}(hi:σ[i]?=some (pdRs l)){x:PD}(hx:x∈l):DocK H x:=hs.persGet i hi x hx
theorem _root_.Go.Sh.St.pdSub{l l':List PD}(hs:St H0 H (pdRs l::σ))(h: ∀x∈l',x∈l):St H0 H (pdRs l'::σ):=
 St.persOf (τ:=[pdRs l]) hs fun H' h' x hx=>h'.pd 0 rfl (h x hx)
theorem _root_.Go.Sh.St.pdAdd{A:Array Value}{x:PD}{l:List PD}(hs:St H0 H (docRs A x.2::pdRs l::σ))(hA:A=arrP x):St H0 H (pdRs (x::l)::σ):=
 St.persOf (τ:=[docRs A x.2,pdRs l]) hs fun H' h' y hy=>by
  rcases List.mem_cons.1 hy with rfl|hy
  ·have:=h'.doc 0 rfl
   rw[hA] at this
   exact this
  ·exact h'.pd 1 rfl hy
def docsRs(P:Sl3)(ds:List DocL):Rs:= .ex fun(l:List PD)=> .pu (l.map Prod.snd=ds) (starAll (.sl P.p P.l P.c 46 4 (cellsP l)::l.map fun x=>docRs (arrP x) x.2))
theorem St_docsIn{P:Sl3}{l:List PD}{ds:List DocL}(hl:l.map Prod.snd=ds)(hs:St H0 H ((.sl P.p P.l P.c 46 4 (cellsP l)::l.map fun x=>docRs (arrP x) x.2)++σ)):St H0 H (docsRs P ds::σ):=
 St.inex (f:=fun(l:List PD)=> .pu (l.map Prod.snd=ds) (starAll (.sl P.p P.l P.c 46 4 (cellsP l)::l.map fun x=>docRs (arrP x) x.2))) l (St.with hl (St.packAll _ hs))
theorem St_docsOut{P:Sl3}{ds:List DocL}(hs:St H0 H (docsRs P ds::σ)): ∃l:List PD,l.map Prod.snd=ds∧St H0 H ((.sl P.p P.l P.c 46 4 (cellsP l)::l.map fun x=>docRs (arrP x) x.2)++σ):=by
 obtain⟨l,h1⟩:=St.unex hs
 obtain⟨h2,h3⟩:=St.fact h1
 exact⟨l,h2,St.unpackAll _ h3⟩
theorem docs_all{H:Heap}{l:List PD}{τ:List Rs}(hs:St H0 H τ)(hsub: ∀x∈l,docRs (arrP x) x.2∈τ): ∀x∈l,DocK H x:=fun x hx=>by
 obtain⟨i,hi⟩:=hs.idx (hsub x hx)
 exact hs.doc i hi
structure HM where
 now:PD
 P:Sl3
 F:Sl3
 past:List PD
 fut:List PD
def HM.abs(m:HM):HL:=⟨m.now.2,m.past.map Prod.snd,m.fut.map Prod.snd⟩
def histA(x:PD)(P F:Sl3):Array Value:=#[.int .i64 x.2.w,.int .i64 x.2.h,.int .i64 x.2.next,x.1.v,P.v,F.v]
theorem histA_one(x:PD)(P F:Sl3): ∀v∈(histA x P F).toList,v.oneCell'=true:=by
 show ∀v∈[Value.int .i64 x.2.w,.int .i64 x.2.h,.int .i64 x.2.next,x.1.v,P.v,F.v],v.oneCell'=true
 simp only[List.forall_mem_cons]
 exact⟨rfl,rfl,rfl,rfl,rfl,rfl,fun _ h=>by cases h⟩
def HM.list(m:HM)(b:Nat):List Rs:=[.cell b (histA m.now m.P m.F) 115,.sl m.P.p m.P.l m.P.c 46 4 (cellsP m.past),.sl m.F.p m.F.l m.F.c 46 4 (cellsP m.fut),pdRs (m.now::(m.past++m.fut))]
def histRs(b:Nat)(h:HL):Rs:= .ex fun(m:HM)=> .pu (m.abs=h) (starAll (m.list b))
theorem St_histIn{b:Nat}(m:HM){h:HL}(hm:m.abs=h)(hs:St H0 H (m.list b++σ)):St H0 H (histRs b h::σ):=
 St.inex (f:=fun(m:HM)=> .pu (m.abs=h) (starAll (m.list b))) m (St.with hm (St.packAll _ hs))
theorem St_histOut{b:Nat}{h:HL}(hs:St H0 H (histRs b h::σ)): ∃m:HM,m.abs=h∧St H0 H (m.list b++σ):=by
 obtain⟨m,h1⟩:=St.unex hs
 obtain⟨h2,h3⟩:=St.fact h1
 exact⟨m,h2,St.unpackAll _ h3⟩
structure StR(H:Heap)(A:Array Value)(h:HL):Prop where
 ex: ∃(m:HM),m.abs=h∧A=histA m.now m.P m.F∧DocK H m.now∧PdsR H m.P m.past∧PdsR H m.F m.fut
theorem StR.ext{H H':Heap}{A:Array Value}{h:HL}(hs:StR H A h)(he:Ext H H'):StR H' A h:=by
 obtain⟨m,h1,h2,h3,h4,h5⟩:=hs.ex
 exact⟨m,h1,h2,h3.ext he,h4.ext he,h5.ext he⟩
end Go.Proofs
namespace Go.Proofs
open Go.Sh
structure Rw where
 f:LayF
 to:Int
 deriving DecidableEq
mutual
def flatT(to:Int):Lay→List Rw
 | .mk f ks=>⟨f,to⟩::flatKs f.id ks
def flatKs(to:Int):List Lay→List Rw
 |[]=>[]
 |t::ts=>flatT to t++flatKs to ts
end
def ofG(to:Int)(L:List Rw):List Rw:=L.filter fun r=>decide (r.to=to)
def Rel(D:List Lay)(L:List Rw):Prop:= ∀to,ofG to L=ofG to (flatKs 0 D)
def idsR(L:List Rw):List Int:=L.map fun r=>r.f.id
theorem idsR_app(a b:List Rw):idsR (a++b)=idsR a++idsR b:=List.map_append
theorem flat_ids: ∀t to,idsR (flatT to t)=idsT t:=Lay.ind fun f ks ih to=>by
 rw[flatT,idsT,idsR,List.map_cons]
 have: ∀(ts:List Lay),(∀t∈ts,t∈ks)→ ∀g,idsR (flatKs g ts)=idsKs ts:=by
  intro ts
  induction ts with
  |nil=>intro _ g;rfl
  |cons t ts ih2=>intro hm g;rw[flatKs,idsKs,idsR_app,ih t (hm t List.mem_cons_self),ih2 fun t ht=>hm t (List.mem_cons_of_mem _ ht)]
 rw[show List.map (fun r=>r.f.id) (flatKs f.id ks)=idsKs ks from this ks (fun _ h=>h) f.id]
theorem flatKs_ids: ∀(ts:List Lay) (to:Int),idsR (flatKs to ts)=idsKs ts
 |[],to=>rfl
 |t::ts,to=>by rw[flatKs,idsKs,idsR_app,flat_ids,flatKs_ids ts]
def gid:List FrL→Int
 |[]=>0
 |fr::_=>fr.f.id
structure Ids(D:List Lay):Prop where
 nodup:(idsKs D).Nodup
 pos: ∀x∈idsKs D,x≠0
theorem Inv.ids'{D:DocL}(h:Inv D):Ids D.ks:=⟨h.ids,fun x hx=>by have:=ids_ltKs h.good x hx;omega⟩
theorem Ids.split{fr:FrL}{u:List FrL}{ks:List Lay}(h:Ids (plugL (fr::u) ks)):fr.f.id≠0∧fr.f.id∉idsKs ks∧fr.f.id∉idsUp u∧fr.f.id∉idsKs fr.pre∧fr.f.id∉idsKs fr.post∧(∀x∈idsKs ks,x≠0∧x∉idsUp (fr::u)):=by
 have hp:=ids_plug (fr::u) ks
 have hn:=(hp.nodup_iff).1 h.nodup
 have hz: ∀x,x∈idsKs ks++idsUp (fr::u)→x≠0:=fun x hx=>h.pos x (hp.mem_iff.2 hx)
 rw[List.nodup_append] at hn
 have hu:=hn.2.1
 have e2:(idsUp (fr::u)).Perm (fr.f.id::(idsKs fr.pre++idsKs fr.post++idsUp u)):=by rw[idsUp]
 have hu2:=(e2.nodup_iff).1 hu
 rw[List.nodup_cons] at hu2
 have hm:=hu2.1
 simp only[List.mem_append,not_or] at hm
 have hfm:fr.f.id∈idsUp (fr::u):=e2.mem_iff.2 List.mem_cons_self
 exact⟨hz _ (List.mem_append_right _ hfm),fun hk=>hn.2.2 _ hk _ hfm rfl,hm.2,hm.1.1,hm.1.2,fun x hx=>⟨hz x (List.mem_append_left _ hx),fun hxu=>hn.2.2 _ hx _ hxu rfl⟩⟩
theorem Rel.perm{D:List Lay}{L:List Rw}(h:Rel D L):L.Perm (flatKs 0 D):=List.perm_iff_count.2 fun x=>by
 have hc: ∀M:List Rw,M.count x=(ofG x.to M).count x:=fun M=>by unfold ofG;rw[List.count_filter (by simp)]
 rw[hc,hc (flatKs 0 D),h]
theorem Rel.ids{D:List Lay}{L:List Rw}(h:Rel D L):(idsR L).Perm (idsKs D):=by
 rw[←flatKs_ids D 0];exact h.perm.map _
theorem Rel.nodup{D:List Lay}{L:List Rw}(h:Rel D L)(hi:Ids D):(idsR L).Nodup:=(h.ids.nodup_iff).2 hi.nodup
theorem Rel.len{D:List Lay}{L:List Rw}(h:Rel D L):L.length=cntKs D:=by
 rw[h.perm.length_eq]
 have: ∀t g,(flatT g t).length=cntL t:=Lay.ind fun f ks ih g=>by
  rw[flatT,cntL,List.length_cons]
  have: ∀(ts:List Lay),(∀t∈ts,t∈ks)→(flatKs f.id ts).length=cntKs ts:=by
   intro ts
   induction ts with
   |nil=>intro _;rfl
   |cons t ts ih2=>intro hm;rw[flatKs,cntKs,List.length_append,ih t (hm t List.mem_cons_self),ih2 fun t ht=>hm t (List.mem_cons_of_mem _ ht)]
  rw[this ks fun _ h=>h];omega
 have h2: ∀(ts:List Lay) (g:Int),(flatKs g ts).length=cntKs ts:=by
  intro ts
  induction ts with
  |nil=>intro g;rfl
  |cons t ts ih=>intro g;rw[flatKs,cntKs,List.length_append,this,ih]
 exact h2 D 0
theorem fl_none(id:Int): ∀(t:Lay) (up:List FrL) (pre post:List Lay),(flT up pre post id t=none↔id∉idsT t):=by
 refine Lay.ind fun f ks ih up pre post=>?_
 rw[flT,idsT]
 by_cases hf:f.id=id
 ·rw[if_pos hf];simp[hf]
 ·rw[if_neg hf]
  have: ∀(ts:List Lay),(∀t∈ts,t∈ks)→ ∀(u:List FrL) (pre0:List Lay),(flK u pre0 id ts=none↔id∉idsKs ts):=by
   intro ts
   induction ts with
   |nil=>intro _ u pre0;rw[flK,idsKs];simp
   |cons t ts ih2=>
    intro hm u pre0
    have h1:=ih t (hm t List.mem_cons_self) u pre0 ts
    have h2:=ih2 (fun t ht=>hm t (List.mem_cons_of_mem _ ht)) u (pre0++[t])
    rw[flK,idsKs,List.mem_append,not_or,←h1,←h2]
    cases flT u pre0 ts id t with
    |none=>simp
    |some z=>simp
  rw[this ks (fun _ h=>h),List.mem_cons,not_or]
  exact⟨fun h=>⟨fun h2=>hf h2.symm,h⟩,fun h=>h.2⟩
inductive Path(L:List Rw):Int→List Int→Prop
 |nil:Path L 0 []
 |cons {r:Rw} {l:List Int}:r∈L→r.f.id≠0→Path L r.to l→Path L r.f.id (r.f.id::l)
theorem Path.zero{L:List Rw}{l:List Int}(h:Path L 0 l):l=[]:=by
 generalize hz:(0:Int)=z at h
 cases h with
 |nil=>rfl
 |cons _ h1 _=>exact absurd hz.symm h1
end Go.Proofs
namespace Go.Proofs
open Go.Sh
variable {H0 H:Heap} {σ:List Rs} {R:Value→Heap→Prop}
theorem fl_skipH{id:Int}: ∀(A B:List Lay) (up:List FrL) (pre:List Lay),id∉idsKs A→flK up pre id (A++B)=flK up (pre++A) id B
 |[],B,up,pre,_=>by rw[List.nil_append,List.append_nil]
 |t::A,B,up,pre,h=>by
  rw[idsKs,List.mem_append,not_or] at h
  rw[List.cons_append,flK,(fl_none id t up pre (A++B)).2 h.1]
  simp only
  rw[fl_skipH A B up (pre++[t]) h.2,List.append_assoc];rfl
theorem find_top{D:DocL}(hi:Inv D){l:Lay}(hl:l∈D.ks):findL D.ks l.f.id=some l:=by
 obtain⟨pre,post,he⟩:=List.append_of_mem hl
 have hn:=hi.ids
 rw[he,idsKs_app,List.nodup_append] at hn
 obtain⟨f,ks⟩:=l
 have h1:f.id∉idsKs pre:=fun h=>hn.2.2 _ h f.id (by rw[idsKs,idsT];exact List.mem_append_left _ List.mem_cons_self) rfl
 unfold findL
 show(match flK [] [] f.id D.ks with|some (fr::_,ks)=>some (Lay.mk fr.f ks)|_=>none)=_
 rw[he,fl_skipH _ _ _ _ h1,flK,flT,if_pos rfl]
theorem perm4{α:Type}(a b c d:α):[a,b,c,d].Perm [b,d,c,a]:=permC fun _ x=>by simp only[List.count_cons,List.count_nil];ac_rfl
theorem c56{A:Array Value}{D:DocL}(hs:St H0 H σ)(hd:DocR H A D)(hi:Inv D)(hR: ∀A' H',DocR H' A' D→St H0 H' (docRs A' D::σ)→R (.agg A') H'):CallsH Tryz.prog 56 #[.agg A] H R:=by
 have hd0:=hd
 obtain⟨K,ks,rfl,hg,hlk⟩:=hd
 have hlen:ks.length≤1000000000:=by have h1:=len_cnt D.ks;have:=hi.cnt;rw[←hlk,layKs_len] at h1;rw[←hlk] at this;omega
 have hKl:=hg.1.1
 refine Tryz.s56 ?_
 unfold Tryz.S56
 refine(St.nil H).alc fun b2 H3 hs3=>hs3.alc fun b4 H5 hs5=>⟨_,hs5.get 1 rfl (j:=0) rfl,_,hs5.get 1 rfl (j:=1) rfl,_,hs5.get 1 rfl (j:=2) rfl,hs5.alc fun b9 H10 hs10=>⟨rfl,hs10.putAll 0 rfl rfl (docA_one D.w D.h D.next .nil) fun H11 hs11=>⟨K.p,K.l,K.c,hs11.get 2 rfl (j:=3) rfl,?_⟩⟩⟩
 intro X13 hX13
 have go: ∀k,k≤ks.length→ ∀(K':Sl3) (built:List T) H1,layKs built=D.ks.take k→St H H1 (.cell b9 (docA D.w D.h D.next K') 46:: .cell b2 (docA D.w D.h D.next K) 46:: .cell b4 (docA 0 0 0 .nil) 46::resG K' built)→X13 [.int .i64 (k:Nat)] H1:=by
  refine upto fun k hk ih K' built H1 hb hs1=>hX13 _ _ (br_dec (fun hlt=>?_) fun hge=>?_)
  ·have hk':k<ks.length:=by omega
   have ht:=List.getElem?_eq_getElem hk'
   generalize hte:ks[k]=t at ht
   obtain⟨a,h1,h2,h3⟩:=(hg.ext hs1.ext).get ht
   have hmem:layT t∈D.ks:=by rw[←hlk,layKs_map];exact List.mem_map_of_mem (List.mem_of_getElem? ht)
   refine⟨a,h1,by omega,hlt,(cellsT t).toArray,by simp[cellsT_len],h2,hs1.alc fun b18 H19 hs19=>⟨by simp[cellsT_len],hs19.putAll 0 rfl (by simp[cellsT_len]) (by simpa using cellsT_one t) fun H20 hs20=>⟨_,rfl,rowIn_whole (hs20.block 2 rfl),t.f.id,?_,?_⟩⟩⟩
   ·have:=hs20.get 0 rfl (j:=0) (v:= .int .i64 t.f.id) (by cases t;rfl)
    simpa using this
   refine find_st hs20 (hd0.ext hs20.ext) hi (fun hn=>?_) fun l hl B H24 hB hs24=>⟨_,_,rfl,?_⟩
   ·rw[←layT_f,find_top hi hmem] at hn;cases hn
   obtain rfl:l=layT t:=by rw[←layT_f,find_top hi hmem] at hl;cases hl;rfl
   obtain⟨t',hx1⟩:=St.unex hs24
   obtain⟨⟨rfl,hlt'⟩,hx2⟩:=St.fact hx1
   have hs24:=St.unpackAll _ hx2
   have hs24:=hs24.perm List.perm_append_comm
   refine hs24.alc fun b27 H28 hs28=>⟨by simp[cellsT_len],hs28.putAll 0 rfl (by simp[cellsT_len]) (by simpa using cellsT_one t') fun H29 hs29=>⟨K'.p,K'.l,K'.c,hs29.get 2 rfl (j:=3) rfl,_,by simp[cellsT_len],rowIn_whole (hs29.block 0 rfl),by simp[cellsT_len],by decide,?_⟩⟩
   rw[setL_all (by simp[cellsT_len])]
   have hbl:built.length=k:=by rw[←layKs_len,hb,List.length_take,←hlk,layKs_len];omega
   have hK'l:K'.l=k:=by have:=(hs29.fs 5 rfl).len;rw[cellsKs_len] at this;omega
   refine hs29.alc fun b32 H33 hs33=>hs33.appC 6 0 rfl rfl (by simp[cellsT_len]) (by simpa using cellsT_one t') (by decide) rfl (by omega) (by omega) fun p' c' H35 hs35=>?_
   refine hs35.put 3 rfl (j:=3) (Nat.le_of_ble_eq_true rfl) rfl fun H36 hs36=>?_
   rw[wrap_id (by omega) (by omega)]
   refine ih hk' ⟨p',K'.l+1,c'⟩ (built++[t']) H36 ?_ ?_
   ·rw[layKs_app,hb,List.take_add_one]
    have:D.ks[k]?=some (layT t):=by rw[←hlk,layKs_map,List.getElem?_map,ht];rfl
    rw[this,←hlt',layKs_map];rfl
   ·have e:(cellsT t').toArray.toList=cellsKs [t']:=by rw[cellsKs_one]
    rw[show cellsKs built++(cellsT t').toArray.toList=cellsKs (built++[t']) from by rw[cellsKs_app,e]] at hs36
    have this:St H H36 (.cell b9 (docA D.w D.h D.next ⟨p',K'.l+1,c'⟩) 46:: .cell b2 (docA D.w D.h D.next K) 46:: .cell b4 (docA 0 0 0 .nil) 46:: .sl p' (K'.l+1) c' 118 19 (cellsKs (built++[t']))::(resKs built++resT t')):=hs36.drop 3
    rw[←resKs_one,←resKs_app] at this
    exact this
  ·obtain rfl:k=ks.length:=by omega
   have hfull:layKs built=D.ks:=by rw[hb,List.take_of_length_le (by rw[←hlk,layKs_len];exact Nat.le_refl _)]
   refine⟨_,rfl,rowIn_whole (hs1.block 0 rfl),rfl,hs1.putAll 2 rfl rfl (docA_one _ _ _ _) fun H38 hs38=>⟨_,rfl,rowIn_whole (hs38.block 2 rfl),?_⟩⟩
   have hf:=St_docIn (H0:=H0) (σ:=σ) rfl hfull (by have:=hs.call (hs38.drop 3);exact this)
   exact hR _ _ (hf.doc 0 rfl) hf
 have hs12:St H H11 [.cell b9 (docA D.w D.h D.next .nil) 46,.cell b4 (docA 0 0 0 .nil) 46,.cell b2 (docA D.w D.h D.next K) 46]:=hs11
 exact go 0 (Nat.zero_le _) .nil [] H11 rfl ((hs12.nilSl 118 19).perm (perm4 _ _ _ _))
end Go.Proofs
namespace Go.Proofs
open Go.Sh
variable {H0 H:Heap} {σ:List Rs} {R:Value→Heap→Prop}
theorem elemD{A:Array Value}(h:A.size=4):(List.toArray (setL [Value.int .i64 0,.int .i64 0,.int .i64 0,.slice none 0 0] 0 A.toList))=A:=by
 rw[setL_all (by simpa using h)]
theorem c57{P:Sl3}{l:List PD}(hs:St H0 H σ)(hp:PdsR H P l)(hi: ∀x∈l,Inv x.2)(hl:l.length≤1000000000)(hR: ∀(Q:Sl3) H',Q.l=l.length→St H0 H' (docsRs Q (l.map Prod.snd)::σ)→R Q.v H'):CallsH Tryz.prog 57 #[P.v] H R:=by
 show CallsH Tryz.prog 57 #[.slice P.p P.l P.c] H R
 refine Tryz.s57 ?_
 unfold Tryz.S57
 intro X hX
 have hPl:=hp.len
 have go: ∀k,k≤l.length→ ∀p c (built:List PD) H1,built.map Prod.snd=(l.take k).map Prod.snd→St H H1 (.sl p k c 46 4 (cellsP built)::built.map fun x=>docRs (arrP x) x.2)→X [.slice p k c,.int .i64 (k:Nat)] H1:=by
  refine upto fun k hk ih p c built H1 hb hs1=>hX _ _ _ _ _ (br_dec (fun hlt=>?_) fun hge=>?_)
  ·have hk':k<l.length:=by omega
   have hx:=List.getElem?_eq_getElem hk'
   generalize l[k]=x at hx
   obtain⟨a,h1,h2,h3⟩:=(hp.ext hs1.ext).row hx
   refine⟨a,h1,by omega,hlt,arrP x,arrP_size x,h2,hs1.alc fun b8 H9 hs9=>⟨arrP_size x,hs9.putAll 0 rfl (arrP_size x) (arrP_one x) fun H10 hs10=>⟨_,arrP_size x,rowIn_whole (hs10.block 0 rfl),?_⟩⟩⟩
   have hx3:DocK H x:=hp.doc x (List.mem_of_getElem? hx)
   refine c56 hs10 (DocK.ext hx3 hs10.ext) (hi x (List.mem_of_getElem? hx)) fun A' H13 hd hs13=>⟨_,rfl,hd.size,by decide,?_⟩
   rw[elemD hd.size]
   obtain⟨K',hK'⟩:=docR_arr hd
   refine hs13.alc fun b15 H16 hs16=>?_
   refine hs16.appC 3 0 rfl rfl hd.size hd.one (by decide) rfl (by omega) (by omega) fun p' c' H18 hs18=>?_
   rw[wrap_id (by omega) (by omega)]
   refine ih hk' p' c' (built++[(K',x.2)]) H18 ?_ ?_
   ·rw[List.map_append,hb,List.take_add_one,hx,List.map_append];rfl
   ·have h18:St H H18 (.cell b15 A' 46::docRs A' x.2:: .cell b8 (arrP x) 46:: .sl p' (k+1) c' 46 4 (cellsP built++A'.toList)::built.map fun x=>docRs (arrP x) x.2):=hs18
    have h19:=h18.tail.swap.tail.swap
    have e:cellsP built++A'.toList=cellsP (built++[(K',x.2)]):=by rw[cellsP_app,cellsP_one,hK']
    rw[e] at h19
    refine h19.perm ?_
    rw[List.map_append,hK']
    exact List.Perm.cons _ (List.perm_append_comm (l₁:=[docRs (arrP (K',x.2)) x.2]))
  ·obtain rfl:k=l.length:=by omega
   rw[List.take_of_length_le (Nat.le_refl _)] at hb
   exact hR ⟨p,l.length,c⟩ H1 rfl (St_docsIn hb (hs.call hs1))
 exact go 0 (Nat.zero_le _) none 0 [] H rfl ((St.nil H).nilSl _ _)
theorem _root_.Go.Sh.St.pdOne{x:PD}(hs:St H0 H (docRs (arrP x) x.2::σ)):St H0 H (pdRs [x]::σ):=
 St.persOf (τ:=[docRs (arrP x) x.2]) hs fun H' h' y hy=>by
  rw[List.mem_singleton] at hy;subst hy
  exact h'.doc 0 rfl
end Go.Proofs
namespace Go.Proofs
open Go.Sh
variable {H0 H:Heap} {σ:List Rs} {R:Value→Heap→Prop}
theorem c85{b j:Nat}{cs A:Array Value}{ty:TypeId}{P:Sl3}{fs:List Value}(hs:St H0 H (.cell b cs ty:: .sl P.p P.l P.c 46 4 fs::σ))(hj:cs[j]?=some P.v)(hA:A.size=4)(ho: ∀v∈A.toList,v.oneCell'=true)(hl:P.l≤1000000)
 (hR: ∀(Q:Sl3) H',Q.l=P.l+1→St H0 H' (.cell b (cs.setIfInBounds j Q.v) ty:: .sl Q.p Q.l Q.c 46 4 (fs++A.toList)::σ)→R (.tuple #[]) H'):CallsH Tryz.prog 85 #[.pointer (some ⟨b,j,none⟩),.agg A] H R:=by
 refine Tryz.s85 ?_
 unfold Tryz.S85
 refine hs.alc fun b3 H4 hs4=>⟨_,rfl,P.p,P.l,P.c,hs4.get 1 rfl hj,A,hA,rowIn_whole (hs4.block 0 rfl),hA,by decide,?_⟩
 rw[elemD hA]
 refine hs4.alcE fun b8 H9 he9 hs9=>⟨.inl he9,?_⟩
 refine hs9.appC 3 0 rfl rfl hA ho (by decide) rfl (by omega) (by omega) fun p' c' H11 hs11=>⟨_,rfl,?_⟩
 exact hs11.put 2 rfl (j:=j) (Array.getElem?_eq_some_iff.1 hj).1 rfl fun H13 hs13=>hR ⟨p',P.l+1,c'⟩ H13 rfl (hs13.drop 2)
theorem c136{b j:Nat}{cs:Array Value}{ty:TypeId}{P:Sl3}{l:List PD}(hs:St H0 H (.cell b cs ty:: .sl P.p P.l P.c 46 4 (cellsP l)::σ))(hj:cs[j]?=some P.v)(hl:P.l≤1000000)
 (h0:l=[]→ ∀H',St H0 H' (.cell b cs ty:: .sl P.p P.l P.c 46 4 (cellsP l)::σ)→R (.tuple #[.agg (docA 0 0 0 .nil),.bool false]) H')
 (h1: ∀m x,l=m++[x]→ ∀H',St H0 H' (.cell b (cs.setIfInBounds j (.slice P.p m.length P.c)) ty:: .sl P.p m.length P.c 46 4 (cellsP m)::σ)→R (.tuple #[.agg (arrP x),.bool true]) H'):CallsH Tryz.prog 136 #[.pointer (some ⟨b,j,none⟩)] H R:=by
 have hPl:P.l=l.length:=by have:=(hs.rs 1 rfl).len;rw[cellsP_len] at this;omega
 have hjs:=(Array.getElem?_eq_some_iff.1 hj).1
 refine Tryz.s136 ?_
 unfold Tryz.S136
 refine hs.alc fun b2 H3 hs3=>⟨_,rfl,P.p,P.l,P.c,hs3.get 1 rfl hj,br_eq (fun hz=>?_) fun hnz=>?_⟩
 ·have:l=[]:=List.length_eq_zero_iff.1 (by omega)
  exact⟨rfl,hs3.putAll 0 rfl rfl (docA_one 0 0 0 .nil) fun H6 hs6=>⟨_,rfl,rowIn_whole (hs6.block 0 rfl),h0 this H6 hs6.tail⟩⟩
 ·rcases snoc_or l with rfl|⟨m,x,rfl⟩
  ·exact absurd (by rw[hPl];rfl) hnz
  rw[List.length_append,List.length_singleton] at hPl
  have hw:IntKind.wrap .i64 ((P.l:Int)-1)=(m.length:Nat):=by rw[wrap_id (by omega) (by omega)];omega
  obtain⟨a,ha,hrow⟩:=pds_row (hs3.rs 2 rfl) (i:=m.length) (x:=x) (by simp)
  refine⟨_,rfl,P.p,P.l,P.c,hs3.get 1 rfl hj,_,rfl,P.p,P.l,P.c,hs3.get 1 rfl hj,a,ha,?_⟩
  rw[hw]
  refine⟨by omega,by omega,arrP x,arrP_size x,hrow,hs3.alcE fun b14 H15 he15 hs15=>⟨.inl he15,arrP_size x,hs15.putAll 0 rfl (arrP_size x) (arrP_one x) fun H16 hs16=>⟨_,rfl,P.p,P.l,P.c,hs16.get 2 rfl hj,_,rfl,P.p,P.l,P.c,hs16.get 2 rfl hj,?_⟩⟩⟩
  have hle:=(hs16.fs 3 rfl).le
  rw[hw]
  refine⟨by omega,by omega,_,rfl,?_⟩
  have hval:Value.slice (if P.c=0 then P.p else Option.map (fun x=>Addr.add x (0*4)) P.p) (Int.toNat ((m.length:Nat):Int)-0) (P.c-0)= .slice P.p m.length P.c:=by
   obtain⟨b',hb'⟩:=hs16.slSome 3 (j:=0) rfl (by rw[cellsP_len,List.length_append,List.length_singleton];omega)
   rw[hb',if_neg (by omega)]
   rfl
  rw[hval]
  refine hs16.put 2 rfl (j:=j) hjs rfl fun H22 hs22=>⟨_,arrP_size x,rowIn_whole (hs22.block 0 rfl),arrP_size x,hs22.putAll 1 rfl (arrP_size x) (arrP_one x) fun H24 hs24=>⟨_,arrP_size x,rowIn_whole (hs24.block 1 rfl),?_⟩⟩
  have h24:=(hs24.drop 2).slTake 1 rfl (n:=m.length) (by omega)
  rw[cellsP_take] at h24
  exact h1 m x rfl H24 h24
def hA(u:Bool)(x:PD)(P F:Sl3):Array Value:=if u then histA x P F else histA x F P
theorem hA_size(u:Bool)(x:PD)(P F:Sl3):(hA u x P F).size=6:=by cases u<;>rfl
def jF(u:Bool):Nat:=if u then 4 else 5
def jT(u:Bool):Nat:=if u then 5 else 4
theorem c91{u:Bool}{b:Nat}{x:PD}{P F:Sl3}{lf lt:List PD}(hs:St H0 H (.cell b (hA u x P F) 115:: .sl P.p P.l P.c 46 4 (cellsP lf):: .sl F.p F.l F.c 46 4 (cellsP lt)::σ))(hl:P.l≤1000000)(hl2:F.l≤1000000)
 (h0:lf=[]→ ∀H',St H0 H' (.cell b (hA u x P F) 115:: .sl P.p P.l P.c 46 4 (cellsP lf):: .sl F.p F.l F.c 46 4 (cellsP lt)::σ)→R (.int .i64 44) H')
 (h1: ∀m y,lf=m++[y]→ ∀(P' F':Sl3) H',St H0 H' (.cell b (hA u y P' F') 115:: .sl P'.p P'.l P'.c 46 4 (cellsP m):: .sl F'.p F'.l F'.c 46 4 (cellsP (lt++[x]))::σ)→R (.int .i64 0) H'):
 CallsH Tryz.prog 91 #[.pointer (some ⟨b,0,none⟩),.pointer (some ⟨b,jF u,none⟩),.pointer (some ⟨b,jT u,none⟩)] H R:=by
 refine Tryz.s91 ?_
 unfold Tryz.S91
 refine c136 hs (j:=jF u) (by cases u<;>rfl) hl (fun hz H5 hs5=>⟨_,_,rfl,?_⟩) fun m y hm H5 hs5=>⟨_,_,rfl,?_⟩
 ·exact hs5.alc fun b8 H9 hs9=>⟨rfl,hs9.putAll 0 rfl rfl (docA_one 0 0 0 .nil) fun H10 hs10=>br_t rfl (h0 hz H10 hs10.tail)⟩
 ·refine hs5.alc fun b8 H9 hs9=>⟨arrP_size y,hs9.putAll 0 rfl (arrP_size y) (arrP_one y) fun H10 hs10=>br_f rfl ⟨_,rfl,arrP x,arrP_size x,?_,?_⟩⟩
  ·have hb:=hs10.block 1 rfl
   exact rowIn_block hb fun j v hv=>by
    have hj:j<4:=(Array.getElem?_eq_some_iff.1 hv).1
    rw[←hv]
    cases u<;>(rcases j with _|_|_|_|j<;>first|rfl|omega)
  ·have h10:St H0 H10 (.cell b8 (arrP y) 46:: .cell b (hA u x ⟨P.p,m.length,P.c⟩ F) 115:: .sl P.p m.length P.c 46 4 (cellsP m):: .sl F.p F.l F.c 46 4 (cellsP lt)::σ):=by
    cases u<;>exact hs10
   have h11:St H0 H10 (.cell b (hA u x ⟨P.p,m.length,P.c⟩ F) 115:: .sl F.p F.l F.c 46 4 (cellsP lt):: .cell b8 (arrP y) 46:: .sl P.p m.length P.c 46 4 (cellsP m)::σ):=
    h10.perm ((permC (a:=[_,_,_,_]) (b:=[_,_,_,_]) fun _ y=>by simp only[List.count_cons,List.count_nil];ac_rfl).append_right σ)
   refine c85 h11 (j:=jT u) (by cases u<;>rfl) (arrP_size x) (arrP_one x) hl2 fun Q H14 hQ hs14=>⟨rfl,arrP y,arrP_size y,rowIn_whole (hs14.block 2 rfl),_,rfl,arrP_size y,?_⟩
   have h14:St H0 H14 (.cell b (hA u x ⟨P.p,m.length,P.c⟩ Q) 115:: .sl Q.p Q.l Q.c 46 4 (cellsP (lt++[x])):: .cell b8 (arrP y) 46:: .sl P.p m.length P.c 46 4 (cellsP m)::σ):=by
    rw[cellsP_app,cellsP_one]
    cases u<;>exact hs14
   refine h14.putRow 0 rfl (j:=0) (vs:=(arrP y).toList) (by rw[hA_size,Array.length_toList,arrP_size];decide) (arrP_one y) fun H17 hs17=>h1 m y hm ⟨P.p,m.length,P.c⟩ Q H17 ?_
   have h17:St H0 H17 (.cell b (hA u y ⟨P.p,m.length,P.c⟩ Q) 115:: .sl Q.p Q.l Q.c 46 4 (cellsP (lt++[x])):: .cell b8 (arrP y) 46:: .sl P.p m.length P.c 46 4 (cellsP m)::σ):=by
    cases u<;>exact hs17
   exact(h17.del 2).perm ((permC (a:=[_,_,_]) (b:=[_,_,_]) fun _ y=>by simp only[List.count_cons,List.count_nil];ac_rfl).append_right σ)
end Go.Proofs
namespace Go.Proofs
open Go.Sh
variable {H0 H:Heap} {σ:List Rs} {R:Value→Heap→Prop}
theorem pm6{a b c d e f:Rs}:[a,b,c,d,e,f].Perm [c,d,a,b,e,f]:=permC fun _ y=>by simp only[List.count_cons,List.count_nil];ac_rfl
theorem hist_row{b:Nat}{x:PD}{P F:Sl3}{ty:TypeId}(hb:H[b]?=some (.cells (histA x P F) ty)):rowIn H ⟨b,0,none⟩ (arrP x):=
 rowIn_block hb fun j v hv=>by
  have hj:j<4:=(Array.getElem?_eq_some_iff.1 hv).1
  rw[←hv]
  rcases j with _|_|_|_|j<;>first|rfl|omega
theorem c43{b n:Nat}{h:HL}{e:Ed}{s:EdS}(hs:St H0 H (histRs b h::σ))(hk:HOk n h)(hn:n≤1000000)(hed:EdOk H e s)(hR: ∀H',St H0 H' (histRs b (doH h e).2::σ)→R (.int .i64 (doH h e).1) H'):
 CallsH Tryz.prog 43 #[.pointer (some ⟨b,0,none⟩),.agg (edL e s).toArray] H R:=by
 obtain⟨m,rfl,hm⟩:=St_histOut hs
 obtain⟨now,P,F,past,fut⟩:=m
 have hs:St H0 H (.cell b (histA now P F) 115:: .sl P.p P.l P.c 46 4 (cellsP past):: .sl F.p F.l F.c 46 4 (cellsP fut)::pdRs (now::(past++fut))::σ):=hm
 have hPl:P.l=past.length:=by have:=(hs.rs 1 rfl).len;rw[cellsP_len] at this;omega
 obtain⟨hinv,hnx⟩:=hk.now
 have hlen:=hk.len
 have hinv:Inv now.2:=hinv
 have hnx:now.2.next≤n+1:=hnx
 have hlen:(past.map Prod.snd).length+(fut.map Prod.snd).length≤n:=hlen
 rw[List.length_map,List.length_map] at hlen
 refine Tryz.s43 ?_
 unfold Tryz.S43
 refine hs.alcE fun b3 H4 he4 hs4=>?_
 intro J hJ
 have after: ∀(bn:Nat) (A':Array Value) (H1:Heap),A'.size=4→St H0 H1 (.cell bn A' 46::docRs A' (doD now.2 e).2:: .cell b (histA now P F) 115:: .sl P.p P.l P.c 46 4 (cellsP past):: .sl F.p F.l F.c 46 4 (cellsP fut)::pdRs (now::(past++fut))::σ)→J [.pointer (some ⟨bn,0,none⟩),.int .i64 (doD now.2 e).1] H1:=fun bn A' H1 hsz hs1=>by
  refine hJ _ _ _ (br_ne (fun hne=>?_) fun h0=>?_)
  ·have hd:doH ⟨now.2,past.map Prod.snd,fut.map Prod.snd⟩ e=((doD now.2 e).1,⟨now.2,past.map Prod.snd,fut.map Prod.snd⟩):=by unfold doH;rw[if_neg hne]
   have hr:=hR H1
   simp only[HM.abs] at hr
   rw[hd] at hr
   exact hr (St_histIn ⟨now,P,F,past,fut⟩ rfl (hs1.drop 2))
  ·obtain⟨K',rfl⟩:=docR_arr (hs1.doc 1 rfl)
   have hd:doH ⟨now.2,past.map Prod.snd,fut.map Prod.snd⟩ e=(0,⟨(doD now.2 e).2,past.map Prod.snd++[now.2],[]⟩):=by unfold doH;rw[if_pos h0]
   have hr:=hR
   simp only[HM.abs] at hr
   rw[hd] at hr
   have h1:St H0 H1 (.cell b (histA now P F) 115:: .sl P.p P.l P.c 46 4 (cellsP past):: .cell bn (arrP (K',(doD now.2 e).2)) 46::docRs (arrP (K',(doD now.2 e).2)) (doD now.2 e).2:: .sl F.p F.l F.c 46 4 (cellsP fut)::pdRs (now::(past++fut))::σ):=hs1.perm (pm6.append_right σ)
   refine⟨_,rfl,_,rfl,arrP now,arrP_size now,hist_row (h1.block 0 rfl),?_⟩
   refine c85 (j:=4) h1 rfl (arrP_size now) (arrP_one now) (by omega) fun Q H13 hQ hs13=>⟨rfl,_,arrP_size _,rowIn_whole (hs13.block 2 rfl),_,rfl,arrP_size _,?_⟩
   refine hs13.putRow 0 rfl (j:=0) (vs:=(arrP (K',(doD now.2 e).2)).toList) (Nat.le_of_ble_eq_true rfl) (arrP_one _) fun H16 hs16=>⟨_,rfl,rfl,?_⟩
   refine hs16.put 0 rfl (j:=5) (Nat.le_of_ble_eq_true rfl) rfl fun H18 hs18=>hr H18 ?_
   have h18:St H0 H18 (.cell b (histA (K',(doD now.2 e).2) Q .nil) 115:: .sl Q.p Q.l Q.c 46 4 (cellsP past++(arrP now).toList):: .cell bn (arrP (K',(doD now.2 e).2)) 46::docRs (arrP (K',(doD now.2 e).2)) (doD now.2 e).2:: .sl F.p F.l F.c 46 4 (cellsP fut)::pdRs (now::(past++fut))::σ):=hs18
   have h19:=(h18.del 2).del 3
   have h20:St H0 H18 (docRs (arrP (K',(doD now.2 e).2)) (doD now.2 e).2::pdRs (now::(past++fut)):: .cell b (histA (K',(doD now.2 e).2) Q .nil) 115:: .sl Q.p Q.l Q.c 46 4 (cellsP past++(arrP now).toList)::σ):=h19.perm ((permC (a:=[_,_,_,_]) (b:=[_,_,_,_]) fun _ y=>by simp only[List.count_cons,List.count_nil];ac_rfl).append_right σ)
   have h21:=(St.pdAdd (x:=(K',(doD now.2 e).2)) h20 rfl).pdSub (l':=(K',(doD now.2 e).2)::((past++[now])++[])) (fun x hx=>by
    simp only[List.append_nil,List.mem_cons,List.mem_append,List.not_mem_nil,or_false] at hx ⊢
    rcases hx with h|h|h<;>simp[h])
   have h22:=h21.nilSl 46 4
   refine St_histIn ⟨(K',(doD now.2 e).2),Q,.nil,past++[now],[]⟩ (by simp[HM.abs]) ?_
   have e1:cellsP past++(arrP now).toList=cellsP (past++[now]):=by rw[cellsP_app,cellsP_one]
   rw[e1] at h22
   exact h22.perm ((permC (a:=[_,_,_,_]) (b:=[_,_,_,_]) fun _ y=>by simp only[List.count_cons,List.count_nil];ac_rfl).append_right σ)
 have hdn:DocR H4 (arrP now) now.2:=hs4.pd 4 rfl List.mem_cons_self
 refine⟨_,rfl,arrP now,arrP_size now,hist_row (hs4.block 1 rfl),_,rfl,rowIn_whole (hs4.block 0 rfl),?_,?_⟩
 ·refine do_st hs4 hdn hinv (by omega) ⟨hed.rd.ext he4,hed.shape,hed.params⟩ fun A' H23 hd' hs23=>⟨_,_,rfl,?_⟩
  exact hs23.alc fun b26 H27 hs27=>⟨hd'.size,hs27.putAll 0 rfl hd'.size hd'.one fun H28 hs28=>after b26 A' H28 hd'.size (hs28.del 2)⟩
 ·refine hs4.alcE fun b29 H30 he30 hs30=>⟨.inl he30,?_⟩
  refine do_st hs30 (hdn.ext he30) hinv (by omega) ⟨(hed.rd.ext he4).ext he30,hed.shape,hed.params⟩ fun A' H32 hd' hs32=>⟨_,_,rfl,hd'.size,hs32.putAll 1 rfl hd'.size hd'.one fun H35 hs35=>after b29 A' H35 hd'.size ?_⟩
  exact St.swap (hs35.del 2)
end Go.Proofs
namespace Go.Proofs
open Go.Sh
variable {H0 H:Heap} {σ:List Rs} {R:Value→Heap→Prop}
theorem pdSubset{l l':List PD}(hs:St H0 H (pdRs l::σ))(h: ∀x∈l',x∈l):St H0 H (pdRs l'::σ):=hs.pdSub h
theorem c46{b n:Nat}{h:HL}(hs:St H0 H (histRs b h::σ))(hk:HOk n h)(hn:n≤1000000)(hR: ∀H',St H0 H' (histRs b (undoH h).2::σ)→R (.int .i64 (undoH h).1) H'):
 CallsH Tryz.prog 46 #[.pointer (some ⟨b,0,none⟩)] H R:=by
 obtain⟨m,rfl,hm⟩:=St_histOut hs
 obtain⟨now,P,F,past,fut⟩:=m
 have hs:St H0 H (.cell b (hA true now P F) 115:: .sl P.p P.l P.c 46 4 (cellsP past):: .sl F.p F.l F.c 46 4 (cellsP fut)::pdRs (now::(past++fut))::σ):=hm
 have hPl:P.l=past.length:=by have:=(hs.rs 1 rfl).len;rw[cellsP_len] at this;omega
 have hFl:F.l=fut.length:=by have:=(hs.rs 2 rfl).len;rw[cellsP_len] at this;omega
 have hlen:=hk.len
 have hlen:(past.map Prod.snd).length+(fut.map Prod.snd).length≤n:=hlen
 rw[List.length_map,List.length_map] at hlen
 refine Tryz.s46 ?_
 unfold Tryz.S46
 refine⟨_,rfl,_,rfl,?_⟩
 refine c91 (u:=true) hs (by omega) (by omega) (fun hz H5 hs5=>⟨_,rfl,?_⟩) fun l y hl P' F' H5 hs5=>⟨_,rfl,?_⟩
 ·subst hz
  exact hR H5 (St_histIn ⟨now,P,F,[],fut⟩ rfl hs5)
 ·subst hl
  have hr:=hR H5
  simp only[HM.abs,List.map_append,List.map_cons,List.map_nil,undo_snoc] at hr
  refine hr (St_histIn ⟨y,P',F',l,fut++[now]⟩ (by simp[HM.abs]) ?_)
  have h6:=pdSubset (l':=y::(l++(fut++[now]))) (hs5.front 3 rfl) (fun x hx=>by
   simp only[List.mem_cons,List.mem_append,List.not_mem_nil,or_false] at hx ⊢
   rcases hx with h|h|h|h<;>simp[h])
  exact h6.perm ((permC (a:=[_,_,_,_]) (b:=[_,_,_,_]) fun _ y=>by simp only[List.count_cons,List.count_nil];ac_rfl).append_right σ)
theorem c36{b n:Nat}{h:HL}(hs:St H0 H (histRs b h::σ))(hk:HOk n h)(hR: ∀A' H',DocR H' A' h.now→St H0 H' (docRs A' h.now::histRs b h::σ)→R (.agg A') H'):
 CallsH Tryz.prog 36 #[.pointer (some ⟨b,0,none⟩)] H R:=by
 obtain⟨m,rfl,hm⟩:=St_histOut hs
 have hm:St H0 H (.cell b (histA m.now m.P m.F) 115:: .sl m.P.p m.P.l m.P.c 46 4 (cellsP m.past):: .sl m.F.p m.F.l m.F.c 46 4 (cellsP m.fut)::pdRs (m.now::(m.past++m.fut))::σ):=hm
 refine Tryz.s36 ?_
 unfold Tryz.S36
 refine hm.alc fun b2 H3 hs3=>⟨_,rfl,arrP m.now,arrP_size _,hist_row (hs3.block 1 rfl),?_⟩
 have hdn:DocR H3 (arrP m.now) m.now.2:=hs3.pd 4 rfl List.mem_cons_self
 refine c56 hs3 hdn hk.now.1 fun A' H7 hd' hs7=>⟨_,rfl,hd'.size,hs7.putAll 1 rfl hd'.size hd'.one fun H9 hs9=>⟨A',hd'.size,rowIn_whole (hs9.block 1 rfl),hR A' H9 (hs9.doc 0 rfl) ?_⟩⟩
 have h9:=(hs9.del 1).swap
 have h10:St H0 H9 (docRs A' m.now.2::(m.list b++σ)):=hs9.del 1
 exact(St_histIn (σ:=docRs A' m.now.2::σ) m rfl (h10.perm List.perm_middle.symm)).swap
theorem pm3(a b c:Rs)(l:List Rs):(a::b::c::l).Perm (c::b::a::l):=(permC (a:=[a,b,c]) (b:=[c,b,a]) fun _ y=>by simp only[List.count_cons,List.count_nil];ac_rfl).append_right l
theorem pmX(a b c:Rs)(l σ:List Rs):(a::b::c::(l++σ)).Perm (l++(a::b::c::σ)):=List.perm_append_comm_assoc [a,b,c] l σ
theorem c25{b n:Nat}{h:HL}(hs:St H0 H (histRs b h::σ))(hk:HOk n h)(hn:n≤1000000)(hR: ∀(K' P' F':Sl3) H',P'.l=h.past.length→F'.l=h.fut.length→St H0 H' (docRs (arrP (K',h.now)) h.now::docsRs P' h.past::docsRs F' h.fut::histRs b h::σ)→R (.agg (histA (K',h.now) P' F')) H'):
 CallsH Tryz.prog 25 #[.pointer (some ⟨b,0,none⟩)] H R:=by
 obtain⟨m,rfl,hm⟩:=St_histOut hs
 have hm:St H0 H (.cell b (histA m.now m.P m.F) 115:: .sl m.P.p m.P.l m.P.c 46 4 (cellsP m.past):: .sl m.F.p m.F.l m.F.c 46 4 (cellsP m.fut)::pdRs (m.now::(m.past++m.fut))::σ):=hm
 have hlen:=hk.len
 have hlen:(m.past.map Prod.snd).length+(m.fut.map Prod.snd).length≤n:=hlen
 rw[List.length_map,List.length_map] at hlen
 have hip: ∀x∈m.past,Inv x.2:=fun x hx=>(hk.inv x.2 (.inr (.inl (List.mem_map_of_mem hx)))).1
 have hif: ∀x∈m.fut,Inv x.2:=fun x hx=>(hk.inv x.2 (.inr (.inr (List.mem_map_of_mem hx)))).1
 refine Tryz.s25 ?_
 unfold Tryz.S25
 refine hm.alc fun b2 H3 hs3=>⟨_,rfl,arrP m.now,arrP_size _,hist_row (hs3.block 1 rfl),_,rfl,m.P.p,m.P.l,m.P.c,hs3.get 1 rfl (j:=4) rfl,_,rfl,m.F.p,m.F.l,m.F.c,hs3.get 1 rfl (j:=5) rfl,?_⟩
 have hdn:DocR H3 (arrP m.now) m.now.2:=hs3.pd 4 rfl List.mem_cons_self
 refine c56 hs3 hdn hk.now.1 fun A' H11 hd' hs11=>⟨_,rfl,.inr ⟨⟨_,_,_,hs11.get 2 rfl (j:=5) rfl,rfl⟩,⟨_,_,_,hs11.get 2 rfl (j:=4) rfl,rfl⟩⟩,?_⟩
 obtain⟨K',rfl⟩:=docR_arr hd'
 refine c57 hs11 (P:=m.P) (l:=m.past) ⟨hs11.rs 3 rfl,fun x hx=>hs11.pd 5 rfl (List.mem_cons_of_mem _ (List.mem_append_left _ hx))⟩ hip (by omega) fun P' H14 hP' hs14=>⟨_,_,_,rfl,.inr ⟨_,_,_,hs14.get 3 rfl (j:=5) rfl,rfl⟩,?_⟩
 refine c57 hs14 (P:=m.F) (l:=m.fut) ⟨hs14.rs 5 rfl,fun x hx=>hs14.pd 6 rfl (List.mem_cons_of_mem _ (List.mem_append_right _ hx))⟩ hif (by omega) fun F' H17 hF' hs17=>⟨_,_,_,rfl,arrP_size (K',m.now.2),by decide,rfl,?_⟩
 refine hs17.putAll 3 rfl rfl (show ∀v∈(histA (K',m.now.2) P' F').toList,v.oneCell'=true from histA_one _ _ _) fun H19 hs19=>⟨histA (K',m.now.2) P' F',rfl,rowIn_whole (hs19.block 3 rfl),hR K' P' F' H19 (by rw[hP'];simp[HM.abs]) (by rw[hF'];simp[HM.abs]) ?_⟩
 have h19:St H0 H19 (docsRs F' (m.fut.map Prod.snd)::docsRs P' (m.past.map Prod.snd)::docRs (arrP (K',m.now.2)) m.now.2::(m.list b++σ)):=hs19.del 3
 have h20:=h19.perm (pm3 _ _ _ _)
 have h21:=h20.perm (τ:=m.list b++(docRs (arrP (K',m.now.2)) m.now.2::docsRs P' (m.past.map Prod.snd)::docsRs F' (m.fut.map Prod.snd)::σ)) (pmX _ _ _ _ _)
 exact(St_histIn m rfl h21).perm (pmX _ _ _ [_] _).symm
end Go.Proofs
namespace Go.Proofs
open Go.Sh
theorem Ids.perm{D D':List Lay}{x:List Int}(h:Ids D)(hp:(idsKs D').Perm (x++idsKs D))(hx:x.Nodup)(hz: ∀y∈x,y≠0∧y∉idsKs D):Ids D':=
 ⟨(
  hp.nodup_iff).2 (List.nodup_append.2 ⟨hx,h.nodup,fun a ha b hb hab=>(hz a ha).2 (hab▸hb)⟩),fun y hy=>by
  rcases List.mem_append.1 (hp.mem_iff.1 hy) with h1|h1
  ·exact(hz y h1).1
  ·exact h.pos y h1⟩
end Go.Proofs
namespace Go.Proofs
open Go.Sh
variable {H0 H:Heap} {σ:List Rs} {R:Value→Heap→Prop}
structure RT where
 f:LayF
 to:Int
 P:Sl3
 M:Sl3
 A:Sl3
def RT.rw(r:RT):Rw:=⟨r.f,r.to⟩
def cellsR(r:RT):List Value:=
 [.int .i64 r.f.id,.int .i64 r.f.kind,.int .i64 r.to,.bool r.f.hidden,.int .i64 r.f.opacity,.int .i64 r.f.mode,.int .i64 r.f.w,.int .i64 r.f.h,r.P.v,r.M.v,
  .int .i64 r.f.map.a,.int .i64 r.f.map.b,.int .i64 r.f.map.c,.int .i64 r.f.map.d,.int .i64 r.f.map.e,.int .i64 r.f.map.f,.bool r.f.smooth,.int .i64 r.f.table,r.A.v]
structure rdR(H:Heap)(r:RT):Prop where
 p:IS H r.P.p r.P.l (ints r.f.p)
 mask:IS H r.M.p r.M.l (kints .u8 r.f.mask)
 params:IS H r.A.p r.A.l (ints r.f.params)
theorem rdR.ext{H H':Heap}{r:RT}(h:rdR H r)(he:Ext H H'):rdR H' r:=⟨h.p.ext he,h.mask.ext he,h.params.ext he⟩
end Go.Proofs
