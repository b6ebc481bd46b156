/-
  OWN WORK. Several texts in one: TtD, TtE, TtF, TtG, TtH, TtI, TtJ, TtK, HsH, RnA, RnB, RnC, RnD, RnE.
-/
import Derived.Test.YthigcnljndbmnaaGreatMgEditorGroupsG
import Derived.Test.YthigcnljndbmnaaGreatMgEditorGroupsF
import Derived.Test.YthigcnljndbmnaaGreatMgEditorGroupsE

set_option linter.unusedVariables false
set_option linter.unusedSimpArgs false
set_option maxRecDepth 10000
namespace Go.Proofs
open Go.Sh
variable {H0 H:Heap} {σ:List Rs} {R:Value→Heap→Prop}
end Go.Proofs
namespace Go.Proofs
open Go.Sh
variable {H0 H:Heap} {σ:List Rs} {R:Value→Heap→Prop}
end Go.Proofs
namespace Go.Proofs
open Go.Sh
variable {H0 H:Heap} {σ:List Rs} {R:Value→Heap→Prop}
structure ChgR(g:Int×LayF)(H:Heap)(r:RT)(R:Value→Heap→Prop):Prop where
 bad:g.1≠0→ ∀H',Ext H H'→R (.tuple #[.agg (cellsR r).toArray,.int .i64 g.1]) H'
 ok:g.1=0→ ∀(r':RT) H' τ,r'.f=g.2→r'.to=r.to→St H H' τ→(∀H'' fps,rdR H'' r→Lie H'' τ fps→rdR H'' r')→R (.tuple #[.agg (cellsR r').toArray,.int .i64 0]) H'
theorem ChgR.err{g:Int×LayF}{r:RT}(hc:ChgR g H r R){v:Int}{x:LayF}(hg:g=(v,x))(hv:v≠0){H':Heap}(he:Ext H H'):R (.tuple #[.agg (cellsR r).toArray,.int .i64 v]) H':=by
 have:=hc.bad (by rw[hg];exact hv) H' he
 rw[hg] at this;exact this
end Go.Proofs
namespace Go.Proofs
open Go.Sh
variable {H0 H:Heap} {σ:List Rs} {R:Value→Heap→Prop}
theorem IS.nil(H:Heap):IS H none 0 []:=⟨rfl,fun i v h=>by simp at h⟩
def chgK(w h:Int)(e:Ed)(f:LayF):Int×LayF:=
 if e.kind=4 then paintF e f else if e.kind=5 then lookF e f else if e.kind=6 then hideF e f else if e.kind=7 then maskF w h e f else if e.kind=8 then placeF e f else adjustF e f
theorem step_chg{w h next:Int}{D:List Lay}{e:Ed}(hk:4≤e.kind∧e.kind≤9):stepL w h next D e=chgL (chgK w h e) D e.id:=by
 unfold stepL
 rw[if_neg (by omega),if_neg (by omega),if_neg (by omega)]
 have hc: ∀{g:LayF→Int×LayF},(∀f,chgK w h e f=g f)→chgL g D e.id=chgL (chgK w h e) D e.id:=fun hg=>by
  rw[show chgK w h e=_ from funext hg]
 split
 ·rename_i c;exact hc fun f=>by unfold chgK;rw[if_pos c]
 rename_i c4
 split
 ·rename_i c;exact hc fun f=>by unfold chgK;rw[if_neg c4,if_pos c]
 rename_i c5
 split
 ·rename_i c;exact hc fun f=>by unfold chgK;rw[if_neg c4,if_neg c5,if_pos c]
 rename_i c6
 split
 ·rename_i c;exact hc fun f=>by unfold chgK;rw[if_neg c4,if_neg c5,if_neg c6,if_pos c]
 rename_i c7
 split
 ·rename_i c;exact hc fun f=>by unfold chgK;rw[if_neg c4,if_neg c5,if_neg c6,if_neg c7,if_pos c]
 rename_i c8
 split
 ·exact hc fun f=>by unfold chgK;rw[if_neg c4,if_neg c5,if_neg c6,if_neg c7,if_neg c8]
 ·omega
end Go.Proofs
namespace Go.Proofs
open Go.Sh
variable {H0 H:Heap} {σ:List Rs} {R:Value→Heap→Prop}
end Go.Proofs
namespace Go.Proofs
open Go.Sh
variable {H0 H:Heap} {σ:List Rs} {R:Value→Heap→Prop}
end Go.Proofs
namespace Go.Proofs
open Go.Sh
variable {H0 H:Heap} {σ:List Rs} {R:Value→Heap→Prop}
theorem doL_step{w h next:Int}{D:List Lay}{e:Ed}(hk:1≤e.kind∧e.kind≤9):(doL w h next D e).1=(stepL w h next D e).1∧((stepL w h next D e).1=0→(doL w h next D e).2=(nextL next e,(stepL w h next D e).2)):=by
 unfold doL
 rw[if_neg (by omega)]
 by_cases h0:(stepL w h next D e).1=0
 ·rw[if_neg (fun hh=>hh h0)]
  exact⟨h0.symm,fun _=>rfl⟩
 ·rw[if_pos h0]
  exact⟨rfl,fun hh=>absurd hh h0⟩
theorem chgK_id(w h:Int)(e:Ed)(f:LayF):(chgK w h e f).2.id=f.id:=by
 unfold chgK paintF lookF hideF maskF placeF adjustF
 repeat' split
 all_goals rfl
end Go.Proofs
namespace Go.Proofs
open Go.Sh
variable {H0 H:Heap} {σ:List Rs} {R:Value→Heap→Prop}
theorem IS.bs{H:Heap}{p:Option Addr}{l:Nat}{xs:List Int}(h:IS H p l (kints .u8 xs)):bsOf H p l xs:=by
 cases p with
 |none=>
  exact List.eq_nil_iff_forall_not_mem.2 fun v hv=>by
   obtain⟨i,hi⟩:=List.getElem?_of_mem hv
   obtain⟨a,h1,_⟩:=h.get i _ (kints_get hi)
   cases h1
 |some a=>
  refine⟨h.length,fun j v hv=>?_⟩
  obtain⟨a',h1,h2⟩:=h.get j v (by simpa[kints] using hv)
  cases h1;exact h2
structure EdsR(H:Heap)(p:Option Addr)(l:Nat)(es:List (Ed×EdS)):Prop where
 len:es.length=l
 get: ∀(i:Nat) e s,es[i]?=some (e,s)→ ∃a,p=some a∧rowIn H (a.add (i*19)) (edL e s).toArray∧rdEd H e s
theorem EdsR.ext{H H':Heap}{p:Option Addr}{l:Nat}{es:List (Ed×EdS)}(h:EdsR H p l es)(he:Ext H H'):EdsR H' p l es:=⟨h.len,fun i e s hi=>let ⟨a,h1,h2,h3⟩:=h.get i e s hi;⟨a,h1,rowAt_ext he h2,h3.ext he⟩⟩
end Go.Proofs
namespace Go.Proofs
open Go.Sh
variable {H0 H:Heap} {σ:List Rs} {R:Value→Heap→Prop}
theorem docs_pd{P:Sl3}{ds:List DocL}(hs:St H0 H (docsRs P ds::σ)): ∃l:List PD,l.map Prod.snd=ds∧St H0 H (.sl P.p P.l P.c 46 4 (cellsP l)::pdRs l::σ):=by
 obtain⟨l,h1,h2⟩:=St_docsOut hs
 refine⟨l,h1,?_⟩
 have h3:St H0 H ((l.map fun x=>docRs (arrP x) x.2)++(.sl P.p P.l P.c 46 4 (cellsP l)::σ)):=h2.perm (List.perm_middle (l₁:=l.map fun x=>docRs (arrP x) x.2)).symm
 exact(St.persOf (τ:=l.map fun x=>docRs (arrP x) x.2) h3 fun H' h'=>docs_all h' fun x hx=>List.mem_map_of_mem hx).swap
theorem pdJoin{l l':List PD}(hs:St H0 H (pdRs l::pdRs l'::σ)):St H0 H (pdRs (l++l')::σ):=
 St.persOf (τ:=[pdRs l,pdRs l']) hs fun H' h' x hx=>by
  rcases List.mem_append.1 hx with hx|hx
  ·exact h'.pd 0 rfl hx
  ·exact h'.pd 1 rfl hx
theorem c58{n:Nat}{m:HM}(hs:St H0 H σ)(hd:DocK H m.now)(hp:PdsR H m.P m.past)(hf:PdsR H m.F m.fut)(hk:HOk n m.abs)(hn:n≤1000000)(hR: ∀b H',St H0 H' (histRs b m.abs::σ)→R (.pointer (some ⟨b,0,none⟩)) H'):
 CallsH Tryz.prog 58 #[.agg (histA m.now m.P m.F)] H R:=by
 have hlen:=hk.len
 have hlen:(m.past.map Prod.snd).length+(m.fut.map Prod.snd).length≤n:=hlen
 rw[List.length_map,List.length_map] at hlen
 have hip: ∀x∈m.past,Inv x.2:=fun x hx=>(hk.inv x.2 (.inr (.inl (List.mem_map_of_mem hx)))).1
 have hif: ∀x∈m.fut,Inv x.2:=fun x hx=>(hk.inv x.2 (.inr (.inr (List.mem_map_of_mem hx)))).1
 refine Tryz.s58 ?_
 unfold Tryz.S58
 refine(St.nil H).alc fun b2 H3 hs3=>⟨arrP m.now,arrP_size _,hist_row (hs3.block 0 rfl),m.P.p,m.P.l,m.P.c,hs3.get 0 rfl (j:=4) rfl,m.F.p,m.F.l,m.F.c,hs3.get 0 rfl (j:=5) rfl,?_⟩
 refine c56 hs3 (DocK.ext hd hs3.ext) hk.now.1 fun A' H8 hd' hs8=>⟨_,rfl,.inr ⟨⟨_,_,_,hs8.get 1 rfl (j:=5) rfl,rfl⟩,⟨_,_,_,hs8.get 1 rfl (j:=4) rfl,rfl⟩⟩,?_⟩
 obtain⟨K',rfl⟩:=docR_arr hd'
 refine c57 hs8 (P:=m.P) (l:=m.past) (hp.ext hs8.ext) hip (by omega) fun P' H11 hP' hs11=>⟨_,_,_,rfl,.inr ⟨_,_,_,hs11.get 2 rfl (j:=5) rfl,rfl⟩,?_⟩
 refine c57 hs11 (P:=m.F) (l:=m.fut) (hf.ext hs11.ext) hif (by omega) fun F' H14 hF' hs14=>⟨_,_,_,rfl,arrP_size (K',m.now.2),by decide,rfl,by decide,rfl,by decide,?_⟩
 refine(hs14.del 3).alc fun b16 H17 hs17=>hR b16 H17 ?_
 have h17:St H H17 (docsRs F' (m.fut.map Prod.snd)::docsRs P' (m.past.map Prod.snd)::docRs (arrP (K',m.now.2)) m.now.2::[.cell b16 (histA (K',m.now.2) P' F') 115]):=hs17.perm (permC (a:=[_,_,_,_]) (b:=[_,_,_,_]) fun _ y=>by simp only[List.count_cons,List.count_nil];ac_rfl)
 obtain⟨lf,hlf,h18⟩:=docs_pd h17
 have h19:St H H17 (docsRs P' (m.past.map Prod.snd)::docRs (arrP (K',m.now.2)) m.now.2:: .cell b16 (histA (K',m.now.2) P' F') 115:: .sl F'.p F'.l F'.c 46 4 (cellsP lf)::[pdRs lf]):=h18.perm (permC (a:=[_,_,_,_,_]) (b:=[_,_,_,_,_]) fun _ y=>by simp only[List.count_cons,List.count_nil];ac_rfl)
 obtain⟨lp,hlp,h20⟩:=docs_pd h19
 have h21:St H H17 (docRs (arrP (K',m.now.2)) m.now.2::pdRs lp::pdRs lf:: .cell b16 (histA (K',m.now.2) P' F') 115:: .sl P'.p P'.l P'.c 46 4 (cellsP lp)::[.sl F'.p F'.l F'.c 46 4 (cellsP lf)]):=h20.perm (permC (a:=[_,_,_,_,_,_]) (b:=[_,_,_,_,_,_]) fun _ y=>by simp only[List.count_cons,List.count_nil];ac_rfl)
 have h22:=pdJoin (St.pdOne (x:=(K',m.now.2)) h21)
 have h23:=pdJoin h22
 refine St_histIn ⟨(K',m.now.2),P',F',lp,lf⟩ (by simp[HM.abs,hlp,hlf]) ?_
 have h24:St H H17 [.cell b16 (histA (K',m.now.2) P' F') 115,.sl P'.p P'.l P'.c 46 4 (cellsP lp),.sl F'.p F'.l F'.c 46 4 (cellsP lf),pdRs ((K',m.now.2)::(lp++lf))]:=by
  have:=h23.perm (permC (a:=[_,_,_,_]) (b:=[.cell b16 (histA (K',m.now.2) P' F') 115,.sl P'.p P'.l P'.c 46 4 (cellsP lp),.sl F'.p F'.l F'.c 46 4 (cellsP lf),pdRs ([(K',m.now.2)]++lp++lf)]) fun _ y=>by simp only[List.count_cons,List.count_nil];ac_rfl)
  rw[List.append_assoc] at this
  exact this
 exact hs.call h24
def stL(k:Int)(e:Ed)(s:EdS):List Value:= .int .i64 k::edL e s
abbrev SE:=Int×Ed×EdS
structure StepsR(H:Heap)(p:Option Addr)(l:Nat)(ss:List SE):Prop where
 len:ss.length=l
 get: ∀(i:Nat) k e s,ss[i]?=some (k,e,s)→ ∃a,p=some a∧rowIn H (a.add (i*20)) (stL k e s).toArray∧rdEd H e s
theorem StepsR.ext{H H':Heap}{p:Option Addr}{l:Nat}{ss:List SE}(h:StepsR H p l ss)(he:Ext H H'):StepsR H' p l ss:=⟨h.len,fun i k e s hi=>let ⟨a,h1,h2,h3⟩:=h.get i k e s hi;⟨a,h1,rowAt_ext he h2,h3.ext he⟩⟩
def hnE:Ed:=ed0 1 0 0 (-1) 1 0 0 0 0 0
def hn0:DocL:=⟨2,2,1,[]⟩
def hn1:DocL:=(doD hn0 hnE).2
def hn2:DocL:=(doD hn1 hnE).2
end Go.Proofs
namespace Go.Proofs
open Go.Sh
def mulP(a b:Int):Int:=(a*b+127)/255
def bareP(c a:Int):Int:=if a=0 then 0 else min 255 ((255*c+a/2)/a)
def screenP(x y:Int):Int:=x+y-mulP x y
def hardP(x y:Int):Int:=if y<128 then mulP x (2*y) else screenP x (2*y-255)
def blP(mode x y:Int):Int:=
 if mode=1 then mulP x y else if mode=2 then screenP x y else if mode=3 then hardP y x else if mode=4 then min x y else if mode=5 then max x y
 else if mode=6 then(if x=0 then 0 else if y=255 then 255 else min 255 (255*x/(255-y)))
 else if mode=7 then(if x=255 then 255 else if y=0 then 0 else 255-min 255 (255*(255-x)/y))
 else if mode=8 then hardP x y else if mode=9 then max (x-y) (y-x) else if mode=10 then x+y-2*mulP x y
 else if mode=11 then min 255 (max 0 (mulP x x+2*mulP x y-2*mulP (mulP x x) y)) else y
structure C4 where
 r:Int
 g:Int
 b:Int
 a:Int
def C4.l(c:C4):List Int:=[c.r,c.g,c.b,c.a]
def spl(v:Int):C4:=⟨v/16777216%256,v/65536%256,v/256%256,v%256⟩
def joinP(c:C4):Int:=c.r*16777216+c.g*65536+c.b*256+c.a
def fadeP(c:C4)(f:Int):C4:=⟨mulP c.r f,mulP c.g f,mulP c.b f,mulP c.a f⟩
def mixP(mode sa da si di:Int):Int:=min (sa+da-mulP sa da) (mulP si (255-da)+mulP di (255-sa)+mulP (mulP sa da) (blP mode (bareP di da) (bareP si sa)))
def blendP(mode:Int)(s d:C4):C4:=⟨mixP mode s.a d.a s.r d.r,mixP mode s.a d.a s.g d.g,mixP mode s.a d.a s.b d.b,s.a+d.a-mulP s.a d.a⟩
def mapP1(t:List Int)(c a:Int):Int:=mulP (t.getD (bareP c a).toNat 0) a
def adjP1(t:List Int)(f c a:Int):Int:=min a (mulP (mapP1 t c a) f+mulP c (255-f))
def adjP(t:List Int)(f:Int)(c:C4):C4:=⟨adjP1 t f c.r c.a,adjP1 t f c.g c.a,adjP1 t f c.b c.a,c.a⟩
def byte(x:Int):Prop:=0≤x∧x≤255
structure OkC(c:C4):Prop where
 r:0≤c.r∧c.r≤c.a
 g:0≤c.g∧c.g≤c.a
 b:0≤c.b∧c.b≤c.a
 a:c.a≤255
theorem OkC.bytes{c:C4}(h:OkC c):byte c.r∧byte c.g∧byte c.b∧byte c.a:=by
 have h1:=h.r;have h2:=h.g;have h3:=h.b;have h4:=h.a
 unfold byte;omega
theorem pixZ0:pixelB 0=true:=by decide
end Go.Proofs
namespace Go.Proofs
open Go.Sh
variable {H0 H:Heap} {σ:List Rs} {R:Value→Heap→Prop}
end Go.Proofs
namespace Go.Proofs
open Go.Sh
variable {H0 H:Heap} {σ:List Rs} {R:Value→Heap→Prop}
end Go.Proofs
namespace Go.Proofs
open Go.Sh
variable {H0 H:Heap} {σ:List Rs} {R:Value→Heap→Prop}
def segV(ps:List Int)(v:Int)(j:Nat):Int:=ps.getD (j+1) 0+((ps.getD (j+3) 0-ps.getD (j+1) 0)*(v-ps.getD j 0)).tdiv (ps.getD (j+2) 0-ps.getD j 0)
def crvG(ps:List Int)(v:Int):Nat→Nat→Int
 |0,_=>ps.getD (ps.length-1) 0
 |n+1,j=>if j+2<ps.length then(if v<ps.getD (j+2) 0 then segV ps v j else crvG ps v n (j+2)) else ps.getD (ps.length-1) 0
def crvV(ps:List Int)(v:Int):Int:=if v≤ps.getD 0 0 then ps.getD 1 0 else crvG ps v 16 0
def lvlV(ps:List Int)(v:Int):Int:=min 255 ((255*max 0 (v-ps.getD 0 0)+(ps.getD 1 0-ps.getD 0 0)/2)/(ps.getD 1 0-ps.getD 0 0))
def tabV(kind:Int)(ps:List Int)(v:Int):Int:=if kind=1 then crvV ps v else if kind=0 then lvlV ps v else if kind=2 then 255-v else if v≥ps.getD 0 0 then 255 else 0
def tabL(kind:Int)(ps:List Int):List Int:=(List.range 256).map fun v=>tabV kind ps (v:Nat)
end Go.Proofs
namespace Go.Proofs
open Go.Sh
variable {H0 H:Heap} {σ:List Rs} {R:Value→Heap→Prop}
def picAt(w h:Int)(P:List Int)(x y:Int):Int:=if x<0∨x≥w∨y<0∨y≥h then 0 else P.getD (y*w+x).toNat 0
def wsum(x0 x1 x2 x3 s t:Int):Int:=(32768+x0*((256-s)*(256-t))+x1*(s*(256-t))+x2*((256-s)*t)+x3*(s*t))/65536
def smC(w h:Int)(P:List Int)(u v:Int):C4:=
 let i:=(u-32768)/65536;let j:=(v-32768)/65536;let s:=(u-32768)/256%256;let t:=(v-32768)/256%256
 let a:=spl (picAt w h P i j);let b:=spl (picAt w h P (i+1) j);let c:=spl (picAt w h P i (j+1));let d:=spl (picAt w h P (i+1) (j+1))
 ⟨wsum a.r b.r c.r d.r s t,wsum a.g b.g c.g d.g s t,wsum a.b b.b c.b d.b s t,wsum a.a b.a c.a d.a s t⟩
def atU(b0 b1 b4 x y:Int):Int:=(b0*(2*x+1)+b1*(2*y+1))/2+b4
def atP(w h:Int)(P:List Int)(m:M6)(x y:Int)(smooth:Bool):Int:=
 if smooth then joinP (smC w h P (atU m.a m.b m.e x y) (atU m.c m.d m.f x y)) else picAt w h P (atU m.a m.b m.e x y/65536) (atU m.c m.d m.f x y/65536)
structure PicOk(w h:Int)(P:List Int):Prop where
 hw:0≤w∧w≤32768
 hh:0≤h∧h≤32768
 len:(P.length:Int)=w*h
 px:P.all pixelB=true
theorem in_pic{w h x y:Int}{n:Nat}(hl:(n:Int)=w*h)(hx:0≤x∧x<w)(hy:0≤y∧y<h):0≤y*w+x∧y*w+x<n∧0≤y*w:=by
 have h1:0≤y*w:=Int.mul_nonneg hy.1 (by omega)
 have h2:(y+1)*w≤h*w:=Int.mul_le_mul_of_nonneg_right (by omega) (by omega)
 rw[Int.add_mul,Int.one_mul,Int.mul_comm h w] at h2
 omega
theorem PicOk.at{w h:Int}{P:List Int}(hp:PicOk w h P)(x y:Int):pixelB (picAt w h P x y)=true:=by
 unfold picAt
 split
 ·exact pixZ0
 ·rename_i hn
  have:=in_pic hp.len (x:=x) (y:=y) (by omega) (by omega)
  have hlt:(y*w+x).toNat<P.length:=by omega
  rw[List.getD_eq_getElem?_getD,List.getElem?_eq_getElem hlt]
  exact List.all_eq_true.1 hp.px _ (List.getElem_mem hlt)
end Go.Proofs
