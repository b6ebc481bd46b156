/-
  OWN WORK. Several texts in one: TtG, TtH, TtI, TtJ, TtK, HsH, RnA, RnB, RnC, RnD, RnE, RnF, RnG, RnH.
-/
import Derived.Test.YthigcnljndbmnaaGreatMgEditorGroupsG
import Derived.Test.YthigcnljndbmnaaGreatMgEditorGroupsF
import Derived.Test.YthigcnljndbmnaaGreatMgEditorGroupsE

set_option linter.unusedVariables false
set_option linter.unusedSimpArgs false
set_option maxRecDepth 10000
namespace Go.Proofs
open Go.Sh
variable {H0 H:Heap} {σ:List Rs} {R:Value→Heap→Prop}
theorem IS.nil(H:Heap):IS H none 0 []:=⟨rfl,fun i v h=>by simp at h⟩
end Go.Proofs
namespace Go.Proofs
open Go.Sh
variable {H0 H:Heap} {σ:List Rs} {R:Value→Heap→Prop}
end Go.Proofs
namespace Go.Proofs
open Go.Sh
variable {H0 H:Heap} {σ:List Rs} {R:Value→Heap→Prop}
end Go.Proofs
namespace Go.Proofs
open Go.Sh
variable {H0 H:Heap} {σ:List Rs} {R:Value→Heap→Prop}
end Go.Proofs
namespace Go.Proofs
open Go.Sh
variable {H0 H:Heap} {σ:List Rs} {R:Value→Heap→Prop}
theorem IS.bs{H:Heap}{p:Option Addr}{l:Nat}{xs:List Int}(h:IS H p l (kints .u8 xs)):bsOf H p l xs:=by
 cases p with
 |none=>
  exact List.eq_nil_iff_forall_not_mem.2 fun v hv=>by
   obtain⟨i,hi⟩:=List.getElem?_of_mem hv
   obtain⟨a,h1,_⟩:=h.get i _ (kints_get hi)
   cases h1
 |some a=>
  refine⟨h.length,fun j v hv=>?_⟩
  obtain⟨a',h1,h2⟩:=h.get j v (by simpa[kints] using hv)
  cases h1;exact h2
structure EdsR(H:Heap)(p:Option Addr)(l:Nat)(es:List (Ed×EdS)):Prop where
 len:es.length=l
 get: ∀(i:Nat) e s,es[i]?=some (e,s)→ ∃a,p=some a∧rowIn H (a.add (i*19)) (edL e s).toArray∧rdEd H e s
theorem EdsR.ext{H H':Heap}{p:Option Addr}{l:Nat}{es:List (Ed×EdS)}(h:EdsR H p l es)(he:Ext H H'):EdsR H' p l es:=⟨h.len,fun i e s hi=>let ⟨a,h1,h2,h3⟩:=h.get i e s hi;⟨a,h1,rowAt_ext he h2,h3.ext he⟩⟩
end Go.Proofs
namespace Go.Proofs
open Go.Sh
variable {H0 H:Heap} {σ:List Rs} {R:Value→Heap→Prop}
def stL(k:Int)(e:Ed)(s:EdS):List Value:= .int .i64 k::edL e s
abbrev SE:=Int×Ed×EdS
structure StepsR(H:Heap)(p:Option Addr)(l:Nat)(ss:List SE):Prop where
 len:ss.length=l
 get: ∀(i:Nat) k e s,ss[i]?=some (k,e,s)→ ∃a,p=some a∧rowIn H (a.add (i*20)) (stL k e s).toArray∧rdEd H e s
theorem StepsR.ext{H H':Heap}{p:Option Addr}{l:Nat}{ss:List SE}(h:StepsR H p l ss)(he:Ext H H'):StepsR H' p l ss:=⟨h.len,fun i k e s hi=>let ⟨a,h1,h2,h3⟩:=h.get i k e s hi;⟨a,h1,rowAt_ext he h2,h3.ext he⟩⟩
def hnE:Ed:=ed0 1 0 0 (-1) 1 0 0 0 0 0
def hn0:DocL:=⟨2,2,1,[]⟩
def hn1:DocL:=(doD hn0 hnE).2
def hn2:DocL:=(doD hn1 hnE).2
end Go.Proofs
namespace Go.Proofs
open Go.Sh
def mulP(a b:Int):Int:=(a*b+127)/255
def bareP(c a:Int):Int:=if a=0 then 0 else min 255 ((255*c+a/2)/a)
def screenP(x y:Int):Int:=x+y-mulP x y
def hardP(x y:Int):Int:=if y<128 then mulP x (2*y) else screenP x (2*y-255)
def blP(mode x y:Int):Int:=
 if mode=1 then mulP x y else if mode=2 then screenP x y else if mode=3 then hardP y x else if mode=4 then min x y else if mode=5 then max x y
 else if mode=6 then(if x=0 then 0 else if y=255 then 255 else min 255 (255*x/(255-y)))
 else if mode=7 then(if x=255 then 255 else if y=0 then 0 else 255-min 255 (255*(255-x)/y))
 else if mode=8 then hardP x y else if mode=9 then max (x-y) (y-x) else if mode=10 then x+y-2*mulP x y
 else if mode=11 then min 255 (max 0 (mulP x x+2*mulP x y-2*mulP (mulP x x) y)) else y
structure C4 where
 r:Int
 g:Int
 b:Int
 a:Int
def C4.l(c:C4):List Int:=[c.r,c.g,c.b,c.a]
def spl(v:Int):C4:=⟨v/16777216%256,v/65536%256,v/256%256,v%256⟩
def joinP(c:C4):Int:=c.r*16777216+c.g*65536+c.b*256+c.a
def fadeP(c:C4)(f:Int):C4:=⟨mulP c.r f,mulP c.g f,mulP c.b f,mulP c.a f⟩
def mixP(mode sa da si di:Int):Int:=min (sa+da-mulP sa da) (mulP si (255-da)+mulP di (255-sa)+mulP (mulP sa da) (blP mode (bareP di da) (bareP si sa)))
def blendP(mode:Int)(s d:C4):C4:=⟨mixP mode s.a d.a s.r d.r,mixP mode s.a d.a s.g d.g,mixP mode s.a d.a s.b d.b,s.a+d.a-mulP s.a d.a⟩
def mapP1(t:List Int)(c a:Int):Int:=mulP (t.getD (bareP c a).toNat 0) a
def adjP1(t:List Int)(f c a:Int):Int:=min a (mulP (mapP1 t c a) f+mulP c (255-f))
def adjP(t:List Int)(f:Int)(c:C4):C4:=⟨adjP1 t f c.r c.a,adjP1 t f c.g c.a,adjP1 t f c.b c.a,c.a⟩
def byte(x:Int):Prop:=0≤x∧x≤255
structure OkC(c:C4):Prop where
 r:0≤c.r∧c.r≤c.a
 g:0≤c.g∧c.g≤c.a
 b:0≤c.b∧c.b≤c.a
 a:c.a≤255
theorem OkC.bytes{c:C4}(h:OkC c):byte c.r∧byte c.g∧byte c.b∧byte c.a:=by
 have h1:=h.r;have h2:=h.g;have h3:=h.b;have h4:=h.a
 unfold byte;omega
theorem pixZ0:pixelB 0=true:=by decide
end Go.Proofs
namespace Go.Proofs
open Go.Sh
variable {H0 H:Heap} {σ:List Rs} {R:Value→Heap→Prop}
end Go.Proofs
namespace Go.Proofs
open Go.Sh
variable {H0 H:Heap} {σ:List Rs} {R:Value→Heap→Prop}
end Go.Proofs
namespace Go.Proofs
open Go.Sh
variable {H0 H:Heap} {σ:List Rs} {R:Value→Heap→Prop}
def segV(ps:List Int)(v:Int)(j:Nat):Int:=ps.getD (j+1) 0+((ps.getD (j+3) 0-ps.getD (j+1) 0)*(v-ps.getD j 0)).tdiv (ps.getD (j+2) 0-ps.getD j 0)
def crvG(ps:List Int)(v:Int):Nat→Nat→Int
 |0,_=>ps.getD (ps.length-1) 0
 |n+1,j=>if j+2<ps.length then(if v<ps.getD (j+2) 0 then segV ps v j else crvG ps v n (j+2)) else ps.getD (ps.length-1) 0
def crvV(ps:List Int)(v:Int):Int:=if v≤ps.getD 0 0 then ps.getD 1 0 else crvG ps v 16 0
def lvlV(ps:List Int)(v:Int):Int:=min 255 ((255*max 0 (v-ps.getD 0 0)+(ps.getD 1 0-ps.getD 0 0)/2)/(ps.getD 1 0-ps.getD 0 0))
def tabV(kind:Int)(ps:List Int)(v:Int):Int:=if kind=1 then crvV ps v else if kind=0 then lvlV ps v else if kind=2 then 255-v else if v≥ps.getD 0 0 then 255 else 0
def tabL(kind:Int)(ps:List Int):List Int:=(List.range 256).map fun v=>tabV kind ps (v:Nat)
end Go.Proofs
namespace Go.Proofs
open Go.Sh
variable {H0 H:Heap} {σ:List Rs} {R:Value→Heap→Prop}
def picAt(w h:Int)(P:List Int)(x y:Int):Int:=if x<0∨x≥w∨y<0∨y≥h then 0 else P.getD (y*w+x).toNat 0
def wsum(x0 x1 x2 x3 s t:Int):Int:=(32768+x0*((256-s)*(256-t))+x1*(s*(256-t))+x2*((256-s)*t)+x3*(s*t))/65536
def smC(w h:Int)(P:List Int)(u v:Int):C4:=
 let i:=(u-32768)/65536;let j:=(v-32768)/65536;let s:=(u-32768)/256%256;let t:=(v-32768)/256%256
 let a:=spl (picAt w h P i j);let b:=spl (picAt w h P (i+1) j);let c:=spl (picAt w h P i (j+1));let d:=spl (picAt w h P (i+1) (j+1))
 ⟨wsum a.r b.r c.r d.r s t,wsum a.g b.g c.g d.g s t,wsum a.b b.b c.b d.b s t,wsum a.a b.a c.a d.a s t⟩
def atU(b0 b1 b4 x y:Int):Int:=(b0*(2*x+1)+b1*(2*y+1))/2+b4
def atP(w h:Int)(P:List Int)(m:M6)(x y:Int)(smooth:Bool):Int:=
 if smooth then joinP (smC w h P (atU m.a m.b m.e x y) (atU m.c m.d m.f x y)) else picAt w h P (atU m.a m.b m.e x y/65536) (atU m.c m.d m.f x y/65536)
structure PicOk(w h:Int)(P:List Int):Prop where
 hw:0≤w∧w≤32768
 hh:0≤h∧h≤32768
 len:(P.length:Int)=w*h
 px:P.all pixelB=true
theorem in_pic{w h x y:Int}{n:Nat}(hl:(n:Int)=w*h)(hx:0≤x∧x<w)(hy:0≤y∧y<h):0≤y*w+x∧y*w+x<n∧0≤y*w:=by
 have h1:0≤y*w:=Int.mul_nonneg hy.1 (by omega)
 have h2:(y+1)*w≤h*w:=Int.mul_le_mul_of_nonneg_right (by omega) (by omega)
 rw[Int.add_mul,Int.one_mul,Int.mul_comm h w] at h2
 omega
theorem PicOk.at{w h:Int}{P:List Int}(hp:PicOk w h P)(x y:Int):pixelB (picAt w h P x y)=true:=by
 unfold picAt
 split
 ·exact pixZ0
 ·rename_i hn
  have:=in_pic hp.len (x:=x) (y:=y) (by omega) (by omega)
  have hlt:(y*w+x).toNat<P.length:=by omega
  rw[List.getD_eq_getElem?_getD,List.getElem?_eq_getElem hlt]
  exact List.all_eq_true.1 hp.px _ (List.getElem_mem hlt)
end Go.Proofs
namespace Go.Proofs
open Go.Sh
variable {H0 H:Heap} {σ:List Rs} {R:Value→Heap→Prop}
structure MapOk(m:M6):Prop where
 ok:((-16777216≤m.a∧m.a≤16777216)∧(-16777216≤m.b∧m.b≤16777216)∧(-16777216≤m.c∧m.c≤16777216)∧(-16777216≤m.d∧m.d≤16777216)∧(-68719476736≤m.e∧m.e≤68719476736)∧(-68719476736≤m.f∧m.f≤68719476736))
def partP(f:LayF)(at_:Int):Int:=if f.mask.length=0 then f.opacity else mulP f.opacity (f.mask.getD at_.toNat 0)
def overP(f:LayF)(g s out:Int):Int:=if s≠0∧g>0 then joinP (blendP f.mode (fadeP (spl s) g) (spl out)) else out
def adjustP(f:LayF)(g out:Int):Int:=joinP (adjP (tabL f.table f.params) g (spl out))
def seenP(f:LayF)(x y:Int):Int:=atP f.w f.h f.p (backM f.map).2 x y f.smooth
mutual
def layPx(W x y:Int):Lay→Int→Int
 | .mk f ks,out=>if f.hidden=true then out else if f.kind=2 then adjustP f (partP f (y*W+x)) out else overP f (partP f (y*W+x)) (if f.kind=0 then seenP f x y else lsPx W x y ks 0) out
def lsPx(W x y:Int):List Lay→Int→Int
 |[],out=>out
 |t::ts,out=>lsPx W x y ts (layPx W x y t out)
end
end Go.Proofs
namespace Go.Proofs
open Go.Sh
variable {H0 H:Heap} {σ:List Rs} {R:Value→Heap→Prop}
structure Pn where
 W:Int
 hd:Int
 next:Int
 K:Sl3
 x:Int
 y:Int
 w:Int
 h:Int
def Pn.A(p:Pn):Array Value:=#[.int .i64 p.W,.int .i64 p.hd,.int .i64 p.next,p.K.v,.int .i64 p.x,.int .i64 p.y,.int .i64 p.w,.int .i64 p.h]
structure PnOk(p:Pn):Prop where
 W:0≤p.W∧p.W≤32768
 hd:0≤p.hd∧p.hd≤32768
 x:0≤p.x
 y:0≤p.y
 w:0≤p.w∧p.x+p.w≤p.W
 h:0≤p.h∧p.y+p.h≤p.hd
def Pn.n(p:Pn):Nat:=(p.w*p.h).toNat
def Pn.X(p:Pn)(i:Nat):Int:=p.x+(i:Int)%p.w
def Pn.Y(p:Pn)(i:Nat):Int:=p.y+(i:Int)/p.w
theorem PnOk.area{p:Pn}(hp:PnOk p):0≤p.w*p.h∧p.w*p.h≤1073741824:=by
 have h1:=hp.w;have h2:=hp.h;have h3:=hp.W;have h4:=hp.hd;have h5:=hp.x;have h6:=hp.y
 have:=mul_bd (x:=p.w) (y:=p.h) (A:=32768) (B:=32768) (by omega) (by omega)
 exact⟨Int.mul_nonneg h1.1 h2.1,by omega⟩
theorem PnOk.n{p:Pn}(hp:PnOk p):(p.n:Int)=p.w*p.h:=by have:=hp.area;unfold Pn.n;omega
theorem PnOk.at{p:Pn}(hp:PnOk p){i:Nat}(hi:i<p.n):0<p.w∧(0≤p.X i∧p.X i<p.W)∧(0≤p.Y i∧p.Y i<p.hd)∧(0≤(i:Int)%p.w∧(i:Int)%p.w<p.w)∧(0≤(i:Int)/p.w∧(i:Int)/p.w<p.h):=by
 have hn:=hp.n
 have h1:=hp.w;have h2:=hp.h;have h5:=hp.x;have h6:=hp.y
 have hw:0<p.w:=by
  by_cases h:0<p.w
  ·exact h
  ·have:p.w=0:=by omega
   rw[this,Int.zero_mul] at hn;omega
 have e1:=Int.emod_nonneg (i:Int) (show p.w≠0 by omega)
 have e2:=Int.emod_lt_of_pos (i:Int) hw
 have e3:0≤(i:Int)/p.w:=Int.ediv_nonneg (by omega) (by omega)
 have e4:(i:Int)/p.w<p.h:=Int.ediv_lt_of_lt_mul hw (by rw[Int.mul_comm];omega)
 unfold Pn.X Pn.Y
 omega
theorem PnOk.place{p:Pn}(hp:PnOk p){i:Nat}(hi:i<p.n):0≤p.Y i*p.W+p.X i∧p.Y i*p.W+p.X i<p.W*p.hd:=by
 obtain⟨_,hx,hy,_,_⟩:=hp.at hi
 have hq:((p.W*p.hd).toNat:Int)=p.W*p.hd:=Int.toNat_of_nonneg (Int.mul_nonneg hp.W.1 hp.hd.1)
 have:=in_pic (n:=(p.W*p.hd).toNat) hq hx hy
 omega
end Go.Proofs
namespace Go.Proofs
open Go.Sh
variable {H0 H:Heap} {σ:List Rs} {R:Value→Heap→Prop}
def plL(p:Pn)(f:Nat→Int):List Int:=(List.range p.n).map f
end Go.Proofs
