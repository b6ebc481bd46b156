/-
  OWN WORK. Several texts in one: TrI, TrJ, TrK, TrL, TrM, TrN, ShF, TrO, TrP, TrQ, TrR, EdE, FlA, FlB.
-/
import Derived.Test.YthigcnljndbmnaaGreatMgEditorGroupsD
import Derived.Test.YthigcnljndbmnaaGreatMgEditorGroupsC

set_option linter.unusedVariables false
set_option linter.unusedSimpArgs false
set_option maxRecDepth 10000
namespace Go.Proofs
open Go.Sh
variable {H0 H:Heap} {σ:List Rs} {R:Value→Heap→Prop}
end Go.Proofs
namespace Go.Proofs
open Go.Sh
variable {H0 H:Heap} {σ:List Rs} {R:Value→Heap→Prop}
end Go.Proofs
namespace Go.Proofs
open Go.Sh
variable {H0 H:Heap} {σ:List Rs} {R:Value→Heap→Prop}
end Go.Proofs
namespace Go.Proofs
open Go.Sh
variable {H0 H:Heap} {σ:List Rs} {R:Value→Heap→Prop}
def chgL(g:LayF→Int×LayF)(D:List Lay)(id:Int):Int×List Lay:=
 match flK [] [] id D with
 |some (fr::u,ks)=>if (g fr.f).1≠0 then((g fr.f).1,[]) else(0,plugL (⟨fr.pre,(g fr.f).2,fr.post⟩::u) ks)
 |_=>(40,[])
theorem chg_none{g:LayF→Int×LayF}{D:List Lay}{id:Int}(h:flK [] [] id D=none):chgL g D id=(40,[]):=by unfold chgL;rw[h]
theorem chg_bad{g:LayF→Int×LayF}{D:List Lay}{id:Int}{fr:FrL}{u:List FrL}{ks:List Lay}{v:Int}{x:LayF}(h:flK [] [] id D=some (fr::u,ks))(hg:g fr.f=(v,x))(hv:v≠0):chgL g D id=(v,[]):=by
 unfold chgL;rw[h];simp only[hg,ne_eq,hv,not_false_eq_true,if_true]
theorem chg_ok{g:LayF→Int×LayF}{D:List Lay}{id:Int}{fr:FrL}{u:List FrL}{ks:List Lay}{x:LayF}(h:flK [] [] id D=some (fr::u,ks))(hg:g fr.f=(0,x)):chgL g D id=(0,plugL (⟨fr.pre,x,fr.post⟩::u) ks):=by
 unfold chgL;rw[h];simp only[hg,ne_eq,not_true_eq_false,if_false]
structure Chg(g:LayF→Int×LayF)(H0:Heap)(σ:List Rs)(R:Value→Heap→Prop)(b:Nat)(ks:List T)(id:Int):Prop where
 bad: ∀H',(chgL g (layKs ks) id).1≠0→St H0 H' σ→R (.int .i64 (chgL g (layKs ks) id).1) H'
 ok: ∀Kn ksn H',(chgL g (layKs ks) id).1=0→layKs ksn=(chgL g (layKs ks) id).2→St H0 H' (resRoot b Kn ksn++σ)→R (.int .i64 0) H'
theorem Chg.none{g:LayF→Int×LayF}{b:Nat}{ks:List T}{id:Int}(hc:Chg g H0 σ R b ks id)(h:flK [] [] id (layKs ks)=none){H':Heap}(hs:St H0 H' σ):R (.int .i64 40) H':=by
 have:=hc.bad H' (by rw[chg_none h];decide) hs
 rw[chg_none h] at this;exact this
theorem Chg.done{g:LayF→Int×LayF}{b:Nat}{ks:List T}{id:Int}(hc:Chg g H0 σ R b ks id){fr:Fr}{u:List Fr}{K':Sl3}{ks':List T}(h:flK [] [] id (layKs ks)=some (Fr.lay fr::u.map Fr.lay,layKs ks')){f:LayF}{P M A:Sl3}(hg:g fr.f=(0,f)){H':Heap}
 (hs:St H0 H' (openR ⟨fr.hdr,fr.pre,f,P,M,A,fr.post⟩ (u++[rootFr b]) K' ks'++σ)):R (.int .i64 0) H':=by
 have e:=chg_ok (g:=g) h hg
 refine hc.ok (plugZ (⟨fr.hdr,fr.pre,f,P,M,A,fr.post⟩::u) K' ks').1 (plugZ (⟨fr.hdr,fr.pre,f,P,M,A,fr.post⟩::u) K' ks').2 H' (by rw[e]) ?_ (close_at hs)
 rw[e,plug_lay];rfl
def lookF(e:Ed)(f:LayF):Int×LayF:=if e.n<0∨e.n>255∨e.m<0∨e.m>11 then(32,f) else if f.kind=2∧e.m≠0 then(41,f) else(0,{f with opacity:=e.n,mode:=e.m})
def hideF(e:Ed)(f:LayF):Int×LayF:=if e.n≠0∧e.n≠1 then(32,f) else(0,{f with hidden:=e.n==1})
end Go.Proofs
namespace Go.Proofs
open Go.Sh
variable {H0 H:Heap} {σ:List Rs} {R:Value→Heap→Prop}
def pixelB(v:Int):Bool:=decide (0≤v∧v<4294967296∧v/16777216%256≤v%256∧v/65536%256≤v%256∧v/256%256≤v%256)
def insideB(e:Ed)(W:Int)(q:Nat):Bool:=decide (e.x≤(q:Int)%W∧(q:Int)%W<e.x+e.w∧e.y≤(q:Int)/W∧(q:Int)/W<e.y+e.h)
def idxP(e:Ed)(W:Int)(q:Nat):Int:=((q:Int)/W-e.y)*e.w+((q:Int)%W-e.x)
def paintP(e:Ed)(W:Int)(p:List Int):List Int:=(List.range p.length).map fun q=>if insideB e W q=true then e.p.getD (idxP e W q).toNat 0 else p.getD q 0
def paintF(e:Ed)(f:LayF):Int×LayF:=
 if f.kind≠0 then(41,f) else if e.w<1∨e.h<1∨e.w>32768∨e.h>32768∨(e.p.length:Int)≠e.w*e.h then(25,f) else
 if e.p.any (fun v=> !pixelB v)=true then(25,f) else if e.x< -32768∨e.x>32768∨e.y< -32768∨e.y>32768 then(31,f) else(0,{f with p:=paintP e f.w f.p})
theorem idxP_rng{e:Ed}{W:Int}{q:Nat}(h:insideB e W q=true):0≤idxP e W q∧idxP e W q<e.w*e.h:=by
 have hd:=of_decide_eq_true h
 obtain⟨h1,h2,h3,h4⟩:=hd
 unfold idxP
 have a1:0≤((q:Int)/W-e.y)*e.w:=Int.mul_nonneg (by omega) (by omega)
 have a2:((q:Int)/W-e.y)*e.w≤(e.h-1)*e.w:=Int.mul_le_mul_of_nonneg_right (by omega) (by omega)
 have a3:(e.h-1)*e.w=e.w*e.h-e.w:=by rw[Int.sub_mul,Int.mul_comm e.h];omega
 omega
end Go.Proofs
namespace Go.Proofs
open Go.Sh
variable {H0 H:Heap} {σ:List Rs} {R:Value→Heap→Prop}
def okRas(f:LayF):Prop:=f.kind=0→sizedB f.w f.h=true∧(f.p.length:Int)=f.w*f.h
end Go.Proofs
namespace Go.Sh
open Ieee
def sg(s:Bool)(m:Nat):Int:=if s then-(m:Int) else m
theorem signed_eq(s:Bool)(m u:Nat):signed s m u=sg s m*2^u:=by
 unfold signed sg
 rw[Nat.shiftLeft_eq]
 cases s<;>simp[Int.neg_mul]
theorem sg_not(s:Bool)(m:Nat):sg (!s) m= -sg s m:=by cases s<;>simp[sg]
theorem sg_xor(s t:Bool)(m n:Nat):sg (s ^^ t) (m*n)=sg s m*sg t n:=by cases s<;>cases t<;>simp[sg,Int.neg_mul,Int.mul_neg]
theorem sg_abs(x:Int):sg (decide (x<0)) x.natAbs=x:=by unfold sg;split<;>simp_all<;>omega
theorem natAbs_sg(s:Bool)(m:Nat):(sg s m).natAbs=m:=by cases s<;>simp[sg]
def nv(s:Bool)(m:Nat)(e n:Int):Prop:= ∃k:Nat,0≤e+k∧sg s m*2^(e+k).toNat=n*2^k
theorem p2(a b:Nat):(2:Int)^(a+b)=2^a*2^b:=Int.pow_add 2 a b
theorem nv.up{s:Bool}{m:Nat}{e n:Int}(h:nv s m e n): ∃k:Nat,∀K:Nat,k≤K→0≤e+K∧sg s m*2^(e+K).toNat=n*2^K:=by
 obtain⟨k,h0,h1⟩:=h
 refine⟨k,fun K hK=>⟨by omega,?_⟩⟩
 rw[show(e+(K:Int)).toNat=(e+(k:Int)).toNat+(K-k) from by omega,p2,←Int.mul_assoc,h1,Int.mul_assoc,←p2,show k+(K-k)=K from by omega]
def FZ(b:Nat)(n:Int):Prop:= ∃s m e,double.read b= .number s m e∧nv s m e n
theorem log2_mul_pow{n:Nat}(h:n≠0)(k:Nat):(n*2^k).log2=n.log2+k:=by
 have h1:=Nat.log2_self_le h
 have h2:=Nat.lt_log2_self (n:=n)
 refine(Nat.log2_eq_iff (Nat.mul_ne_zero h (Nat.pos_iff_ne_zero.1 (Nat.two_pow_pos k)))).2 ⟨?_,?_⟩
 ·rw[Nat.pow_add];exact Nat.mul_le_mul_right _ h1
 ·rw[show n.log2+k+1=(n.log2+1)+k from by omega,Nat.pow_add];exact Nat.mul_lt_mul_of_pos_right h2 (Nat.two_pow_pos k)
theorem read_word{s:Bool}{q M:Nat}(hq:q≤52)(h1:4503599627370496≤M)(h2:M<9007199254740992):
 double.read (double.word s (min ((1074-q)*4503599627370496+M) 9218868437227405312))= .number s M (-(q:Int)):=by
 have e1:min ((1074-q)*4503599627370496+M) 9218868437227405312=(1074-q)*4503599627370496+M:=Nat.min_eq_left (by omega)
 rw[e1]
 have hb:double.binade=4503599627370496:=rfl
 have hw:double.signWeight=9223372036854775808:=rfl
 have hi:double.infRung=9218868437227405312:=rfl
 have hl:double.leastPlace= -1074:=rfl
 generalize hR:(1074-q)*4503599627370496+M=R
 have hR1:R<9223372036854775808:=by omega
 have hR2:R/4503599627370496=1075-q:=by omega
 have hR3:R%4503599627370496=M-4503599627370496:=by omega
 unfold Format.read Format.word
 simp only[hb,hw,hi,hl]
 have hs:((if s=true then 9223372036854775808+R else R)/9223372036854775808%2==1)=s:=by
  cases s
  ·simp only[Bool.false_eq_true,if_false];rw[Nat.div_eq_of_lt hR1];rfl
  ·simp only[if_true]
   rw[show(9223372036854775808+R)/9223372036854775808=1 from by omega];rfl
 have hm:(if s=true then 9223372036854775808+R else R)%9223372036854775808=R:=by
  cases s
  ·simp only[Bool.false_eq_true,if_false];exact Nat.mod_eq_of_lt hR1
  ·simp only[if_true];omega
 rw[hs,hm,if_neg (by omega),if_pos (by omega),hR2,hR3]
 have e2:4503599627370496+(M-4503599627370496)=M:=by omega
 have e3:(-1074:Int)+((1075-q-1:Nat):Int)= -(q:Int):=by omega
 rw[e2,e3]
theorem cut_exact(s:Bool)(N q d:Nat)(hN:N≠0)(hd:d≤(N*2^q*2^d).log2+2):Toward.even.cut s (N*2^q*2^d) d=N*2^q:=by
 unfold Toward.cut
 rw[Nat.min_eq_left hd]
 have hg:1 <<< d=2^d:=by rw[Nat.shiftLeft_eq,Nat.one_mul]
 have h1:N*2^q*2^d/2^d=N*2^q:=Nat.mul_div_cancel _ (Nat.two_pow_pos d)
 have h2:N*2^q*2^d%2^d=0:=Nat.mul_mod_left _ _
 have hp:=Nat.two_pow_pos d
 simp only[hg,h1,h2]
 have e1:decide (2^d<2*0)=false:=by simp
 have e2:(2^d==2*0)=false:=by
  rw[beq_eq_false_iff_ne];omega
 rw[e1,e2]
 rfl
theorem FZ.write{s:Bool}{m:Nat}{e n:Int}(h:nv s m e n)(h0: -9007199254740992<n)(h1:n<9007199254740992):FZ (double.write (.number s m e)) n:=by
 obtain⟨k,hk⟩:=h.up
 show FZ (double.nearest s m e) n
 unfold Format.nearest
 by_cases hm:m=0
 ·rw[if_pos hm]
  have hn:n=0:=by
   have:=(hk k (Nat.le_refl _)).2
   rw[hm] at this
   have hz:sg s 0=0:=by cases s<;>rfl
   rw[hz,Int.zero_mul] at this
   rcases Int.mul_eq_zero.1 this.symm with h|h
   ·exact h
   ·exact absurd h (Int.ne_of_gt (Int.pow_pos (by decide)))
  subst hn
  refine⟨s,0,-1074,?_,1074,by decide,?_⟩
  ·cases s<;>rfl
  ·rw[show sg s 0=0 from by cases s<;>rfl,Int.zero_mul,Int.zero_mul]
 ·rw[if_neg hm]
  -- N,the number without its sign
  have habs: ∀K:Nat,k≤K→m*2^(e+K).toNat=n.natAbs*2^K:=fun K hK=>by
   have:=congrArg Int.natAbs (hk K hK).2
   rw[Int.natAbs_mul,Int.natAbs_mul,natAbs_sg,Int.natAbs_pow,Int.natAbs_pow] at this
   exact this
  generalize hN:n.natAbs=N at habs
  have hN0:N≠0:=fun h0=>by
   have:=habs k (Nat.le_refl _)
   rw[h0,Nat.zero_mul] at this
   rcases Nat.mul_eq_zero.1 this with h|h
   ·exact hm h
   ·exact absurd h (Nat.pos_iff_ne_zero.1 (Nat.two_pow_pos _))
  have hNlt:N<2^53:=by
   have:(2:Nat)^53=9007199254740992:=rfl
   omega
  have hL:N.log2≤52:=by
   have:=(Nat.log2_lt hN0 (k:=53)).2 hNlt
   omega
  have hlog:e+(m.log2:Int)=N.log2:=by
   have h3:=congrArg Nat.log2 (habs k (Nat.le_refl _))
   rw[log2_mul_pow hm,log2_mul_pow hN0] at h3
   have:=(hk k (Nat.le_refl _)).1
   omega
  generalize hq:52-N.log2=q
  have hlast:max (e+(m.log2:Int)-(double.fractionBits:Nat)) double.leastPlace= -(q:Int):=by
   have a:(double.fractionBits:Int)=52:=rfl
   have b:double.leastPlace= -1074:=rfl
   rw[hlog,a,b,Int.max_def]
   split<;>omega
  dsimp only
  rw[hlast]
  have hl:double.leastPlace= -1074:=rfl
  have hb:double.binade=4503599627370496:=rfl
  have hi:double.infRung=9218868437227405312:=rfl
  rw[hl,hb,hi]
  have hM1:4503599627370496≤N*2^q:=by
   have h4:=Nat.mul_le_mul_right (2^q) (Nat.log2_self_le hN0)
   rw[←Nat.pow_add,show N.log2+q=52 from by omega] at h4
   exact h4
  have hM2:N*2^q<9007199254740992:=by
   have h4:=Nat.mul_lt_mul_of_pos_right (Nat.lt_log2_self (n:=N)) (Nat.two_pow_pos q)
   rw[←Nat.pow_add,show N.log2+1+q=53 from by omega] at h4
   exact h4
  have hkept:Toward.even.cut s (m <<< (e- -(q:Int)).toNat) (-(q:Int)-e).toNat=N*2^q:=by
   by_cases hc:0≤e+q
   ·rw[show(-(q:Int)-e).toNat=0 from by omega,Nat.shiftLeft_eq,show(e- -(q:Int)).toNat=(e+q).toNat from by omega]
    have h5:=habs (k+q) (by omega)
    rw[show(e+((k+q:Nat):Int)).toNat=(e+q).toNat+k from by omega,Nat.pow_add,←Nat.mul_assoc,Nat.add_comm k q,Nat.pow_add,←Nat.mul_assoc] at h5
    have h6:m*2^(e+q).toNat=N*2^q:=Nat.eq_of_mul_eq_mul_right (Nat.two_pow_pos k) h5
    have h7:=cut_exact s N q 0 hN0 (by omega)
    rw[Nat.pow_zero,Nat.mul_one] at h7
    rw[h6];exact h7
   ·generalize hd:(-(q:Int)-e).toNat=d
    rw[show(e- -(q:Int)).toNat=0 from by omega,Nat.shiftLeft_eq,Nat.pow_zero,Nat.mul_one]
    have h5:=habs (k+q+d) (by omega)
    rw[show(e+((k+q+d:Nat):Int)).toNat=k from by omega,show k+q+d=q+d+k from by omega,Nat.pow_add _ (q+d),←Nat.mul_assoc] at h5
    have h6:m=N*2^(q+d):=Nat.eq_of_mul_eq_mul_right (Nat.two_pow_pos k) h5
    rw[Nat.pow_add,←Nat.mul_assoc] at h6
    rw[h6]
    refine cut_exact s N q d hN0 ?_
    rw[←h6];omega
  rw[hkept,show(-(q:Int)- -1074).toNat=1074-q from by omega]
  refine⟨s,_,_,read_word (by omega) hM1 hM2,q,by omega,?_⟩
  rw[show(-(q:Int)+(q:Int)).toNat=0 from by omega,Int.pow_zero,Int.mul_one]
  have hs:sg s N=n:=by
   have h5:=(hk k (Nat.le_refl _)).2
   have h6:0<(2:Int)^(e+k).toNat:=Int.pow_pos (by decide)
   have h7:0<(2:Int)^k:=Int.pow_pos (by decide)
   cases s with
   |false=>
    have h8:sg false m=(m:Int):=rfl
    rw[h8] at h5
    have h9:(0:Int)<m*2^(e+k).toNat:=Int.mul_pos (by omega) h6
    have h10:0<n:=by
     by_cases h:0<n
     ·exact h
     ·have h:=Int.not_lt.1 h
      have:=Int.mul_le_mul_of_nonneg_right h (Int.le_of_lt h7);rw[Int.zero_mul] at this;omega
    show(N:Int)=n
    omega
   |true=>
    have h8:sg true m= -(m:Int):=rfl
    rw[h8] at h5
    have h9:(0:Int)<m*2^(e+k).toNat:=Int.mul_pos (by omega) h6
    rw[Int.neg_mul] at h5
    have h10:n<0:=by
     by_cases h:n<0
     ·exact h
     ·have h:=Int.not_lt.1 h
      have:=Int.mul_nonneg h (Int.le_of_lt h7);omega
    show-(N:Int)=n
    omega
  have:sg s (N*2^q)=sg s N*2^q:=by cases s<;>simp[sg,Int.neg_mul]
  rw[this,hs]
theorem FZ.ofInt{n:Int}(h0: -9007199254740992<n)(h1:n<9007199254740992):FZ (floatOfInt .f64 n) n:=
 FZ.write (s:=decide (n<0)) (m:=n.natAbs) (e:=0) ⟨0,by omega,by rw[sg_abs];simp⟩ h0 h1
theorem FZ.add{a b:Nat}{x y:Int}(ha:FZ a x)(hb:FZ b y)(h0: -9007199254740992<x+y)(h1:x+y<9007199254740992): ∃r,floatBits .add .f64 a b=some r∧FZ r (x+y):=by
 obtain⟨s,m,i,ra,hx⟩:=ha
 obtain⟨t,n,j,rb,hy⟩:=hb
 obtain⟨k1,h2⟩:=hx.up
 obtain⟨k2,h3⟩:=hy.up
 refine⟨_,by show((double.read a).sum (double.read b)).map double.write=_;rw[ra,rb];rfl,?_⟩
 refine FZ.write ⟨max k1 k2+i.natAbs+j.natAbs,by omega,?_⟩ h0 h1
 obtain⟨h4,h5⟩:=h2 (max k1 k2+i.natAbs+j.natAbs) (by omega)
 obtain⟨h6,h7⟩:=h3 (max k1 k2+i.natAbs+j.natAbs) (by omega)
 generalize max k1 k2+i.natAbs+j.natAbs=K at h4 h5 h6 h7
 rw[signed_eq,signed_eq]
 generalize ht:sg s m*2^(i-min i j).toNat+sg t n*2^(j-min i j).toNat=T
 have hsg:sg (if T=0 then s&&t else decide (T<0)) T.natAbs=T:=by
  by_cases hT:T=0
  ·rw[if_pos hT,hT];cases (s&&t)<;>rfl
  ·rw[if_neg hT];exact sg_abs T
 rw[hsg,←ht,Int.add_mul,Int.mul_assoc,Int.mul_assoc,←p2,←p2,show(i-min i j).toNat+(min i j+(K:Int)).toNat=(i+K).toNat from by omega,show(j-min i j).toNat+(min i j+(K:Int)).toNat=(j+K).toNat from by omega,h5,h7,Int.add_mul]
theorem FZ.sub{a b:Nat}{x y:Int}(ha:FZ a x)(hb:FZ b y)(h0: -9007199254740992<x-y)(h1:x-y<9007199254740992): ∃r,floatBits .sub .f64 a b=some r∧FZ r (x-y):=by
 obtain⟨s,m,i,ra,hx⟩:=ha
 obtain⟨t,n,j,rb,hy⟩:=hb
 obtain⟨k1,h2⟩:=hx.up
 obtain⟨k2,h3⟩:=hy.up
 refine⟨_,by show((double.read a).sum (double.read b).opposite).map double.write=_;rw[ra,rb];rfl,?_⟩
 refine FZ.write ⟨max k1 k2+i.natAbs+j.natAbs,by omega,?_⟩ h0 h1
 obtain⟨h4,h5⟩:=h2 (max k1 k2+i.natAbs+j.natAbs) (by omega)
 obtain⟨h6,h7⟩:=h3 (max k1 k2+i.natAbs+j.natAbs) (by omega)
 generalize max k1 k2+i.natAbs+j.natAbs=K at h4 h5 h6 h7
 rw[signed_eq,signed_eq]
 generalize ht:sg s m*2^(i-min i j).toNat+sg (!t) n*2^(j-min i j).toNat=T
 have hsg:sg (if T=0 then s&& !t else decide (T<0)) T.natAbs=T:=by
  by_cases hT:T=0
  ·rw[if_pos hT,hT];cases (s&& !t)<;>rfl
  ·rw[if_neg hT];exact sg_abs T
 rw[hsg,←ht,Int.add_mul,Int.mul_assoc,Int.mul_assoc,←p2,←p2,show(i-min i j).toNat+(min i j+(K:Int)).toNat=(i+K).toNat from by omega,show(j-min i j).toNat+(min i j+(K:Int)).toNat=(j+K).toNat from by omega,h5,sg_not,Int.neg_mul,h7,Int.sub_mul]
 omega
theorem FZ.mul{a b:Nat}{x y:Int}(ha:FZ a x)(hb:FZ b y)(h0: -9007199254740992<x*y)(h1:x*y<9007199254740992): ∃r,floatBits .mul .f64 a b=some r∧FZ r (x*y):=by
 obtain⟨s,m,i,ra,hx⟩:=ha
 obtain⟨t,n,j,rb,hy⟩:=hb
 obtain⟨k1,h2,h3⟩:=hx
 obtain⟨k2,h4,h5⟩:=hy
 refine⟨_,by show((double.read a).product (double.read b)).map double.write=_;rw[ra,rb];rfl,?_⟩
 refine FZ.write ⟨k1+k2,by omega,?_⟩ h0 h1
 rw[sg_xor,show(i+j+((k1+k2:Nat):Int)).toNat=(i+k1).toNat+(j+k2).toNat from by omega,p2,p2]
 have e: ∀p q r u:Int,p*q*(r*u)=(p*r)*(q*u):=fun p q r u=>by rw[Int.mul_assoc,Int.mul_assoc,Int.mul_left_comm q r u]
 rw[e,h3,h5,e]
theorem xor_top(b:Nat):(b ^^^ 9223372036854775808)%9223372036854775808=b%9223372036854775808∧((b ^^^ 9223372036854775808)/9223372036854775808%2==1)= !(b/9223372036854775808%2==1):=by
 have e:(9223372036854775808:Nat)=2^63:=rfl
 constructor
 ·rw[e,Nat.xor_mod_two_pow];simp
 ·have h1:(b ^^^ 2^63)/2^63=(b/2^63) ^^^ 1:=by rw[Nat.xor_div_two_pow]
  rw[e,h1]
  have h2:((b/2^63) ^^^ 1)%2=((b/2^63)%2 ^^^ 1):=by
   have:=Nat.xor_mod_two_pow (a:=b/2^63) (b:=1) (n:=1)
   simpa using this
  rw[h2]
  rcases Nat.mod_two_eq_zero_or_one (b/2^63) with h|h<;>rw[h]<;>rfl
theorem FZ.neg{a:Nat}{x:Int}(ha:FZ a x):FZ (Op.negFloat .f64 a) (-x):=by
 obtain⟨s,m,i,ra,k,h2,h3⟩:=ha
 refine⟨!s,m,i,?_,k,h2,by rw[sg_not,Int.neg_mul,h3,Int.neg_mul]⟩
 have he:Op.negFloat .f64 a=a ^^^ 9223372036854775808:=rfl
 rw[he]
 obtain⟨h4,h5⟩:=xor_top a
 have hw:double.signWeight=9223372036854775808:=rfl
 unfold Format.read at ra ⊢
 simp only[hw] at ra ⊢
 rw[h4,h5]
 generalize (a/9223372036854775808%2==1)=u at ra ⊢
 split at ra
 ·rename_i hc;rw[if_pos hc];cases ra;rfl
 ·rename_i hc;rw[if_neg hc]
  split at ra
  ·rename_i hc2;rw[if_pos hc2];cases ra;rfl
  ·split at ra<;>cases ra
theorem FZ.order{a b:Nat}{x y:Int}(ha:FZ a x)(hb:FZ b y):Ieee.Format.order (FloatKind.format .f64) a b=some (compare x y):=by
 obtain⟨s,m,i,ra,hx⟩:=ha
 obtain⟨t,n,j,rb,hy⟩:=hb
 obtain⟨k1,h2⟩:=hx.up
 obtain⟨k2,h3⟩:=hy.up
 show(double.read a).order (double.read b)=_
 rw[ra,rb]
 show some (compare (signed s m (i-min i j).toNat) (signed t n (j-min i j).toNat))=_
 rw[signed_eq,signed_eq]
 obtain⟨h4,h5⟩:=h2 (max k1 k2+i.natAbs+j.natAbs) (by omega)
 obtain⟨h6,h7⟩:=h3 (max k1 k2+i.natAbs+j.natAbs) (by omega)
 generalize hK:max k1 k2+i.natAbs+j.natAbs=K at h4 h5 h6 h7
 rw[show(i+(K:Int)).toNat=(i-min i j).toNat+(min i j+K).toNat from by omega,p2,←Int.mul_assoc] at h5
 rw[show(j+(K:Int)).toNat=(j-min i j).toNat+(min i j+K).toNat from by omega,p2,←Int.mul_assoc] at h7
 generalize sg s m*2^(i-min i j).toNat=A at h5
 generalize sg t n*2^(j-min i j).toNat=B at h7
 have hp:(0:Int)<2^(min i j+(K:Int)).toNat:=Int.pow_pos (by decide)
 have hq:(0:Int)<2^K:=Int.pow_pos (by decide)
 generalize (2:Int)^(min i j+(K:Int)).toNat=p at h5 h7 hp
 generalize (2:Int)^K=q at h5 h7 hq
 have key:(A<B↔x<y)∧(A=B↔x=y):=by
  have e1:A*p<B*p↔A<B:=Int.mul_lt_mul_right hp
  have e2:x*q<y*q↔x<y:=Int.mul_lt_mul_right hq
  have e3:A*p=B*p↔A=B:=Int.mul_eq_mul_right_iff (by omega)
  have e4:x*q=y*q↔x=y:=Int.mul_eq_mul_right_iff (by omega)
  rw[h5,h7] at e1 e3
  exact⟨e1.symm.trans e2,e3.symm.trans e4⟩
 congr 1
 show(if A<B then Ordering.lt else if A=B then .eq else .gt)=(if x<y then Ordering.lt else if x=y then .eq else .gt)
 by_cases h8:A<B
 ·rw[if_pos h8,if_pos (key.1.1 h8)]
 ·rw[if_neg h8,if_neg (fun h=>h8 (key.1.2 h))]
  by_cases h9:A=B
  ·rw[if_pos h9,if_pos (key.2.1 h9)]
  ·rw[if_neg h9,if_neg (fun h=>h9 (key.2.2 h))]
theorem FZ.gt{a b:Nat}{x y:Int}(ha:FZ a x)(hb:FZ b y):(Ieee.Format.order (FloatKind.format .f64) a b==some Ordering.gt)=decide (x>y):=by
 rw[ha.order hb]
 show((some (if x<y then Ordering.lt else if x=y then .eq else .gt))==some Ordering.gt)=_
 by_cases h8:x<y
 ·rw[if_pos h8];simp;omega
 ·rw[if_neg h8]
  by_cases h9:x=y
  ·rw[if_pos h9];simp;omega
  ·rw[if_neg h9];simp;omega
theorem FZ.zero:FZ 0 0:=⟨false,0,-1074,rfl,1074,by decide,by rw[show sg false 0=0 from rfl,Int.zero_mul,Int.zero_mul]⟩
theorem FZ.two:FZ 4611686018427387904 2:=⟨false,4503599627370496,-51,by rfl,51,by decide,by decide⟩
end Go.Sh
namespace Go.Proofs
open Go.Sh
variable {H0 H:Heap} {σ:List Rs} {R:Value→Heap→Prop}
abbrev Pt:=Int×Int
def ptB(p:Pt):Bool:=decide (-1048576≤p.1∧p.1≤1048576∧ -1048576≤p.2∧p.2≤1048576)
def shapeB(l:List Pt):Bool:=decide (3≤l.length∧l.length≤256)&&l.all ptB
def nMet(a b:Pt)(x y:Int):Int:=(2*b.1-2*a.1)*(2*y+1-2*a.2)+(2*a.1-(2*x+1))*(2*b.2-2*a.2)
def metB(a b:Pt)(x y:Int):Bool:=
 if decide (2*a.2>2*y+1)=decide (2*b.2>2*y+1) then false else if 2*b.2-2*a.2<0 then decide (nMet a b x y<0) else decide (nMet a b x y>0)
def xorN:Nat→(Nat→Bool)→Bool
 |0,_=>false
 |n+1,f=>xorN n f ^^ f n
def nthP(l:List Pt)(i:Nat):Pt:=l.getD i (0,0)
def withinB(l:List Pt)(x y:Int):Bool:=xorN l.length fun i=>metB (nthP l i) (nthP l (if i+1=l.length then 0 else i+1)) x y
def ptV(p:Pt):Array Value:=#[.int .i64 p.1,.int .i64 p.2]
theorem IS2.row{H:Heap}{p:Option Addr}{l:Nat}{pts:List Pt}(h:IS2 H p l pts){i:Nat}(hi:i<pts.length): ∃a,p=some a∧rowIn H (a.add (i*2)) (ptV (nthP pts i)):=by
 have hx:=List.getElem?_eq_getElem hi
 have hn:nthP pts i=pts[i]:=by unfold nthP;rw[List.getD_eq_getElem?_getD,hx];rfl
 rw[hn]
 exact h.get i _ _ hx
theorem CZ.sub{a b c d:Nat}{x y u v:Int}(ha:FZ a x)(hb:FZ b y)(hc:FZ c u)(hd:FZ d v)(h1: -1000000000000≤x-u∧x-u≤1000000000000)(h2: -1000000000000≤y-v∧y-v≤1000000000000):
 ∃re im,cSumBits .sub .f64 a b c d=some (re,im)∧FZ re (x-u)∧FZ im (y-v):=by
 obtain⟨re,e1,f1⟩:=ha.sub hc (by omega) (by omega)
 obtain⟨im,e2,f2⟩:=hb.sub hd (by omega) (by omega)
 exact⟨re,im,by unfold cSumBits;rw[e1,e2];rfl,f1,f2⟩
theorem CZ.mul{a b c d:Nat}{x y u v:Int}(ha:FZ a x)(hb:FZ b y)(hc:FZ c u)(hd:FZ d v)(h1: -1000000000000000≤x*u∧x*u≤1000000000000000)(h2: -1000000000000000≤y*v∧y*v≤1000000000000000)
 (h3: -1000000000000000≤x*v∧x*v≤1000000000000000)(h4: -1000000000000000≤y*u∧y*u≤1000000000000000): ∃re im,cMulBits a b c d=some (re,im)∧FZ re (x*u-y*v)∧FZ im (x*v+y*u):=by
 obtain⟨p,e1,f1⟩:=ha.mul hc (by omega) (by omega)
 obtain⟨q,e2,f2⟩:=hb.mul hd (by omega) (by omega)
 obtain⟨r,e3,f3⟩:=ha.mul hd (by omega) (by omega)
 obtain⟨s,e4,f4⟩:=hb.mul hc (by omega) (by omega)
 obtain⟨re,e5,f5⟩:=f1.sub f2 (by omega) (by omega)
 obtain⟨im,e6,f6⟩:=f3.add f4 (by omega) (by omega)
 exact⟨re,im,by unfold cMulBits;simp only[e1,e2,e3,e4,e5,e6,Option.bind_some],f5,f6⟩
end Go.Proofs
namespace Go.Proofs
open Go.Sh
variable {H0 H:Heap} {σ:List Rs} {R:Value→Heap→Prop}
theorem IS2.nil(H:Heap):IS2 H none 0 []:=⟨rfl,fun i x y h=>by simp at h⟩
def maskL(w h:Int)(f:Int→Int→Bool):List Int:=(List.range (w*h).toNat).map fun(i:Nat)=>if f ((i:Int)%w) ((i:Int)/w)=true then 255 else 0
def maskF(w h:Int)(e:Ed)(f:LayF):Int×LayF:=
 if e.n<0∨e.n>2 then(32,f) else if e.n=2 then(0,{f with mask:=[]}) else if shapeB e.shape=false then(31,f) else
 (0,{f with mask:=maskL w h fun x y=>withinB e.shape x y != (e.n==1)})
end Go.Proofs
namespace Go.Proofs
open Go.Sh
variable {H0 H:Heap} {σ:List Rs} {R:Value→Heap→Prop}
def mostM(i:Nat):Int:=if 4≤i then 68719476736 else 16777216
def inM(m:M6)(i:Nat):Bool:=decide (-(mostM i)≤m.l.getD i 0∧m.l.getD i 0≤mostM i)
def rightM(m:M6):Bool:=(List.range 6).all (inM m)
def roundM(n m:Int):Int:=if m<0 then(2* -n+ -m)/(2* -m) else(2*n+m)/(2*m)
def nearM(n:Int):Int:=(n+32768)/65536
def backR(m:M6):M6:=⟨roundM (m.d*4294967296) (m.a*m.d-m.b*m.c),roundM (-m.b*4294967296) (m.a*m.d-m.b*m.c),roundM (-m.c*4294967296) (m.a*m.d-m.b*m.c),roundM (m.a*4294967296) (m.a*m.d-m.b*m.c),0,0⟩
def backS(m:M6):M6:={backR m with e:=nearM (-((backR m).a*m.e+(backR m).b*m.f)),f:=nearM (-((backR m).c*m.e+(backR m).d*m.f))}
def zeroM:M6:=⟨0,0,0,0,0,0⟩
def backM(m:M6):Int×M6:=
 if rightM m=false then(31,zeroM) else if m.a*m.d-m.b*m.c=0 then(33,zeroM) else if rightM (backR m)=false then(33,zeroM) else if rightM (backS m)=false then(33,zeroM) else(0,backS m)
end Go.Proofs
namespace Go.Proofs
open Go.Sh
variable {H0 H:Heap} {σ:List Rs} {R:Value→Heap→Prop}
def inP(ps:List Int)(i:Nat):Bool:=decide (0≤ps.getD i 0∧ps.getD i 0≤255)
def incP(ps:List Int)(i:Nat):Bool:=decide (i%2=1∨i=0∨ps.getD (i-2) 0<ps.getD i 0)
def kindP(kind:Int)(ps:List Int):Bool:=
 if kind=0 then decide (ps.length=2∧ps.getD 0 0<ps.getD 1 0) else if kind=1 then decide (2≤ps.length∧ps.length≤32∧ps.length%2=0) else if kind=2 then decide (ps.length=0) else if kind=3 then decide (ps.length=1) else false
def tabB(kind:Int)(ps:List Int):Bool:=(List.range ps.length).all (inP ps)&&((kind != 1||(List.range ps.length).all (incP ps))&&kindP kind ps)
structure CrvOk(ps:List Int):Prop where
 len:2≤ps.length∧ps.length≤32∧ps.length%2=0
 rng: ∀i,0≤ps.getD i 0∧ps.getD i 0≤255
 inc: ∀i,2≤i→i<ps.length→i%2=0→ps.getD (i-2) 0<ps.getD i 0
theorem tabB_kind{kind:Int}{ps:List Int}(h:tabB kind ps=true):kindP kind ps=true:=by
 unfold tabB at h
 rw[Bool.and_eq_true,Bool.and_eq_true] at h
 exact h.2.2
end Go.Proofs
namespace Go.Proofs
open Go.Sh
variable {H0 H:Heap} {σ:List Rs} {R:Value→Heap→Prop} {cap:Int} {s:TS} {ms:List Shf}
theorem rdT.px{t:T}(h:rdT H t):IS H t.P'.p t.P'.l (ints t.f.p):=by cases t;rw[rdT] at h;exact h.1
def ShRd(xb A m0 m1:Nat)(d2 d3 d4:Addr)(H0:Heap)(σ:List Rs):Prop:= ∀H' τ,St H0 H' (τ++σ)→
 Sh.cell H' d2=some (.map (some m0))∧Sh.cell H' d3=some (.pointer (some ⟨xb,0,none⟩))∧Sh.cell H' ⟨xb,6,none⟩=some (.pointer (some ⟨A,0,none⟩))∧Sh.cell H' d4=some (.map (some m1))
theorem ShRd.cons{xb A m0 m1:Nat}{d2 d3 d4:Addr}{r:Rs}(h:ShRd xb A m0 m1 d2 d3 d4 H0 σ):ShRd xb A m0 m1 d2 d3 d4 H0 (r::σ):=fun H' τ h'=>h H' (τ++[r]) (by rw[List.append_assoc];exact h')
end Go.Proofs
namespace Go.Proofs
open Go.Sh
theorem gD_left{α:Type}(a b:List α)(d:α)(i:Nat)(h:i<a.length):(a++b).getD i d=a.getD i d:=by simp[List.getD_eq_getElem?_getD,List.getElem?_append_left h]
theorem gD_right{α:Type}(a b:List α)(d:α)(i:Nat)(h:a.length≤i):(a++b).getD i d=b.getD (i-a.length) d:=by simp[List.getD_eq_getElem?_getD,List.getElem?_append_right h]
theorem gD_none{α:Type}(a:List α)(d:α){i:Nat}(h:a.length≤i):a.getD i d=d:=by simp[List.getD_eq_getElem?_getD,List.getElem?_eq_none h]
def bpos(hi:Bool)(i:Nat):Nat:=if hi then 7-i%8 else i%8
def bitB(hi:Bool)(B:List Int)(i:Nat):Int:=B.getD (i/8) 0/2^bpos hi i%2
theorem bpos_lt(hi:Bool)(i:Nat):bpos hi i<8:=by unfold bpos;split<;>omega
theorem bpos_ne{hi:Bool}{i j:Nat}(h:i/8=j/8)(hne:i≠j):bpos hi i≠bpos hi j:=by unfold bpos;split<;>omega
theorem pow_cast(n:Nat):((2^n:Nat):Int)=(2:Int)^n:=by simp
theorem two_pow_pos(n:Nat):(0:Int)<2^n:=Int.pow_pos (by omega)
theorem or_byte: ∀(x:Fin 256) (j:Fin 8) (b:Fin 2),x.val/2^j.val%2=0→orI .u8 (x.val:Int) (shlI .u8 (b.val:Int) (j.val:Int))=((x.val+b.val*2^j.val:Nat):Int)∧x.val+b.val*2^j.val<256:=by decide+kernel
theorem bit_set: ∀(x:Fin 256) (j:Fin 8) (b:Fin 2) (i:Fin 8),x.val/2^j.val%2=0→(x.val+b.val*2^j.val)/2^i.val%2=if i=j then b.val else x.val/2^i.val%2:=by decide+kernel
structure WOk(hi:Bool)(ws B:List Int):Prop where
 len:B.length=(ws.length+7)/8
 rng: ∀x∈B,0≤x∧x<256
 bit: ∀i:Nat,bitB hi B i=ws.getD i 0
theorem WOk.nil(hi:Bool):WOk hi [] []:=⟨rfl,by simp,fun i=>by simp[bitB]⟩
theorem WOk.put{hi:Bool}{ws B:List Int}{b:Int}(h:WOk hi ws B)(hb:b=0∨b=1){C:List Int}(hC:C=if ws.length%8=0 then B++[0] else B):
 ∃x,C[ws.length/8]?=some x∧0≤x∧x<256∧WOk hi (ws++[b]) (C.set (ws.length/8) (orI .u8 x (shlI .u8 b (bpos hi ws.length)))):=by
 have hl:=h.len
 have hlen:C.length=ws.length/8+1:=by
  rw[hC];split
  ·simp;omega
  ·omega
 have hr: ∀x∈C,0≤x∧x<256:=by
  rw[hC];split
  ·intro x hx
   rcases List.mem_append.1 hx with hx|hx
   ·exact h.rng x hx
   ·simp at hx;subst hx;omega
  ·exact h.rng
 have hbit: ∀i:Nat,bitB hi C i=ws.getD i 0:=fun i=>by
  rw[←h.bit i,hC]
  split
  ·unfold bitB
   by_cases hi':i/8<B.length
   ·rw[gD_left _ _ _ _ hi']
   ·rw[gD_none B _ (by omega)]
    by_cases he:i/8=B.length
    ·rw[gD_right _ _ _ _ (by omega),he,Nat.sub_self];rfl
    ·rw[gD_none _ _ (by simp;omega)]
  ·rfl
 have hx:C[ws.length/8]?=some (C.getD (ws.length/8) 0):=by
  rw[List.getD_eq_getElem?_getD,List.getElem?_eq_getElem (by omega)];rfl
 generalize hxe:C.getD (ws.length/8) 0=x at hx
 have hxr:=hr x (List.mem_of_getElem? hx)
 refine⟨x,hx,hxr.1,hxr.2,?_⟩
 obtain⟨n,rfl⟩:=Int.eq_ofNat_of_zero_le hxr.1
 have hn:n<256:=by omega
 obtain⟨c,hc,rfl⟩: ∃c:Nat,c<2∧b=(c:Int):=by
  rcases hb with rfl|rfl
  ·exact⟨0,by omega,rfl⟩
  ·exact⟨1,by omega,rfl⟩
 have hz:n/2^bpos hi ws.length%2=0:=by
  have h1:=hbit ws.length
  unfold bitB at h1
  rw[hxe,gD_none _ _ (Nat.le_refl _),←pow_cast] at h1
  omega
 obtain⟨ho,ho2⟩:=or_byte ⟨n,hn⟩ ⟨bpos hi ws.length,bpos_lt hi _⟩ ⟨c,hc⟩ hz
 simp only at ho ho2
 rw[ho]
 refine⟨by rw[List.length_set,hlen,List.length_append,List.length_singleton];omega,fun y hy=>?_,fun i=>?_⟩
 ·rcases List.mem_or_eq_of_mem_set hy with hy|rfl
  ·exact hr y hy
  ·exact⟨Int.natCast_nonneg _,Int.ofNat_lt.2 ho2⟩
 ·by_cases he:i/8=ws.length/8
  ·have hs:=bit_set ⟨n,hn⟩ ⟨bpos hi ws.length,bpos_lt hi _⟩ ⟨c,hc⟩ ⟨bpos hi i,bpos_lt hi _⟩ hz
   simp only[Fin.mk.injEq] at hs
   have hg:(C.set (ws.length/8) ((n+c*2^bpos hi ws.length:Nat):Int)).getD (i/8) 0=((n+c*2^bpos hi ws.length:Nat):Int):=by
    rw[he,List.getD_eq_getElem?_getD,List.getElem?_set_self (by omega)];rfl
   unfold bitB
   rw[hg,←pow_cast]
   by_cases hil:i=ws.length
   ·subst hil
    rw[if_pos rfl] at hs
    rw[gD_right _ _ _ _ (Nat.le_refl _),Nat.sub_self]
    show _=(c:Int)
    omega
   ·rw[if_neg (bpos_ne he hil)] at hs
    have h1:=hbit i
    unfold bitB at h1
    rw[he,hxe,←pow_cast] at h1
    have h2:(ws++[(c:Int)]).getD i 0=ws.getD i 0:=by
     by_cases hlt:i<ws.length
     ·rw[gD_left _ _ _ _ hlt]
     ·rw[gD_none _ _ (by simp;omega),gD_none _ _ (by omega)]
    rw[h2,←h1]
    omega
  ·have hg:(C.set (ws.length/8) ((n+c*2^bpos hi ws.length:Nat):Int)).getD (i/8) 0=C.getD (i/8) 0:=by
    rw[List.getD_eq_getElem?_getD,List.getElem?_set_ne (Ne.symm he),←List.getD_eq_getElem?_getD]
   have h2:(ws++[(c:Int)]).getD i 0=ws.getD i 0:=by
    by_cases hlt:i<ws.length
    ·rw[gD_left _ _ _ _ hlt]
    ·rw[gD_none _ _ (by simp;omega),gD_none _ _ (by omega)]
   rw[h2,←hbit i]
   unfold bitB
   rw[hg]
end Go.Proofs
namespace Go.Proofs
open Go.Sh
variable {H0 H:Heap} {σ:List Rs} {R:Value→Heap→Prop}
end Go.Proofs
