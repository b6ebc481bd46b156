/-
  OWN WORK. Several texts in one: HuffJ, HuffK, HuffL, FlD, LzA, FlG, FlStP, FlH, FlI, HuffA, HuffB, HuffC, HuffD, HuffE.
-/
import Derived.Test.YtdnfhenncjhenaaGreatMgPngChunksC
import Derived.Test.YtdnfhenncjhenaaGreatMgPngChunksB

set_option linter.unusedVariables false
set_option linter.unusedSimpArgs false
namespace Go.Proofs
open Go.Sh
theorem andI_one(a:Int):andI .i64 a (1:Int)=a%2:=by
 unfold andI
 have hb:IntKind.bits .i64=64:=rfl
 rw[hb,BitVec.toNat_and,BitVec.toNat_ofInt,BitVec.toNat_ofInt]
 have h1:((1:Int)%((2^64:Nat):Int)).toNat=1:=by decide
 rw[h1,Nat.and_one_is_mod]
 have h2:(((a%((2^64:Nat):Int)).toNat%2:Nat):Int)=a%2:=by
  have e:((2^64:Nat):Int)=18446744073709551616:=by decide
  rw[e];omega
 rw[h2]
 exact wrap_id (by omega) (by omega)
structure Trie(ls:List Int)(Ins Beg:Nat→Prop)(P:List (Nat×Int))(F:List Int):Prop where
 len:F.length=P.length*2
 root:P[0]?=some (0,0)
 inj: ∀(i j:Nat) (x:Nat×Int),P[i]?=some x→P[j]?=some x→i=j
 up: ∀(k n:Nat) (v:Int) (b:Nat) (x:Int),P[k]?=some (n,v)→b<2→F[k*2+b]?=some x→0<x→P[x.toNat]?=some (n+1,2*v+b)
 sy: ∀(k n:Nat) (v:Int) (b:Nat) (x:Int),P[k]?=some (n,v)→b<2→F[k*2+b]?=some x→x<0→ ∃s:Nat,Ins s∧x= -1-(s:Int)∧ls[s]?=some ((n+1:Nat):Int)∧codeM ls s=2*v+b
 no: ∀(k n:Nat) (v:Int) (b:Nat),P[k]?=some (n,v)→b<2→F[k*2+b]?=some 0→(∀j:Nat,P[j]?≠some (n+1,2*v+b))∧ ∀s:Nat,Ins s→ls[s]?=some ((n+1:Nat):Int)→codeM ls s≠2*v+b
 par: ∀(k n:Nat) (v:Int),P[k]?=some (n+1,v)→ ∃j:Nat,P[j]?=some (n,v/2)
 ins: ∀(s n:Nat),Ins s→ls[s]?=some (n:Int)→0<n→ ∀j,j<n→ ∃k:Nat,P[k]?=some (j,codeM ls s/2^(n-j))
 beg: ∀(k n:Nat) (v:Int),P[k]?=some (n,v)→0<n→ ∃s m:Nat,Beg s∧ls[s]?=some (m:Int)∧n<m∧codeM ls s/2^(m-n)=v
section
variable {ls:List Int} {Ins Beg:Nat→Prop} {P:List (Nat×Int)} {F:List Int}
theorem Trie.get(t:Trie ls Ins Beg P F){k:Nat}{y:Nat×Int}(h:P[k]?=some y){b:Nat}(hb:b<2): ∃x,F[k*2+b]?=some x:=by
 have:=(List.getElem?_eq_some_iff.1 h).1
 have:=t.len
 exact⟨_,List.getElem?_eq_getElem (by omega)⟩
theorem half_bit(v:Int)(b:Nat)(hb:b<2):(2*v+b)/2=v∧(2*v+b)%2=b:=by omega
theorem div_two_pow(c:Int)(d:Nat):c/2^(d+1)=c/2^d/2:=by
 rw[Int.pow_succ,Int.ediv_ediv_of_nonneg (Int.pow_nonneg (by omega))]
theorem Trie.step(t:Trie ls Ins Beg P F)(ok:OkC ls)(hb: ∀s,Beg s→s<ls.length){k n:Nat}{v x:Int}{b:Nat}(hk:P[k]?=some (n,v))(hb2:b<2)(hx:F[k*2+b]?=some x):
 (∀s:Nat,Ins s→ls[s]?=some ((n+1:Nat):Int)→codeM ls s=2*v+b→x= -1-(s:Int))∧
 (∀s m:Nat,Ins s→ls[s]?=some (m:Int)→n+1<m→codeM ls s/2^(m-(n+1))=2*v+b→0<x∧P[x.toNat]?=some (n+1,2*v+b)):=by
 have noBeg: ∀(s m s':Nat),ls[s]?=some (m:Int)→0<m→s≠s'→ ∀m':Nat,ls[s']?=some (m':Int)→m≤m'→codeM ls s'/2^(m'-m)≠codeM ls s:=fun s m s' h1 h2 h3 m' h4 h5=>no_prefix ok h3 h1 h4 h2 h5
 refine⟨fun s hs hl hc=>?_,fun s m hs hl hm hc=>?_⟩
 ·rcases Int.lt_trichotomy x 0 with h|h|h
  ·obtain⟨s',i',e,l',c'⟩:=t.sy k n v b x hk hb2 hx h
   by_cases hss:s=s'
   ·rw[hss];exact e
   ·have:=noBeg s (n+1) s' hl (by omega) hss (n+1) l' (Nat.le_refl _)
    rw[Nat.sub_self,Int.pow_zero,Int.ediv_one,hc,c'] at this
    exact absurd rfl this
  ·subst h
   exact absurd hc ((t.no k n v b hk hb2 hx).2 s hs hl)
  ·have hp:=t.up k n v b x hk hb2 hx h
   obtain⟨s',m',_,l',hm',c'⟩:=t.beg _ _ _ hp (by omega)
   have hss:s≠s':=fun hh=>by subst hh;rw[hl] at l';have:=Option.some.inj l';omega
   have:=noBeg s (n+1) s' hl (by omega) hss m' l' (by omega)
   rw[c',hc] at this
   exact absurd rfl this
 ·obtain⟨k',hk'⟩:=t.ins s m hs hl (by omega) (n+1) hm
  rw[hc] at hk'
  rcases Int.lt_trichotomy x 0 with h|h|h
  ·obtain⟨s',i',e,l',c'⟩:=t.sy k n v b x hk hb2 hx h
   have hss:s'≠s:=fun hh=>by subst hh;rw[hl] at l';have:=Option.some.inj l';omega
   have:=noBeg s' (n+1) s l' (by omega) hss m hl (by omega)
   rw[hc,c'] at this
   exact absurd rfl this
  ·subst h
   exact absurd hk' ((t.no k n v b hk hb2 hx).1 k')
  ·exact⟨h,t.up k n v b x hk hb2 hx h⟩
theorem Trie.leaf(t:Trie ls Ins Beg P F)(ok:OkC ls){s n:Nat}(hl:ls[s]?=some ((n+1:Nat):Int))(hs:Beg s)(hns: ¬Ins s){k:Nat}(hk:P[k]?=some (n,codeM ls s/2))(hib: ∀i,Ins i→Beg i)
 (path: ∀j,j≤n→ ∃k:Nat,P[k]?=some (j,codeM ls s/2^(n+1-j))):
 Trie ls (fun i=>Ins i∨i=s) Beg P (F.set (k*2+(codeM ls s%2).toNat) (-1-(s:Int))):=by
 have hb2:(codeM ls s%2).toNat<2:=by omega
 have hcode:2*(codeM ls s/2)+((codeM ls s%2).toNat:Int)=codeM ls s:=by omega
 obtain⟨x,hx⟩:=t.get hk hb2
 have hx0:x=0:=by
  rcases Int.lt_trichotomy x 0 with h|h|h
  ·obtain⟨s',i',e,l',c'⟩:=t.sy _ _ _ _ _ hk hb2 hx h
   rw[hcode] at c'
   have hss:s≠s':=fun hh=>by subst hh;exact hns i'
   have:=no_prefix ok hss hl l' (by omega) (Nat.le_refl _)
   rw[Nat.sub_self,Int.pow_zero,Int.ediv_one,c'] at this
   exact absurd rfl this
  ·exact h
  ·have hp:=t.up _ _ _ _ _ hk hb2 hx h
   rw[hcode] at hp
   obtain⟨s',m',_,l',hm',c'⟩:=t.beg _ _ _ hp (by omega)
   have hss:s≠s':=fun hh=>by subst hh;rw[hl] at l';have:=Option.some.inj l';omega
   exact absurd c' (no_prefix ok hss hl l' (by omega) (by omega))
 subst hx0
 have hkl:=(List.getElem?_eq_some_iff.1 hx).1
 have get: ∀(k' b:Nat) (y:Int),b<2→(F.set (k*2+(codeM ls s%2).toNat) (-1-(s:Int)))[k'*2+b]?=some y→(k'=k∧b=(codeM ls s%2).toNat∧y= -1-(s:Int))∨(¬(k'=k∧b=(codeM ls s%2).toNat)∧F[k'*2+b]?=some y):=fun k' b y hb hy=>by
  rw[List.getElem?_set] at hy
  split at hy
  ·rename_i he
   left
   first
    |(cases hy;exact⟨by omega,by omega,rfl⟩)
    |(
     split at hy
     ·cases hy;exact⟨by omega,by omega,rfl⟩
     ·cases hy)
  ·rename_i he
   exact .inr ⟨fun hh=>he (by rw[hh.1,hh.2]),hy⟩
 refine⟨by rw[List.length_set];exact t.len,t.root,t.inj,fun k' n' v b y h1 h2 h3 h4=>?_,fun k' n' v b y h1 h2 h3 h4=>?_,fun k' n' v b h1 h2 h3=>?_,t.par,fun i m h1 h2 h3 j hj=>?_,t.beg⟩
 ·rcases get k' b y h2 h3 with ⟨_,_,rfl⟩|⟨_,h⟩
  ·omega
  ·exact t.up k' n' v b y h1 h2 h h4
 ·rcases get k' b y h2 h3 with ⟨rfl,rfl,rfl⟩|⟨_,h⟩
  ·rw[hk] at h1;cases h1
   exact⟨s,.inr rfl,rfl,hl,hcode.symm⟩
  ·obtain⟨s',a,b',c⟩:=t.sy k' n' v b y h1 h2 h h4
   exact⟨s',.inl a,b',c⟩
 ·rcases get k' b 0 h2 h3 with ⟨rfl,rfl,h⟩|⟨hne,h⟩
  ·omega
  ·obtain⟨a,c⟩:=t.no k' n' v b h1 h2 h
   refine⟨a,fun i hi hli hci=>?_⟩
   rcases hi with hi|rfl
   ·exact c i hi hli hci
   ·rw[hl] at hli
    have hnn:n=n':=by have:=Option.some.inj hli;omega
    subst hnn
    have hv:codeM ls i/2=v:=by rw[hci];exact(half_bit v b h2).1
    rw[hv] at hk
    have:=t.inj _ _ _ hk h1
    subst this
    refine hne ⟨rfl,?_⟩
    rw[hci,(half_bit v b h2).2];omega
 ·rcases h1 with h1|rfl
  ·exact t.ins i m h1 h2 h3 j hj
  ·rw[hl] at h2
   have hm:n+1=m:=by have:=Option.some.inj h2;omega
   subst hm
   exact path j (by omega)
theorem Trie.node(t:Trie ls Ins Beg P F)(ok:OkC ls){s m n:Nat}{v:Int}{b:Nat}(hl:ls[s]?=some (m:Int))(hs:Beg s)(hk0:n+1<m){k:Nat}(hk:P[k]?=some (n,v))(hb2:b<2)(hcode:codeM ls s/2^(m-(n+1))=2*v+b)
 (hx:F[k*2+b]?=some 0):Trie ls Ins Beg (P++[(n+1,2*v+b)]) ((F++[0,0]).set (k*2+b) P.length):=by
 have hF:=t.len
 have hkl:=(List.getElem?_eq_some_iff.1 hk).1
 obtain⟨hno1,hno2⟩:=t.no k n v b hk hb2 hx
 have pg: ∀(i:Nat) y,(P++[(n+1,2*v+b)])[i]?=some y→(P[i]?=some y)∨(i=P.length∧y=(n+1,2*v+b)):=fun i y hy=>by
  by_cases hi:i<P.length
  ·rw[List.getElem?_append_left hi] at hy;exact .inl hy
  ·rw[List.getElem?_append_right (by omega)] at hy
   have hlt:=(List.getElem?_eq_some_iff.1 hy).1
   have:i-P.length=0:=by simpa using hlt
   rw[this] at hy
   simp at hy
   exact .inr ⟨by omega,hy.symm⟩
 have pk: ∀{i:Nat} {y:Nat×Int},P[i]?=some y→(P++[(n+1,2*v+b)])[i]?=some y:=fun{i y} hy=>by
  rw[List.getElem?_append_left (List.getElem?_eq_some_iff.1 hy).1];exact hy
 have pnew:(P++[(n+1,2*v+b)])[P.length]?=some (n+1,2*v+b):=by simp
 have get: ∀(k' b':Nat) (y:Int),b'<2→((F++[0,0]).set (k*2+b) (P.length:Int))[k'*2+b']?=some y→(k'=k∧b'=b∧y=P.length)∨(k'=P.length∧y=0)∨(¬(k'=k∧b'=b)∧F[k'*2+b']?=some y):=fun k' b' y hb hy=>by
  rw[List.getElem?_set] at hy
  split at hy
  ·rename_i he
   left
   first
    |(cases hy;exact⟨by omega,by omega,rfl⟩)
    |(
     split at hy
     ·cases hy;exact⟨by omega,by omega,rfl⟩
     ·cases hy)
  ·rename_i he
   by_cases hlt:k'*2+b'<F.length
   ·rw[List.getElem?_append_left hlt] at hy
    exact .inr (.inr ⟨fun hh=>he (by rw[hh.1,hh.2]),hy⟩)
   ·rw[List.getElem?_append_right (by omega)] at hy
    have hlt2:=(List.getElem?_eq_some_iff.1 hy).1
    simp at hlt2
    refine .inr (.inl ⟨by omega,?_⟩)
    have:k'*2+b'-F.length=0∨k'*2+b'-F.length=1:=by omega
    rcases this with h|h<;>(rw[h] at hy;simp at hy;exact hy.symm)
 -- nothing is below the new node yet
 have below: ∀(w:Int) (b':Nat),b'<2→w=2*v+b→ ∀j:Nat,P[j]?≠some (n+1+1,2*w+b'):=fun w b' hb' hw j hj=>by
  obtain⟨j',hj'⟩:=t.par j (n+1) _ hj
  rw[(half_bit w b' hb').1,hw] at hj'
  exact hno1 j' hj'
 refine⟨by simp;omega,pk t.root,fun i j y h1 h2=>?_,fun k' n' v' b' y h1 h2 h3 h4=>?_,fun k' n' v' b' y h1 h2 h3 h4=>?_,fun k' n' v' b' h1 h2 h3=>?_,fun k' n' v' h1=>?_,fun i m' h1 h2 h3 j hj=>?_,fun k' n' v' h1 h2=>?_⟩
 ·rcases pg i y h1 with h1|⟨e1,y1⟩
  ·rcases pg j y h2 with h2|⟨e2,y2⟩
   ·exact t.inj i j y h1 h2
   ·rw[y2] at h1;exact absurd h1 (hno1 i)
  ·rcases pg j y h2 with h2|⟨e2,y2⟩
   ·rw[y1] at h2;exact absurd h2 (hno1 j)
   ·omega
 ·rcases get k' b' y h2 h3 with ⟨rfl,rfl,rfl⟩|⟨rfl,rfl⟩|⟨_,h⟩
  ·rw[pk hk] at h1;cases h1
   rw[Int.toNat_natCast];exact pnew
  ·omega
  ·rcases pg k' _ h1 with h1|⟨e,_⟩
   ·exact pk (t.up k' n' v' b' y h1 h2 h h4)
   ·have:=(List.getElem?_eq_some_iff.1 h).1;omega
 ·rcases get k' b' y h2 h3 with ⟨rfl,rfl,rfl⟩|⟨rfl,rfl⟩|⟨_,h⟩
  ·omega
  ·omega
  ·rcases pg k' _ h1 with h1|⟨e,_⟩
   ·exact t.sy k' n' v' b' y h1 h2 h h4
   ·have:=(List.getElem?_eq_some_iff.1 h).1;omega
 ·rcases get k' b' 0 h2 h3 with ⟨rfl,rfl,h⟩|⟨rfl,_⟩|⟨hne,h⟩
  ·omega
  ·rw[pnew] at h1;cases h1
   refine⟨fun j hj=>?_,fun i hi hli hci=>?_⟩
   ·rcases pg j _ hj with hj|⟨_,he⟩
    ·exact below _ b' h2 rfl j hj
    ·cases he
   ·obtain⟨k2,hk2⟩:=t.ins i (n+1+1) hi hli (by omega) (n+1) (by omega)
    have e:n+1+1-(n+1)=1:=by omega
    rw[e,Int.pow_one,hci,(half_bit _ b' h2).1] at hk2
    exact hno1 k2 hk2
  ·rcases pg k' _ h1 with h1|⟨e,_⟩
   ·obtain⟨a,c⟩:=t.no k' n' v' b' h1 h2 h
    refine⟨fun j hj=>?_,c⟩
    rcases pg j _ hj with hj|⟨_,he⟩
    ·exact a j hj
    ·rw[Prod.mk.injEq] at he
     have hv:v'=v∧b'=b:=by omega
     have hn:n'=n:=by omega
     rw[hn,hv.1] at h1
     exact hne ⟨t.inj _ _ _ h1 hk,hv.2⟩
   ·have:=(List.getElem?_eq_some_iff.1 h).1;omega
 ·rcases pg k' _ h1 with h1|⟨_,he⟩
  ·obtain⟨j,hj⟩:=t.par k' n' v' h1;exact⟨j,pk hj⟩
  ·rw[Prod.mk.injEq] at he
   refine⟨k,?_⟩
   rw[he.2,(half_bit v b hb2).1]
   have:n'=n:=by omega
   rw[this];exact pk hk
 ·obtain⟨k',hk'⟩:=t.ins i m' h1 h2 h3 j hj
  exact⟨k',pk hk'⟩
 ·rcases pg k' _ h1 with h1|⟨_,he⟩
  ·exact t.beg k' n' v' h1 h2
  ·rw[Prod.mk.injEq] at he
   exact⟨s,m,hs,hl,by omega,by rw[he.1,he.2];exact hcode⟩
theorem Trie.first(ls:List Int)(Beg:Nat→Prop):Trie ls (fun _=>False) Beg [(0,0)] [0,0]:=by
 have one: ∀{k:Nat} {y:Nat×Int},[((0:Nat),(0:Int))][k]?=some y→k=0∧y=(0,0):=fun{k y} h=>by
  cases k with
  |zero=>simp at h;exact⟨rfl,h.symm⟩
  |succ k=>simp at h
 have zz: ∀{k b:Nat} {y:Int},k=0→b<2→([0,0]:List Int)[k*2+b]?=some y→y=0:=fun{k b y} hk hb h=>by
  subst hk
  have:b=0∨b=1:=by omega
  rcases this with rfl|rfl<;>(simp at h;exact h.symm)
 refine⟨rfl,rfl,fun i j x h1 h2=>by rw[(one h1).1,(one h2).1],fun k n v b x h1 h2 h3 h4=>?_,fun k n v b x h1 h2 h3 h4=>?_,fun k n v b h1 h2 h3=>⟨fun j hj=>?_,fun s hs=>hs.elim⟩,fun k n v h1=>?_,fun s n hs=>hs.elim,fun k n v h1 h2=>?_⟩
 ·have:=zz (one h1).1 h2 h3;omega
 ·have:=zz (one h1).1 h2 h3;omega
 ·have:=(one hj).2;simp at this
 ·have:=(one h1).2;simp at this
 ·have:=(one h1).2;rw[Prod.mk.injEq] at this;omega
theorem Trie.mono{Ins' Beg':Nat→Prop}(t:Trie ls Ins Beg P F)(h1: ∀s,Ins s↔Ins' s)(h2: ∀s,Beg s→Beg' s):Trie ls Ins' Beg' P F:=by
 refine⟨t.len,t.root,t.inj,t.up,fun k n v b x a1 a2 a3 a4=>?_,fun k n v b a1 a2 a3=>?_,t.par,fun s n a1=>t.ins s n ((h1 s).2 a1),fun k n v a1 a2=>?_⟩
 ·obtain⟨s,a,b'⟩:=t.sy k n v b x a1 a2 a3 a4;exact⟨s,(h1 s).1 a,b'⟩
 ·obtain⟨a,b'⟩:=t.no k n v b a1 a2 a3;exact⟨a,fun s hs=>b' s ((h1 s).2 hs)⟩
 ·obtain⟨s,m,a,b'⟩:=t.beg k n v a1 a2;exact⟨s,m,h2 s a,b'⟩
end
end Go.Proofs
namespace Go.Proofs
open Go.Sh
theorem Trie.mono2{ls:List Int}{Ins Beg Ins' Beg':Nat→Prop}{P:List (Nat×Int)}{F:List Int}(t:Trie ls Ins Beg P F)(h1: ∀s,Ins s→Ins' s)(h1': ∀s n:Nat,Ins' s→ls[s]?=some (n:Int)→0<n→Ins s)(h2: ∀s,Beg s→Beg' s):Trie ls Ins' Beg' P F:=by
 refine⟨t.len,t.root,t.inj,t.up,fun k n v b x a1 a2 a3 a4=>?_,fun k n v b a1 a2 a3=>?_,t.par,fun s n a1 a2 a3=>t.ins s n (h1' s n a1 a2 a3) a2 a3,fun k n v a1 a2=>?_⟩
 ·obtain⟨s,a,b'⟩:=t.sy k n v b x a1 a2 a3 a4;exact⟨s,h1 s a,b'⟩
 ·obtain⟨a,b'⟩:=t.no k n v b a1 a2 a3;exact⟨a,fun s hs hl=>b' s (h1' s _ hs hl (by omega)) hl⟩
 ·obtain⟨s,m,a,b'⟩:=t.beg k n v a1 a2;exact⟨s,m,h2 s a,b'⟩
theorem Trie.rng{ls:List Int}{Beg:Nat→Prop}{P:List (Nat×Int)}{F:List Int}{S:Nat}(t:Trie ls (· <S) Beg P F): ∀x∈F,-(S:Int)≤x∧x<P.length:=fun x hx=>by
 obtain⟨i,hi⟩:=List.getElem?_of_mem hx
 have hil:=(List.getElem?_eq_some_iff.1 hi).1
 have hl:=t.len
 obtain⟨y,hy⟩: ∃y,P[i/2]?=some y:=⟨_,List.getElem?_eq_getElem (by omega)⟩
 obtain⟨n,v⟩:=y
 have e:i/2*2+i%2=i:=by omega
 have hi':F[i/2*2+i%2]?=some x:=by rw[e];exact hi
 have hp:0<P.length:=by have:=(List.getElem?_eq_some_iff.1 t.root).1;omega
 rcases Int.lt_trichotomy x 0 with h|h|h
 ·obtain⟨s,a,b,_⟩:=t.sy _ _ _ _ _ hy (by omega) hi' h
  have a:s<S:=a
  omega
 ·omega
 ·have:=(List.getElem?_eq_some_iff.1 (t.up _ _ _ _ _ hy (by omega) hi' h)).1
  omega
set_option maxHeartbeats 4000000 in
theorem newDec{H:Heap}{p:Option Addr}{l c:Nat}{ls:List Int}(h:IS H p l (ints ls)){R:Value→Heap→Prop}(hbad: ¬OkC ls→R (.tuple #[.pointer none,.bool false]) H)
 (hgood:OkC ls→ ∀H' b q L k P F,H.size≤b→H'[b]?=some (.cells #[.slice q L k] 154)→FS H.size H' q L k 155 2 (ints F)→P.length=L→L≤5000→Trie ls (· <ls.length) (· <ls.length) P F→Ext H H'→R (.tuple #[.pointer (some ⟨b,0,none⟩),.bool true]) H'):
 CallsH Tryz.prog 74 #[.slice p l c] H R:=by
 have hl:ls.length=l:=by have:=h.len;rw[ints_len] at this;omega
 refine Tryz.s74 ?_
 unfold Tryz.S74 alc
 refine c86 h (fun hn=>⟨_,_,_,_,rfl,br_t rfl (hbad hn)⟩) fun ok H1 cb fc e1=>⟨_,_,_,_,rfl,br_f rfl ⟨by omega,by omega,by omega,by omega,?_⟩⟩
 have l300:=ok.w.len
 have hz:(List.toArray (reps (Int.toNat (1:Int)) (Array.toList #[Value.int .i64 0,Value.int .i64 0])))=#[Value.int .i64 0,Value.int .i64 0]:=rfl
 have h1:Int.toNat (1:Int)=1:=rfl
 rw[hz,h1]
 dsimp only
 have hb2:=get_push_self H1 (.cells #[Value.int .i64 0,Value.int .i64 0] 155)
 have e2:Ext H1 (H1.push (.cells #[Value.int .i64 0,Value.int .i64 0] 155)):=Ext.push _ _
 have hs2:(H1.push (.cells #[Value.int .i64 0,Value.int .i64 0] 155)).size=H1.size+1:=by simp
 generalize H1.push (.cells #[Value.int .i64 0,Value.int .i64 0] 155)=H2 at hb2 e2 hs2
 have hb3:=get_push_self H2 (.cells #[Value.slice (some ⟨H1.size,0,none⟩) 1 1] 154)
 have e3:Ext H2 (H2.push (.cells #[Value.slice (some ⟨H1.size,0,none⟩) 1 1] 154)):=Ext.push _ _
 have hs3:(H2.push (.cells #[Value.slice (some ⟨H1.size,0,none⟩) 1 1] 154)).size=H2.size+1:=by simp
 generalize H2.push (.cells #[Value.slice (some ⟨H1.size,0,none⟩) 1 1] 154)=H3 at hb3 e3 hs3
 have hsz1:=e1.size
 have fs3:FS H.size H3 (some ⟨H1.size,0,none⟩) 1 1 155 2 (ints [0,0]):=⟨rfl,Nat.le_refl _,ints_one _,.inr ⟨H1.size,_,rfl,hsz1,e3 _ _ hb2,rfl,fun i v hv=>by simpa[ints] using hv⟩⟩
 have cget: ∀{Hx:Heap},RS Hx (some ⟨cb,0,none⟩) l 3 1 (ints (codesM ls))→ ∀i,i<l→cell Hx ⟨cb,i,none⟩=some (.int .i64 (codeM ls i)):=fun hx i hi=>by
  obtain⟨blk,q1,v1⟩:=hx.cell (ints_get (codesM_get (ls:=ls) (i:=i) (by omega)))
  cases q1;exact v1
 have lget: ∀i,i<l→ ∃n:Nat,ls[i]?=some (n:Int)∧n≤16:=fun i hi=>by
  have hv:ls[i]?=some ls[i]:=List.getElem?_eq_getElem (by omega)
  have hr:=ok.w.rng _ (List.mem_of_getElem? hv)
  refine⟨ls[i].toNat,?_,by omega⟩
  rw[hv];congr 1;omega
 generalize hB:H2.size=B at hb3 ⊢
 have dget: ∀{Hx:Heap} {q:Option Addr} {L k:Nat},Hx[B]?=some (.cells #[.slice q L k] 154)→cell Hx ⟨B,0,none⟩=some (.slice q L k):=fun h=>cell_get h rfl
 have hBs:H.size≤B:=by omega
 intro X hX
 have outer: ∀(m s:Nat) (H4:Heap) (q:Option Addr) (L k:Nat) (P:List (Nat×Int)) (F:List Int),l-s=m→s≤l→Ext H H4→RS H4 (some ⟨cb,0,none⟩) l 3 1 (ints (codesM ls))→H4[B]?=some (.cells #[.slice q L k] 154)→FS H.size H4 q L k 155 2 (ints F)→
  P.length=L→L≤1+16*s→Trie ls (· <s) (· <s) P F→X [.int .i64 s] H4:=by
  intro m
  induction m with
  |zero=>
   intro s H4 q L k P F hm hs e4 rc hd fs hP hL t
   have:s=ls.length:=by omega
   subst this
   exact hX _ H4 (br_n (by omega) (hgood ok H4 B q L k P F hBs hd fs hP (by omega) t e4))
  |succ m ih=>
   intro s H4 q L k P F hm hs e4 rc hd fs hP hL t
   have ws:IntKind.wrap .i64 ((s:Int)+1)=((s+1:Nat):Int):=by rw[wrap_id (by omega) (by omega)];omega
   have wns:IntKind.wrap .i64 ((-1:Int)-(s:Int))= -1-(s:Int):=wrap_id (by omega) (by omega)
   obtain⟨n,hn,hn16⟩:=lget s (by omega)
   obtain⟨a,hp,cv⟩:=(h.ext e4).cell (ints_get hn)
   refine hX _ H4 (br_y (by omega) ⟨_,hp,by omega,by omega,n,by simpa using cv,?_⟩)
   rw[ws,wns]
   have nxt: ∀(H5:Heap) (q:Option Addr) (L k:Nat) (P:List (Nat×Int)) (F:List Int),Ext H H5→RS H5 (some ⟨cb,0,none⟩) l 3 1 (ints (codesM ls))→H5[B]?=some (.cells #[.slice q L k] 154)→FS H.size H5 q L k 155 2 (ints F)→
    P.length=L→L≤1+16*(s+1)→Trie ls (· <s+1) (· <s+1) P F→X [.int .i64 ((s+1:Nat):Int)] H5:=fun H5 q L k P F e5 rc hd fs hP hL t=>ih (s+1) H5 q L k P F (by omega) (by omega) e5 rc hd fs hP hL t
   intro Y hY
   by_cases hn0:n=0
   ·have w0:IntKind.wrap .i64 ((n:Int)-1)= -1:=by subst hn0;decide
    rw[w0]
    refine hY _ _ H4 (br_n (by omega) (nxt H4 q L k P F e4 rc hd fs hP (by omega) (t.mono2 (fun i hi=>by omega) (fun i n' hi hl' hn'=>?_) (fun i hi=>by omega))))
    by_cases his:i=s
    ·subst his
     rw[hn] at hl'
     have:=Option.some.inj hl';omega
    ·have hi:i<s+1:=hi
     show i<s
     omega
   ·have w0:IntKind.wrap .i64 ((n:Int)-1)=((n-1:Nat):Int):=by rw[wrap_id (by omega) (by omega)];omega
    rw[w0]
    have crng:=code_rng ok hn (by omega)
    have inner: ∀(k0:Nat) (st:Nat) (H5:Heap) (q:Option Addr) (L k:Nat) (P:List (Nat×Int)) (F:List Int),k0+1≤n→Ext H H5→RS H5 (some ⟨cb,0,none⟩) l 3 1 (ints (codesM ls))→H5[B]?=some (.cells #[.slice q L k] 154)→FS H.size H5 q L k 155 2 (ints F)→
     P.length=L→L≤1+16*s+(n-1-k0)→Trie ls (· <s) (· <s+1) P F→P[st]?=some (n-1-k0,codeM ls s/2^(k0+1))→(∀j,j≤n-1-k0→ ∃i:Nat,P[i]?=some (j,codeM ls s/2^(n-j)))→Y [.int .i64 st,.int .i64 k0] H5:=by
     intro k0
     induction k0 with
     |zero=>
      intro st H5 q L k P F hk0 e5 rc hd fs hP hL t hst path
      have hstl:=(List.getElem?_eq_some_iff.1 hst).1
      have hFl:=t.len
      rw[Nat.zero_add,Int.pow_one] at hst
      refine hY _ _ H5 (br_y (by omega) ⟨_,rfl,by omega,by omega,codeM ls s,by simpa using cget rc s (by omega),by omega,?_⟩)
      have hbit:andI .i64 (shrI .i64 (codeM ls s) ((0:Nat):Int)) (1:Int)=codeM ls s%2:=by
       rw[andI_one,shr64 (by omega) (by omega)];simp
      rw[hbit]
      refine br_t rfl ⟨_,rfl,q,L,k,by simpa using dget hd,?_⟩
      have hbt:(codeM ls s%2).toNat<2:=by omega
      rcases fs.at_ with ⟨hq0,hk00⟩|⟨blk,cs,hq,hq2,hq3,hq4,hq5⟩
      ·have:=fs.le;omega
      ·refine⟨_,hq,by omega,by omega,by omega,by omega,?_⟩
       subst hq
       simp only[add_none,Nat.zero_add,Nat.mul_one,Int.toNat_natCast]
       refine fs.set (by rw[ints_len];omega) rfl fun H6 f6 hk6 hs6=>?_
       rw[ints_set] at f6
       have hBne:B≠blk:=fun hh=>by rw[←hh,hd] at hq3;cases hq3
       refine nxt H6 _ L k P _ (fun b o hb=>hk6 b o (e5 b o hb) (by have:=lt_of_get hb;omega)) (rc.keep fun b cs' hb hg=>hk6 b _ hg fun hh=>by rw[hh,hq3] at hg;cases hg) (hk6 _ _ hd hBne) f6 hP (by omega) ?_
       have hn1:n=n-1+1:=by omega
       rw[hn1] at hn
       refine(t.leaf ok hn (by show s<s+1;omega) (by show ¬s<s;omega) (k:=st) hst (fun i hi=>by show i<s+1;have:i<s:=hi;omega) (fun j hj=>?_)).mono2 (fun i hi=>?_) (fun i n' hi _ _=>?_) (fun i hi=>hi)
       ·obtain⟨i,hi⟩:=path j (by omega)
        refine⟨i,?_⟩
        have:n-1+1-j=n-j:=by omega
        rw[this];exact hi
       ·rcases hi with hi|rfl
        ·have:i<s:=hi
         show i<s+1;omega
        ·show i<i+1;omega
       ·have hi:i<s+1:=hi
        by_cases h:i<s
        ·exact .inl h
        ·exact .inr (by omega)
     |succ k0 ihk=>
      intro st H5 q L k P F hk0 e5 rc hd fs hP hL t hst path
      have hstl:=(List.getElem?_eq_some_iff.1 hst).1
      have hFl:=t.len
      have wk:IntKind.wrap .i64 (((k0+1:Nat):Int)-1)=(k0:Int):=by rw[wrap_id (by omega) (by omega)];omega
      have hbit:andI .i64 (shrI .i64 (codeM ls s) ((k0+1:Nat):Int)) (1:Int)=codeM ls s/2^(k0+1)%2:=by
       rw[andI_one,shr64 (by omega) (by omega),Int.toNat_natCast]
      have hhalf:codeM ls s/2^(k0+1+1)=codeM ls s/2^(k0+1)/2:=div_two_pow _ _
      generalize hv:codeM ls s/2^(k0+1)=v at hbit hhalf
      rw[hhalf] at hst
      have hbt:(v%2).toNat<2:=by omega
      have hvv:2*(v/2)+((v%2).toNat:Int)=v:=by omega
      refine hY _ _ H5 (br_y (by omega) ⟨_,rfl,by omega,by omega,codeM ls s,by simpa using cget rc s (by omega),by omega,?_⟩)
      rw[hbit,wk]
      refine br_f (by simp;omega) ?_
      intro J hJ
      obtain⟨x,hx⟩:=t.get hst hbt
      -- behind the look at the child
      have go: ∀(H6:Heap) (q:Option Addr) (L k:Nat) (P:List (Nat×Int)) (F:List Int) (x:Int),Ext H H6→RS H6 (some ⟨cb,0,none⟩) l 3 1 (ints (codesM ls))→H6[B]?=some (.cells #[.slice q L k] 154)→FS H.size H6 q L k 155 2 (ints F)→
       P.length=L→L≤1+16*s+(n-1-k0)→Trie ls (· <s) (· <s+1) P F→st<P.length→F[st*2+(v%2).toNat]?=some x→0<x→P[x.toNat]?=some (n-1-k0,codeM ls s/2^(k0+1))→(∀j,j≤n-1-k0→ ∃i:Nat,P[i]?=some (j,codeM ls s/2^(n-j)))→J [] H6:=by
       intro H6 q L k P F x e6 rc hd fs hP hL t hstl hx hx0 hPx path
       have hFl:=t.len
       rcases fs.at_ with ⟨hq0,hk00⟩|⟨blk,cs,hq,hq2,hq3,hq4,hq5⟩
       ·have:=fs.le;omega
       ·obtain⟨blk',hq',cx⟩:=fs.rs.cell (ints_get hx)
        rw[hq] at hq';cases hq'
        have hxl:=(List.getElem?_eq_some_iff.1 hPx).1
        refine hJ H6 ⟨_,rfl,q,L,k,by simpa using dget hd,_,hq,by omega,by omega,by omega,by omega,x,?_,?_⟩
        ·simp only[add_none,Nat.zero_add,Nat.mul_one,Int.toNat_natCast];exact cx
        ·have hxn:x=((x.toNat:Nat):Int):=by omega
         rw[hxn]
         exact ihk x.toNat H6 q L k P F (by omega) e6 rc hd fs hP hL t hPx path
      rcases fs.at_ with ⟨hq0,hk00⟩|⟨blk,cs,hq,hq2,hq3,hq4,hq5⟩
      ·have:=fs.le;omega
      obtain⟨blk',hq',cx⟩:=fs.rs.cell (ints_get hx)
      rw[hq] at hq';cases hq'
      refine⟨_,rfl,q,L,k,by simpa using dget hd,_,hq,by omega,by omega,by omega,by omega,x,?_,br_eq (fun hx0=>?_) (fun hxne=>?_)⟩
      ·simp only[add_none,Nat.zero_add,Nat.mul_one,Int.toNat_natCast];exact cx
      ·-- a new node
       subst hx0
       refine⟨_,rfl,q,L,k,by simpa using dget hd,rfl,by omega,?_⟩
       have hz:(List.toArray (setL [Value.int .i64 0,Value.int .i64 0] 0 (Array.toList #[Value.int .i64 0,Value.int .i64 0])))=#[Value.int .i64 0,Value.int .i64 0]:=rfl
       rw[hz]
       have hb6:=get_push_self H5 (.cells #[Value.int .i64 0,Value.int .i64 0] 155)
       have e6:Ext H5 (H5.push (.cells #[Value.int .i64 0,Value.int .i64 0] 155)):=Ext.push _ _
       generalize H5.push (.cells #[Value.int .i64 0,Value.int .i64 0] 155)=H6 at hb6 e6
       have src:RS H6 (some ⟨H5.size,0,none⟩) 1 155 2 (ints [0,0]):=⟨rfl,ints_one _,.inr ⟨H5.size,_,rfl,hb6,fun i v hv=>by simpa[ints] using hv⟩⟩
       have f6:=fs.ext e6
       have hd6:=e6 _ _ hd
       have rc6:=rc.ext e6
       refine f6.app src (by decide) (by have:=(e5.trans e6).size;omega) rfl (by omega) (by omega) fun q7 k7 H7 f7 hk7 hs7=>⟨_,rfl,?_⟩
       rw[←ints_append] at f7
       have hBne:q≠some ⟨B,0,none⟩:=fun hh=>by rw[hq] at hh;cases hh;rw[hd] at hq3;cases hq3
       have hd7:=hk7 _ _ hd6 hBne
       have rc7:RS H7 (some ⟨cb,0,none⟩) l 3 1 (ints (codesM ls)):=rc6.keep fun b cs' hb hg=>hk7 b _ hg fun hh=>by
        rw[hq] at hh;cases hh;rw[e6 _ _ hq3] at hg;cases hg
       have e7:Ext H H7:=fun b o hb=>hk7 b o ((e5.trans e6) b o hb) fun hh=>by
        rw[hq] at hh;cases hh;have:=lt_of_get hb;omega
       simp only[add_none,Nat.zero_add]
       refine stAt_one hd7 (by show 0<1;omega) rfl ?_
       have hset:(#[Value.slice q L k]:Array Value).setIfInBounds 0 (Value.slice q7 (L+1) k7)=#[Value.slice q7 (L+1) k7]:=rfl
       rw[hset]
       have hd8:=get_set_self (o:=Obj.cells #[Value.slice q7 (L+1) k7] 154 (0,0)) hd7
       have hk8: ∀(b:Nat) (o:Obj),H7[b]?=some o→b≠B→(H7.setIfInBounds B (.cells #[Value.slice q7 (L+1) k7] 154 (0,0)))[b]?=some o:=fun b o hb hn=>get_set_ne (Ne.symm hn) hb
       generalize H7.setIfInBounds B (.cells #[Value.slice q7 (L+1) k7] 154 (0,0))=H8 at hd8 hk8
       have f8:FS H.size H8 q7 (L+1) k7 155 2 (ints (F++[0,0])):=f7.keep fun b cs' hb hg=>hk8 b _ hg fun hh=>by rw[hh,hd7] at hg;cases hg
       have rc8:RS H8 (some ⟨cb,0,none⟩) l 3 1 (ints (codesM ls)):=rc7.keep fun b cs' hb hg=>hk8 b _ hg fun hh=>by rw[hh,hd7] at hg;cases hg
       have e8:Ext H H8:=fun b o hb=>hk8 b o (e7 b o hb) (by have:=lt_of_get hb;omega)
       have wl:IntKind.wrap .i64 (((L+1:Nat):Int)-1)=(L:Int):=by rw[wrap_id (by omega) (by omega)];omega
       rcases f8.at_ with ⟨hq0,hk00⟩|⟨blk8,cs8,hq8,hq82,hq83,hq84,hq85⟩
       ·have:=f8.le;omega
       ·refine⟨_,rfl,q7,L+1,k7,by simpa using dget hd8,_,rfl,q7,L+1,k7,by simpa using dget hd8,_,hq8,by omega,by omega,by omega,by omega,?_⟩
        subst hq8
        rw[wl]
        simp only[add_none,Nat.zero_add,Nat.mul_one,Int.toNat_natCast]
        refine f8.set (by rw[ints_len];simp;omega) rfl fun H9 f9 hk9 hs9=>?_
        rw[ints_set] at f9
        have hB9:B≠blk8:=fun hh=>by rw[←hh,hd8] at hq83;cases hq83
        have ndc:codeM ls s/2^(n-(n-1-(k0+1)+1))=2*(v/2)+((v%2).toNat:Int):=by
         have:n-(n-1-(k0+1)+1)=k0+1:=by omega
         rw[this,hv,hvv]
        have t9:=t.node ok (s:=s) (m:=n) (b:=(v%2).toNat) hn (by show s<s+1;omega) (by omega) hst hbt ndc hx
        rw[hvv] at t9
        have hdep:n-1-(k0+1)+1=n-1-k0:=by omega
        rw[hdep] at t9
        have e9:Ext H H9:=fun b o hb=>hk9 b o (e8 b o hb) (by have:=lt_of_get hb;omega)
        rw[hP] at t9
        refine go H9 _ (L+1) k7 (P++[(n-1-k0,v)]) _ (L:Int) e9 (rc8.keep fun b cs' hb hg=>hk9 b _ hg fun hh=>by rw[hh,hq83] at hg;cases hg) (hk9 _ _ hd8 hB9) f9 (by simp;omega) (by omega) t9 (by simp;omega) ?_ (by omega) ?_ (fun j hj=>?_)
        ·rw[List.getElem?_set_self (by simp;omega)]
        ·rw[Int.toNat_natCast,←hP,hv];simp
        ·by_cases hj1:j≤n-1-(k0+1)
         ·obtain⟨i,hi⟩:=path j hj1
          exact⟨i,by rw[List.getElem?_append_left (List.getElem?_eq_some_iff.1 hi).1];exact hi⟩
         ·have hje:j=n-1-k0:=by omega
          refine⟨P.length,?_⟩
          have:n-j=k0+1:=by omega
          rw[this,hv,hje];simp
      ·-- the child is there
       have hxpos:0<x:=by
        rcases Int.lt_trichotomy x 0 with h|h|h
        ·obtain⟨s',i',_,l',c'⟩:=t.sy _ _ _ _ _ hst hbt hx h
         have i':s'<s:=i'
         rw[hvv] at c'
         have:=no_prefix ok (i:=s') (j:=s) (by omega) l' hn (by omega) (by omega)
         have e:n-(n-1-(k0+1)+1)=k0+1:=by omega
         rw[e,hv] at this
         exact absurd c'.symm this
        ·exact absurd h hxne
        ·exact h
       have hPx:=t.up _ _ _ _ _ hst hbt hx hxpos
       rw[hvv] at hPx
       have hdep:n-1-(k0+1)+1=n-1-k0:=by omega
       rw[hdep] at hPx
       refine go H5 q L k P F x e5 rc hd fs hP (by omega) t hstl hx hxpos (by rw[hv];exact hPx) (fun j hj=>?_)
       by_cases hj1:j≤n-1-(k0+1)
       ·exact path j hj1
       ·have hje:j=n-1-k0:=by omega
        refine⟨x.toNat,?_⟩
        have:n-j=k0+1:=by omega
        rw[this,hv,hje];exact hPx
    have hcode0:codeM ls s/2^n=0:=Int.ediv_eq_zero_of_lt crng.1 crng.2
    refine inner (n-1) 0 H4 q L k P F (by omega) e4 rc hd fs hP (by omega) (t.mono2 (fun i hi=>hi) (fun i n' hi _ _=>hi) (fun i hi=>by have:i<s:=hi;show i<s+1;omega)) ?_ (fun j hj=>⟨0,?_⟩)
    ·have e1:n-1-(n-1)=0:=by omega
     have e2:n-1+1=n:=by omega
     rw[e1,e2,hcode0];exact t.root
    ·have e1:j=0:=by omega
     subst e1
     rw[Nat.sub_zero,hcode0];exact t.root
 refine outer l 0 H3 (some ⟨H1.size,0,none⟩) 1 1 [(0,0)] [0,0] (by omega) (by omega) (e1.trans (e2.trans e3)) (fc.rs.ext (e2.trans e3)) hb3 fs3 rfl (by omega) ((Trie.first ls (· <0)).mono2 (fun i hi=>hi.elim) (fun i n hi=>absurd hi (by omega)) (fun i hi=>hi))
def stepM(F:List Int)(L:Nat)(st bit:Int):Int×Int:=
 if st<0∨st≥L then(-1,-1)
 else if F.getD (st.toNat*2+(bit%2).toNat) 0>0 then(F.getD (st.toNat*2+(bit%2).toNat) 0,-1)
 else if F.getD (st.toNat*2+(bit%2).toNat) 0<0 then(0,-1-F.getD (st.toNat*2+(bit%2).toNat) 0) else(-1,-1)
theorem c123{H:Heap}{b:Nat}{q:Option Addr}{L k:Nat}{F:List Int}(hd:H[b]?=some (.cells #[.slice q L k] 154))(hf:RS H q L 155 2 (ints F))(hr: ∀x∈F,-1000000≤x∧x≤1000000)(hL:L≤1000000)(st bit:Int){R:Value→Heap→Prop}
 (h:R (.tuple #[.int .i64 (stepM F L st bit).1,.int .i64 (stepM F L st bit).2]) H):CallsH Tryz.prog 123 #[.pointer (some ⟨b,0,none⟩),.int .i64 st,.int .i64 bit] H R:=by
 have hFl:F.length=L*2:=by have:=hf.len;rw[ints_len] at this;exact this
 have dget:cell H ⟨b,0,none⟩=some (.slice q L k):=cell_get hd rfl
 refine Tryz.s123 ?_
 unfold Tryz.S123
 rw[andI_one]
 intro J hJ
 unfold stepM at h
 refine br_dec (fun hn=>?_) (fun h0=>⟨_,rfl,q,L,k,by simpa using dget,br_dec (fun hge=>?_) (fun hlt=>hJ H ?_)⟩)
 ·rw[if_pos (.inl hn)] at h;exact h
 ·rw[if_pos (.inr hge)] at h;exact h
 ·rw[if_neg (by omega)] at h
  have hb2:(bit%2).toNat<2:=by omega
  have hx:F[st.toNat*2+(bit%2).toNat]?=some (F.getD (st.toNat*2+(bit%2).toNat) 0):=by
   rw[List.getD_eq_getElem?_getD,List.getElem?_eq_getElem (by omega)];rfl
  have hxr:=hr _ (List.mem_of_getElem? hx)
  obtain⟨blk,hq,cx⟩:=hf.cell (ints_get hx)
  generalize F.getD (st.toNat*2+(bit%2).toNat) 0=x at h hx cx hxr
  refine⟨_,rfl,q,L,k,by simpa using dget,_,hq,by omega,by omega,by omega,by omega,x,?_,br_dec (fun hp=>?_) (fun hp=>br_dec (fun hn=>?_) (fun hn=>?_))⟩
  ·simp only[add_none,Nat.zero_add,Nat.mul_one];exact cx
  ·rw[if_pos hp] at h;exact h
  ·rw[if_neg hp,if_pos hn] at h
   rw[wrap_id (by omega) (by omega)];exact h
  ·rw[if_neg hp,if_neg hn] at h;exact h
end Go.Proofs
namespace Go.Proofs
open Go.Sh
theorem rank_ex{ls:List Int}{n r:Nat}: ∀{S:Nat},S≤ls.length→r<rank ls S n→ ∃s:Nat,s<S∧ls[s]?=some (n:Int)∧rank ls s n=r
 |0,_,h=>by simp[rank] at h
 |S+1,hS,h=>by
  have hv:ls[S]?=some ls[S]:=List.getElem?_eq_getElem (by omega)
  rw[rank_snoc hv] at h
  by_cases hr:r<rank ls S n
  ·obtain⟨s,a,b⟩:=rank_ex (by omega) hr
   exact⟨s,by omega,b⟩
  ·split at h
   ·rename_i he
    exact⟨S,by omega,by rw[hv,he],by omega⟩
   ·omega
theorem whole{ls:List Int}(ok:OkC ls)(hw:wtM ls=65536){x:Int}(h0:0≤x)(h1:x<65536): ∃s n:Nat,ls[s]?=some (n:Int)∧1≤n∧n≤16∧codeM ls s=x/2^(16-n):=by
 have hW:W ls 16=65536:=by rw[W_all ok.w.rng,hw]
 have find: ∀m:Nat,m≤16→x<W ls m→ ∃n,n<m∧W ls n≤x∧x<W ls (n+1):=by
  intro m
  induction m with
  |zero=>intro _ h;simp[W] at h;omega
  |succ m ih=>
   intro hm h
   by_cases hx:x<W ls m
   ·obtain⟨n,a,b⟩:=ih (by omega) hx
    exact⟨n,by omega,b⟩
   ·exact⟨m,by omega,by omega,h⟩
 obtain⟨n,hn,w1,w2⟩:=find 16 (Nat.le_refl _) (by omega)
 have b1:=base_W ls n (by omega)
 have b2:=base_W ls (n+1) (by omega)
 have hp:(0:Int)<2^(16-(n+1)):=Int.pow_pos (by omega)
 have hb:base ls (n+1)*2^(16-(n+1))=W ls n:=by
  rw[←b1]
  have e:16-n=16-(n+1)+1:=by omega
  rw[e,Int.pow_succ]
  show 2*(base ls n+cnt ls n)*2^(16-(n+1))=_
  generalize (2:Int)^(16-(n+1))=z
  rw[Int.mul_comm z 2,←Int.mul_assoc,Int.mul_comm (base ls n+(cnt ls n:Int)) 2]
 have y1:base ls (n+1)≤x/2^(16-(n+1)):=(Int.le_ediv_iff_mul_le hp).2 (by omega)
 have y2:x/2^(16-(n+1))<base ls (n+1)+cnt ls (n+1):=Int.ediv_lt_of_lt_mul hp (by omega)
 have hc:cnt ls (n+1)=rank ls ls.length (n+1):=by unfold cnt;rw[if_neg (by omega)]
 obtain⟨s,_,hs,hr⟩:=rank_ex (ls:=ls) (n:=n+1) (r:=(x/2^(16-(n+1))-base ls (n+1)).toNat) (S:=ls.length) (Nat.le_refl _) (by omega)
 refine⟨s,n+1,hs,by omega,by omega,?_⟩
 rw[codeM_pos hs (by omega),hr]
 omega
section
variable {ls:List Int} {P:List (Nat×Int)} {F:List Int}
theorem stepM_of{L:Nat}(hP:P.length=L)(t:Trie ls (· <ls.length) (· <ls.length) P F){k:Nat}{y:Nat×Int}(hk:P[k]?=some y)(bit:Int): ∃x,F[k*2+(bit%2).toNat]?=some x∧stepM F L (k:Int) bit=if x>0 then(x,-1) else if x<0 then(0,-1-x) else(-1,-1):=by
 have hb:(bit%2).toNat<2:=by omega
 obtain⟨x,hx⟩:=t.get hk hb
 have hkl:=(List.getElem?_eq_some_iff.1 hk).1
 refine⟨x,hx,?_⟩
 unfold stepM
 rw[if_neg (by omega),Int.toNat_natCast,List.getD_eq_getElem?_getD,hx]
 rfl
theorem step_sym{L:Nat}(ok:OkC ls)(hP:P.length=L)(t:Trie ls (· <ls.length) (· <ls.length) P F){k n s:Nat}{v bit:Int}(hk:P[k]?=some (n,v))(hs:ls[s]?=some ((n+1:Nat):Int))(hc:codeM ls s=2*v+bit%2):stepM F L (k:Int) bit=(0,(s:Int)):=by
 obtain⟨x,hx,e⟩:=stepM_of hP t hk bit
 have hb:(bit%2).toNat<2:=by omega
 have hsl:=(List.getElem?_eq_some_iff.1 hs).1
 have:=(t.step ok (fun s hs=>hs) hk hb hx).1 s hsl hs (by omega)
 rw[e,if_neg (by omega),if_pos (by omega)]
 congr 1;omega
theorem step_on{L:Nat}(ok:OkC ls)(hP:P.length=L)(t:Trie ls (· <ls.length) (· <ls.length) P F){k n s m:Nat}{v bit:Int}(hk:P[k]?=some (n,v))(hs:ls[s]?=some (m:Int))(hm:n+1<m)(hc:codeM ls s/2^(m-(n+1))=2*v+bit%2):
 ∃j:Nat,0<j∧stepM F L (k:Int) bit=((j:Int),-1)∧P[j]?=some (n+1,2*v+bit%2):=by
 obtain⟨x,hx,e⟩:=stepM_of hP t hk bit
 have hb:(bit%2).toNat<2:=by omega
 have hsl:=(List.getElem?_eq_some_iff.1 hs).1
 have hbb:2*v+((bit%2).toNat:Int)=2*v+bit%2:=by omega
 obtain⟨h0,hp⟩:=(t.step ok (fun s hs=>hs) hk hb hx).2 s m hsl hs hm (by rw[hbb];exact hc)
 rw[hbb] at hp
 refine⟨x.toNat,by omega,?_,hp⟩
 rw[e,if_pos h0]
 congr 1;omega
theorem step_off{L:Nat}(hP:P.length=L)(t:Trie ls (· <ls.length) (· <ls.length) P F){k n:Nat}{v bit:Int}(hk:P[k]?=some (n,v))(h1: ∀s:Nat,ls[s]?=some ((n+1:Nat):Int)→codeM ls s≠2*v+bit%2)
 (h2: ∀s m:Nat,ls[s]?=some (m:Int)→n+1<m→codeM ls s/2^(m-(n+1))≠2*v+bit%2):stepM F L (k:Int) bit=(-1,-1):=by
 obtain⟨x,hx,e⟩:=stepM_of hP t hk bit
 have hb:(bit%2).toNat<2:=by omega
 have hbb:2*v+((bit%2).toNat:Int)=2*v+bit%2:=by omega
 have n1: ¬x>0:=fun h=>by
  have hp:=t.up _ _ _ _ _ hk hb hx h
  obtain⟨s,m,_,a,b,c⟩:=t.beg _ _ _ hp (by omega)
  rw[hbb] at c
  exact h2 s m a b c
 have n2: ¬x<0:=fun h=>by
  obtain⟨s,_,_,a,b⟩:=t.sy _ _ _ _ _ hk hb hx h
  rw[hbb] at b
  exact h1 s a b
 rw[e,if_neg n1,if_neg n2]
theorem Trie.rng2{L:Nat}(hP:P.length=L)(hL:L≤5000)(hl:ls.length≤300)(t:Trie ls (· <ls.length) (· <ls.length) P F): ∀x∈F,-1000000≤x∧x≤1000000:=fun x hx=>by
 have:=t.rng x hx;omega
theorem Trie.val(ok:OkC ls)(t:Trie ls (· <ls.length) (· <ls.length) P F){k n:Nat}{v:Int}(hk:P[k]?=some (n,v))(hn:0<n):n≤16∧0≤v∧v≤65536:=by
 obtain⟨s,m,_,a,b,c⟩:=t.beg _ _ _ hk hn
 have hm:=ok.w.rng _ (List.mem_of_getElem? a)
 have hr:=code_rng ok a (by omega)
 have h2:(2:Int)^m≤65536:=by
  have h2:2^m≤2^16:=Nat.pow_le_pow_right (by omega) (by omega)
  have h3:((2^m:Nat):Int)=(2:Int)^m:=by simp
  have h4:(2:Nat)^16=65536:=rfl
  omega
 have h5:0≤codeM ls s/2^(m-n):=Int.ediv_nonneg hr.1 (Int.pow_nonneg (by omega))
 have h6:codeM ls s/2^(m-n)≤codeM ls s:=Int.ediv_le_self _ hr.1
 omega
end
theorem div_bit(x:Int)(k:Nat):2*(x/2^(k+1))+x/2^k%2=x/2^k:=by rw[div_two_pow];omega
end Go.Proofs
namespace Go.Proofs
open Go.Sh
def getM(B:List Int)(n at_:Nat):Except Int (Int×Nat):=
 if at_+n≤8*B.length then .ok (numB false B at_ n,at_+n) else .error 20
def findM(ls:List Int)(n:Nat)(v:Int):Option Nat:=(List.range ls.length).find? fun s=>ls.getD s 0==(n:Int)&&codeM ls s==v
def begM(ls:List Int)(n:Nat)(v:Int):Bool:=(List.range ls.length).any fun s=>decide ((n:Int)<ls.getD s 0)&&codeM ls s/2^((ls.getD s 0).toNat-n)==v
theorem findM_some{ls:List Int}{n s:Nat}{v:Int}(h:findM ls n v=some s):ls[s]?=some (n:Int)∧codeM ls s=v:=by
 unfold findM at h
 have h1:=List.find?_some h
 have h2:=List.mem_range.1 (List.mem_of_find?_eq_some h)
 simp only[Bool.and_eq_true,beq_iff_eq] at h1
 exact⟨by rw[get_gD ls 0 h2,h1.1],h1.2⟩
theorem findM_none{ls:List Int}{n:Nat}{v:Int}(h:findM ls n v=none){s:Nat}(hs:ls[s]?=some (n:Int)):codeM ls s≠v:=fun hc=>by
 unfold findM at h
 rw[List.find?_eq_none] at h
 have:=h s (List.mem_range.2 (List.getElem?_eq_some_iff.1 hs).1)
 rw[gD_get hs,hc] at this
 simp at this
theorem findM_eq{ls:List Int}(ok:OkC ls){n s:Nat}{v:Int}(hn:0<n)(hs:ls[s]?=some (n:Int))(hc:codeM ls s=v):findM ls n v=some s:=by
 cases h:findM ls n v with
 |none=>exact absurd hc (findM_none h hs)
 |some t=>
  obtain⟨h1,h2⟩:=findM_some h
  by_cases he:t=s
  ·rw[he]
  ·have:=no_prefix ok he h1 hs hn (Nat.le_refl n)
   rw[Nat.sub_self,Int.pow_zero,Int.ediv_one] at this
   exact absurd (hc.trans h2.symm) this
theorem begM_true{ls:List Int}(hr: ∀x∈ls,0≤x∧x≤16){n:Nat}{v:Int}(h:begM ls n v=true): ∃s m:Nat,ls[s]?=some (m:Int)∧n<m∧codeM ls s/2^(m-n)=v:=by
 unfold begM at h
 rw[List.any_eq_true] at h
 obtain⟨s,h1,h2⟩:=h
 have h1:=List.mem_range.1 h1
 simp only[Bool.and_eq_true,decide_eq_true_eq,beq_iff_eq] at h2
 have hs:=get_gD ls 0 h1
 have:=hr _ (List.mem_of_getElem? hs)
 refine⟨s,(ls.getD s 0).toNat,by rw[hs];congr 1;omega,by omega,h2.2⟩
theorem begM_false{ls:List Int}{n:Nat}{v:Int}(h:begM ls n v=false){s m:Nat}(hs:ls[s]?=some (m:Int))(hm:n<m):codeM ls s/2^(m-n)≠v:=fun hc=>by
 unfold begM at h
 rw[List.any_eq_false] at h
 have:=h s (List.mem_range.2 (List.getElem?_eq_some_iff.1 hs).1)
 rw[gD_get hs] at this
 simp only[Int.toNat_natCast,hc,beq_self_eq_true,Bool.and_true,decide_eq_true_eq] at this
 omega
theorem begM_mk{ls:List Int}{n s m:Nat}{v:Int}(hs:ls[s]?=some (m:Int))(hm:n<m)(hc:codeM ls s/2^(m-n)=v):begM ls n v=true:=by
 cases h:begM ls n v with
 |true=>rfl
 |false=>exact absurd hc (begM_false h hs hm)
def symG(ls B:List Int):Nat→Nat→Int→Nat→Except Int (Nat×Nat)
 |0,_,_,_=> .error 21
 |f+1,n,v,at_=>match getM B 1 at_ with
  | .error e=> .error e
  | .ok (b,at')=>match findM ls (n+1) (2*v+b) with
   |some s=> .ok (s,at')
   |none=>if begM ls (n+1) (2*v+b) then symG ls B f (n+1) (2*v+b) at' else .error 21
def symM(ls B:List Int)(at_:Nat):Except Int (Nat×Nat):=symG ls B 17 0 0 at_
def lenB(s:Nat):Nat×Nat:=if s<265 then(s-254,0) else if s=285 then(258,0) else(3+(4+(s-257)%4)*2^((s-257)/4-1),(s-257)/4-1)
def dstB(s:Nat):Nat×Nat:=if s<4 then(1+s,0) else(1+(2+s%2)*2^(s/2-1),s/2-1)
def copyM(d:Nat):Nat→List Int→List Int
 |0,out=>out
 |n+1,out=>copyM d n (out++[out.getD (out.length-d) 0])
theorem copyM_len(d:Nat): ∀(n:Nat) (out:List Int),(copyM d n out).length=out.length+n
 |0,out=>rfl
 |n+1,out=>by rw[copyM,copyM_len d n,List.length_append,List.length_singleton];omega
def copiesM(B:List Int)(most:Int)(dl:List Int)(s at_:Nat)(out:List Int):Except Int (Nat×List Int):=
 if s>285 then .error 25 else
 match getM B (lenB s).2 at_ with
 | .error e=> .error e
 | .ok (x,at1)=>match symM dl B at1 with
  | .error e=> .error e
  | .ok (t,at2)=>if t>29 then .error 25 else match getM B (dstB t).2 at2 with
   | .error e=> .error e
   | .ok (y,at3)=>
    if (dstB t).1+y>out.length then .error 22 else if (lenB s).1+x>most-out.length then .error 24 else .ok (at3,copyM ((dstB t).1+y.toNat) ((lenB s).1+x.toNat) out)
def symsM(B:List Int)(most:Int)(ll dl:List Int):Nat→Nat→List Int→Except Int (Nat×List Int)
 |0,_,_=> .error 20
 |f+1,at_,out=>match symM ll B at_ with
  | .error e=> .error e
  | .ok (s,at1)=>if s=256 then .ok (at1,out) else if s>256 then(match copiesM B most dl s at1 out with
   | .error e=> .error e
   | .ok (at2,out2)=>symsM B most ll dl f at2 out2)
   else if (out.length:Int)≥most then .error 24 else symsM B most ll dl f at1 (out++[(s:Int)])
def symbolsM(B:List Int)(most:Int)(ll dl:List Int)(at_:Nat)(out:List Int):Except Int (Nat×List Int):=symsM B most ll dl (8*B.length+1) at_ out
def bytesM(B:List Int):Nat→Nat→List Int→Except Int (Nat×List Int)
 |0,at_,out=> .ok (at_,out)
 |n+1,at_,out=>match getM B 8 at_ with
  | .error e=> .error e
  | .ok (c,at1)=>bytesM B n at1 (out++[c])
def storedM(B:List Int)(most:Int)(at_:Nat)(out:List Int):Except Int (Nat×List Int):=
 match getM B 16 ((at_+7)/8*8) with
 | .error e=> .error e
 | .ok (n,at1)=>match getM B 16 at1 with
  | .error e=> .error e
  | .ok (m,at2)=>if m≠65535-n then .error 25 else if n>most-out.length then .error 24 else bytesM B n.toNat at2 out
def fixL:List Int:=List.replicate 144 8++List.replicate 112 9++List.replicate 24 7++List.replicate 8 8
def fixD:List Int:=List.replicate 32 5
def ordL:List Nat:=[16,17,18,0,8,7,9,6,10,5,11,4,12,3,13,2,14,1,15]
def firstM(B:List Int):List Nat→Nat→List Int→Except Int (Nat×List Int)
 |[],at_,fs=> .ok (at_,fs)
 |s::r,at_,fs=>match getM B 3 at_ with
  | .error e=> .error e
  | .ok (v,at1)=>firstM B r at1 (fs.set s v)
def rightM(ls:List Int)(single none_:Bool):Bool:=
 (decide (ls.length≤300)&&ls.all fun n=>decide (0≤n∧n≤16))&&(wtM ls==65536||(single&&wtM ls==32768&&ls.countP (fun x=>decide (x>0))==1)||(none_&&wtM ls==0))
def listM(B:List Int)(first:List Int)(total:Nat):Nat→Nat→List Int→Except Int (Nat×List Int)
 |0,_,_=> .error 20
 |f+1,at_,ls=>if ls.length≥total then .ok (at_,ls) else match symM first B at_ with
  | .error e=> .error e
  | .ok (s,at1)=>
   if s=16 then(match getM B 2 at1 with
    | .error e=> .error e
    | .ok (x,at2)=>match ls.getLast? with
     |none=> .error 21
     |some v=>if 3+x>(total:Int)-ls.length then .error 21 else listM B first total f at2 (ls++List.replicate (3+x).toNat v))
   else if s=17 then(match getM B 3 at1 with
    | .error e=> .error e
    | .ok (x,at2)=>if 3+x>(total:Int)-ls.length then .error 21 else listM B first total f at2 (ls++List.replicate (3+x).toNat 0))
   else if s=18 then(match getM B 7 at1 with
    | .error e=> .error e
    | .ok (x,at2)=>if 11+x>(total:Int)-ls.length then .error 21 else listM B first total f at2 (ls++List.replicate (11+x).toNat 0))
   else listM B first total f at1 (ls++[(s:Int)])
def tablesM(B:List Int)(at_:Nat):Except Int (Nat×List Int×List Int):=
 match getM B 5 at_ with
 | .error e=> .error e
 | .ok (hl,at1)=>match getM B 5 at1 with
  | .error e=> .error e
  | .ok (hd,at2)=>match getM B 4 at2 with
   | .error e=> .error e
   | .ok (hc,at3)=>if hl>29∨hd>29 then .error 25 else match firstM B (ordL.take (hc.toNat+4)) at3 (List.replicate 19 0) with
    | .error e=> .error e
    | .ok (at4,first)=>if rightM first false false=false then .error 21 else match listM B first (hl.toNat+hd.toNat+258) (8*B.length+2) at4 [] with
     | .error e=> .error e
     | .ok (at5,ls)=>if rightM (ls.take (hl.toNat+257)) true false=false∨rightM (ls.drop (hl.toNat+257)) true true=false then .error 21 else .ok (at5,ls.take (hl.toNat+257),ls.drop (hl.toNat+257))
abbrev TabT:=List Int→Nat→Except Int (Nat×List Int×List Int)
def blocksM(T:TabT)(B:List Int)(most:Int):Nat→Nat→List Int→Except Int (Nat×List Int)
 |0,_,_=> .error 20
 |f+1,at_,out=>match getM B 1 at_ with
  | .error e=> .error e
  | .ok (last,at1)=>match getM B 2 at1 with
   | .error e=> .error e
   | .ok (kind,at2)=>
    match (if kind=0 then storedM B most at2 out else if kind=1 then symbolsM B most fixL fixD at2 out else if kind=2 then(match T B at2 with
     | .error e=> .error e
     | .ok (at3,ll,dl)=>symbolsM B most ll dl at3 out) else .error 25) with
    | .error e=> .error e
    | .ok (at3,out3)=>if last=1 then .ok (at3,out3) else blocksM T B most f at3 out3
def inflM(T:TabT)(B:List Int)(most:Int):Except Int (List Int×Nat):=
 match blocksM T B (max most 0) (8*B.length+1) 0 [] with
 | .error e=> .error e
 | .ok (at_,out)=> .ok (out,(at_+7)/8)
def noT:TabT:=fun _ _=> .error 99
end Go.Proofs
namespace Go.Proofs
open Go.Sh
structure Tok where
 n:Nat
 d:Nat
 c:Int
def hashM(b:List Int)(a:Nat):Int:=(xorI .i64 (xorI .i64 (shlI .i64 (b.getD a 0) (8:Int)) (shlI .i64 (b.getD (a+1) 0) (4:Int))) (b.getD (a+2) 0))%4096
def preM(b:List Int)(p a:Nat):Nat→Nat→Nat
 |0,n=>n
 |f+1,n=>if a+n<b.length∧b.getD (p+n) 0=b.getD (a+n) 0 then preM b p a f (n+1) else n
def chainM(b A:List Int)(a:Nat)(eff:Int):Nat→Int→Int→Nat→Nat→Nat×Nat
 |0,_,_,L,D=>(L,D)
 |f+1,p,t,L,D=>if 0<p∧(a:Int)-(p-1)≤32768 then
  (if preM b (p-1).toNat a 258 0≥3∧preM b (p-1).toNat a 258 0>L then
   (if preM b (p-1).toNat a 258 0=258∨t+1≥8*eff then(preM b (p-1).toNat a 258 0,((a:Int)-(p-1)).toNat) else chainM b A a eff f (A.getD (p-1).toNat 0) (t+1) (preM b (p-1).toNat a 258 0) ((a:Int)-(p-1)).toNat)
   else if L=258∨(L>0∧t+1≥8*eff) then(L,D) else chainM b A a eff f (A.getD (p-1).toNat 0) (t+1) L D)
  else(L,D)
def bestM(b F A:List Int)(a:Nat)(eff:Int):Nat×Nat:=if a+3>b.length then(0,0) else chainM b A a eff (a+1) (F.getD (hashM b a).toNat 0) 0 0 0
def addF(b F:List Int)(a:Nat):List Int:=if a+3≤b.length then F.set (hashM b a).toNat ((a:Int)+1) else F
def addA(b F A:List Int)(a:Nat):List Int:=if a+3≤b.length then A.set a (F.getD (hashM b a).toNat 0) else A
def addsM(b:List Int):Nat→Nat→List Int→List Int→List Int×List Int
 |0,_,F,A=>(F,A)
 |n+1,a,F,A=>addsM b n (a+1) (addF b F a) (addA b F A a)
def findG(b:List Int)(eff:Int):Nat→Nat→List Int→List Int→List Tok
 |0,_,_,_=>[]
 |f+1,a,F,A=>if a<b.length then
  (
   if (bestM b F A a eff).1=0 then⟨0,0,b.getD a 0⟩::findG b eff f (a+1) (addF b F a) (addA b F A a)
   else⟨(bestM b F A a eff).1,(bestM b F A a eff).2,0⟩::findG b eff f (a+(bestM b F A a eff).1) (addsM b (bestM b F A a eff).1 a F A).1 (addsM b (bestM b F A a eff).1 a F A).2)
  else[]
def lzM(b:List Int)(eff:Int):List Tok:=
 if eff≤0 then b.map fun c=>⟨0,0,c⟩ else findG b (min eff 64) (b.length+1) 0 (List.replicate 4096 0) (List.replicate b.length 0)
theorem hashM_rng(b:List Int)(a:Nat):0≤hashM b a∧hashM b a<4096:=by unfold hashM;omega
def TokOk(out:List Int)(t:Tok):Prop:=(t.n=0∧t.d=0∧0≤t.c∧t.c<256)∨(3≤t.n∧t.n≤258∧1≤t.d∧t.d≤32768∧t.d≤out.length∧t.c=0)
def expT(out:List Int)(t:Tok):List Int:=if t.n=0 then out++[t.c] else copyM t.d t.n out
def Runs:List Int→List Tok→List Int→Prop
 |out,[],b=>out=b
 |out,t::r,b=>TokOk out t∧Runs (expT out t) r b
theorem expT_len(out:List Int)(t:Tok):(expT out t).length=out.length+max t.n 1:=by
 unfold expT
 split
 ·rename_i h;rw[h,List.length_append];rfl
 ·rw[copyM_len];omega
theorem Runs.len: ∀{out:List Int} {l:List Tok} {b:List Int},Runs out l b→out.length+l.length≤b.length
 |out,[],b,h=>by cases h;simp
 |out,t::r,b,h=>by
  have:=h.2.len
  rw[expT_len] at this
  simp only[List.length_cons]
  omega
theorem copy_take{b:List Int}{d:Nat}(hd:1≤d): ∀(n a:Nat),d≤a→a+n≤b.length→(∀k,k<n→b.getD (a-d+k) 0=b.getD (a+k) 0)→copyM d n (b.take a)=b.take (a+n)
 |0,a,_,_,_=>by rw[copyM];rfl
 |n+1,a,hda,hl,h=>by
  have hlen:(b.take a).length=a:=by rw[List.length_take];omega
  have e:b.take a++[(b.take a).getD ((b.take a).length-d) 0]=b.take (a+1):=by
   rw[hlen,List.take_add_one,List.getD_eq_getElem?_getD,List.getElem?_take_of_lt (by omega),←List.getD_eq_getElem?_getD]
   have h0:=h 0 (by omega)
   simp only[Nat.add_zero] at h0
   rw[h0,List.getD_eq_getElem?_getD,List.getElem?_eq_getElem (by omega)]
   simp
  rw[copyM,e,copy_take hd n (a+1) (by omega) (by omega) fun k hk=>by
   have:=h (k+1) (by omega)
   rw[show a+1-d+k=a-d+(k+1) from by omega,show a+1+k=a+(k+1) from by omega]
   exact this]
  congr 1
  omega
theorem preM_ok(b:List Int)(p a:Nat): ∀(f n:Nat),(∀k,k<n→b.getD (p+k) 0=b.getD (a+k) 0)→(n=0∨a+n≤b.length)→preM b p a f n≤n+f∧(preM b p a f n=0∨a+preM b p a f n≤b.length)∧ ∀k,k<preM b p a f n→b.getD (p+k) 0=b.getD (a+k) 0
 |0,n,h,hl=>by rw[preM];exact⟨by omega,hl,h⟩
 |f+1,n,h,hl=>by
  rw[preM]
  split
  ·rename_i hc
   obtain⟨h1,h2⟩:=preM_ok b p a f (n+1) (fun k hk=>by
    by_cases hkn:k<n
    ·exact h k hkn
    ·rw[show k=n from by omega];exact hc.2) (.inr (by omega))
   exact⟨by omega,h2⟩
  ·exact⟨by omega,hl,h⟩
structure Chains(b F A:List Int)(a:Nat):Prop where
 fl:F.length=4096
 al:A.length=b.length
 fr: ∀x∈F,0≤x∧x≤a
 ar: ∀(i:Nat) x,A[i]?=some x→0≤x∧x≤i
theorem getD_mem_or{l:List Int}(i:Nat):l.getD i 0∈l∨l.getD i 0=0:=by
 rw[List.getD_eq_getElem?_getD]
 cases h:l[i]? with
 |none=>right;rfl
 |some x=>left;exact List.mem_of_getElem? h
theorem Chains.fget{b F A:List Int}{a:Nat}(h:Chains b F A a)(i:Nat):0≤F.getD i 0∧F.getD i 0≤a:=by
 rcases getD_mem_or (l:=F) i with h1|h1
 ·exact h.fr _ h1
 ·rw[h1];omega
theorem Chains.aget{b F A:List Int}{a:Nat}(h:Chains b F A a)(i:Nat):0≤A.getD i 0∧A.getD i 0≤i:=by
 rw[List.getD_eq_getElem?_getD]
 cases h1:A[i]? with
 |none=>simp
 |some x=>exact h.ar i x h1
theorem Chains.add{b F A:List Int}{a:Nat}(h:Chains b F A a):Chains b (addF b F a) (addA b F A a) (a+1):=by
 have hf:=h.fget (hashM b a).toNat
 unfold addF addA
 split
 ·refine⟨by rw[List.length_set];exact h.fl,by rw[List.length_set];exact h.al,fun x hx=>?_,fun i x hx=>?_⟩
  ·rcases List.mem_or_eq_of_mem_set hx with hx|rfl
   ·have:=h.fr x hx;omega
   ·omega
  ·rw[List.getElem?_set] at hx
   split at hx
   ·split at hx
    ·cases hx;omega
    ·cases hx
   ·exact h.ar i x hx
 ·exact⟨h.fl,h.al,fun x hx=>by have:=h.fr x hx;omega,h.ar⟩
theorem Chains.adds{b:List Int}: ∀(n:Nat) {a:Nat} {F A:List Int},Chains b F A a→Chains b (addsM b n a F A).1 (addsM b n a F A).2 (a+n)
 |0,a,F,A,h=>h
 |n+1,a,F,A,h=>by
  have:=Chains.adds n h.add
  rw[show a+1+n=a+(n+1) from by omega] at this
  exact this
def CopyOk(b:List Int)(a L D:Nat):Prop:=L=0∨(3≤L∧L≤258∧1≤D∧D≤32768∧D≤a∧a+L≤b.length∧ ∀k,k<L→b.getD (a-D+k) 0=b.getD (a+k) 0)
theorem chain_ok{b F A:List Int}{a:Nat}(h:Chains b F A a)(eff:Int): ∀(f:Nat) (p t:Int) (L D:Nat),p≤a→CopyOk b a L D→CopyOk b a (chainM b A a eff f p t L D).1 (chainM b A a eff f p t L D).2
 |0,p,t,L,D,hp,hc=>hc
 |f+1,p,t,L,D,hp,hc=>by
  rw[chainM]
  have hA:=h.aget (p-1).toNat
  split
  ·rename_i h1
   obtain⟨q1,q2,q3⟩:=preM_ok b (p-1).toNat a 258 0 (by omega) (.inl rfl)
   generalize preM b (p-1).toNat a 258 0=n at*
   split
   ·rename_i h2
    have hn:CopyOk b a n ((a:Int)-(p-1)).toNat:= .inr ⟨h2.1,by omega,by omega,by omega,by omega,by omega,fun k hk=>by
     rw[show a-((a:Int)-(p-1)).toNat=(p-1).toNat from by omega];exact q3 k hk⟩
    split
    ·exact hn
    ·exact chain_ok h eff f _ _ _ _ (by omega) hn
   ·split
    ·exact hc
    ·exact chain_ok h eff f _ _ _ _ (by omega) hc
  ·exact hc
theorem best_ok{b F A:List Int}{a:Nat}(h:Chains b F A a)(eff:Int):CopyOk b a (bestM b F A a eff).1 (bestM b F A a eff).2:=by
 unfold bestM
 split
 ·exact .inl rfl
 ·exact chain_ok h eff _ _ _ _ _ (h.fget _).2 (.inl rfl)
theorem findG_ok{b:List Int}(hb: ∀x∈b,0≤x∧x<256)(eff:Int): ∀(f a:Nat) (F A:List Int),Chains b F A a→a≤b.length→b.length<a+f→Runs (b.take a) (findG b eff f a F A) b
 |0,a,F,A,h,ha,hf=>by omega
 |f+1,a,F,A,h,ha,hf=>by
  rw[findG]
  have hbest:=best_ok h eff
  generalize bestM b F A a eff=N at*
  split
  ·rename_i hlt
   have hlen:(b.take a).length=a:=by rw[List.length_take];omega
   split
   ·refine⟨.inl ⟨rfl,rfl,?_⟩,?_⟩
    ·rw[List.getD_eq_getElem?_getD,List.getElem?_eq_getElem hlt]
     exact hb _ (List.getElem_mem hlt)
    ·have e:expT (b.take a) ⟨0,0,b.getD a 0⟩=b.take (a+1):=by
      rw[List.take_add_one,List.getD_eq_getElem?_getD,List.getElem?_eq_getElem hlt];rfl
     rw[e]
     exact findG_ok hb eff f _ _ _ h.add (by omega) (by omega)
   ·rename_i hn
    rcases hbest with h0|⟨h1,h2,h3,h4,h5,h6,h7⟩
    ·exact absurd h0 hn
    ·refine⟨.inr ⟨h1,h2,h3,h4,by rw[hlen];exact h5,rfl⟩,?_⟩
     have e:expT (b.take a) ⟨N.1,N.2,0⟩=b.take (a+N.1):=by
      unfold expT
      rw[if_neg hn]
      exact copy_take h3 _ _ h5 h6 h7
     rw[e]
     exact findG_ok hb eff f _ _ _ (h.adds N.1) h6 (by omega)
  ·show b.take a=b
   exact List.take_of_length_le (by omega)
theorem lits_run: ∀(l out:List Int),(∀x∈l,0≤x∧x<256)→Runs out (l.map fun c=>⟨0,0,c⟩) (out++l)
 |[],out,_=>by simp[Runs]
 |x::l,out,h=>by
  refine⟨.inl ⟨rfl,rfl,h x List.mem_cons_self⟩,?_⟩
  have:=lits_run l (out++[x]) fun y hy=>h y (List.mem_cons_of_mem _ hy)
  rw[List.append_assoc] at this
  exact this
theorem chains_zero(b:List Int):Chains b (List.replicate 4096 0) (List.replicate b.length 0) 0:=
 ⟨List.length_replicate,List.length_replicate,fun x hx=>by rw[(List.mem_replicate.1 hx).2];omega,fun i x hx=>by
  rw[(List.mem_replicate.1 (List.mem_of_getElem? hx)).2];omega⟩
theorem lz_ok{b:List Int}(hb: ∀x∈b,0≤x∧x<256)(eff:Int):Runs [] (lzM b eff) b:=by
 unfold lzM
 split
 ·exact lits_run b [] hb
 ·exact findG_ok hb _ _ 0 _ _ (chains_zero b) (by omega) (by omega)
end Go.Proofs
namespace Go.Proofs
open Go.Sh
def Has(B:List Int)(a:Nat)(ws:List Int):Prop:=a+ws.length≤8*B.length∧ ∀i:Nat,i<ws.length→bitB false B (a+i)=ws.getD i 0
theorem Has.of{ws B:List Int}(h:WOk false ws B):Has B 0 ws:=⟨by have:=h.len;omega,fun i hi=>by rw[Nat.zero_add];exact h.bit i⟩
theorem Has.app{B x y:List Int}{a:Nat}(h:Has B a (x++y)):Has B a x∧Has B (a+x.length) y:=by
 obtain⟨h1,h2⟩:=h
 rw[List.length_append] at h1
 refine⟨⟨by omega,fun i hi=>?_⟩,⟨by omega,fun i hi=>?_⟩⟩
 ·rw[h2 i (by rw[List.length_append];omega),gD_left _ _ _ _ hi]
 ·rw[Nat.add_assoc,h2 (x.length+i) (by rw[List.length_append];omega),gD_right _ _ _ _ (by omega),Nat.add_sub_cancel_left]
theorem bitsOf_get{hi:Bool}{v:Int}{n k:Nat}(hk:k<n):(bitsOf hi v n).getD k 0=v/2^(if hi then n-1-k else k)%2:=by
 apply gD_get
 simp[bitsOf,hk]
theorem numB_of{B:List Int}{a m:Nat}: ∀{n:Nat},(∀k,k<n→bitB false B (a+k)=(m:Int)/2^k%2)→numB false B a n=((m%2^n:Nat):Int)
 |0,_=>by simp[numB,Nat.mod_one]
 |n+1,h=>by
  rw[numB,numB_of (fun k hk=>h k (by omega)),h n (by omega),Nat.pow_succ,Nat.mod_mul,if_neg (by decide),←pow_cast]
  rw[←Int.natCast_ediv]
  have:((m/2^n:Nat):Int)%2=((m/2^n%2:Nat):Int):=by omega
  rw[this,←Int.natCast_mul,Nat.mul_comm]
  omega
theorem getM_has{B:List Int}{a n:Nat}{v:Int}(h:Has B a (bitsOf false v n))(h0:0≤v)(h1:v<2^n):getM B n a= .ok (v,a+n):=by
 obtain⟨m,rfl⟩:=Int.eq_ofNat_of_zero_le h0
 unfold getM
 have hl:=h.1
 rw[bitsOf_len] at hl
 rw[if_pos hl,numB_of (m:=m) fun k hk=>by
  rw[h.2 k (by rw[bitsOf_len];exact hk),bitsOf_get hk];rfl]
 rw[←pow_cast] at h1
 rw[Nat.mod_eq_of_lt (by omega)]
def symBits(ls:List Int)(s:Nat):List Int:=bitsOf true (codeM ls s) (ls.getD s 0).toNat
theorem symBits_len(ls:List Int)(s:Nat):(symBits ls s).length=(ls.getD s 0).toNat:=bitsOf_len _ _ _
theorem getM_bit{B:List Int}{a:Nat}{ws:List Int}(h:Has B a ws){j:Nat}(hj:j<ws.length)(hb:ws.getD j 0=0∨ws.getD j 0=1):getM B 1 (a+j)= .ok (ws.getD j 0,a+j+1):=by
 unfold getM
 have:=h.1
 rw[if_pos (by omega),numB,numB,if_neg (by decide),Nat.add_zero,h.2 j hj]
 simp
theorem symG_has{ls B:List Int}(ok:OkC ls){a s m:Nat}(hs:ls[s]?=some (m:Int))(h:Has B a (bitsOf true (codeM ls s) m)): ∀(d j f:Nat),j+d=m→0<d→d≤f→symG ls B f j (codeM ls s/2^(m-j)) (a+j)= .ok (s,a+m)
 |0,j,f,hj,h0,hf=>by omega
 |d+1,j,f,hj,h0,hf=>by
  obtain⟨f,rfl⟩: ∃g,f=g+1:=⟨f-1,by omega⟩
  have hg:(bitsOf true (codeM ls s) m).getD j 0=codeM ls s/2^(m-1-j)%2:=by rw[bitsOf_get (by omega),if_pos rfl]
  have hb:getM B 1 (a+j)= .ok (codeM ls s/2^(m-1-j)%2,a+j+1):=by
   rw[←hg]
   exact getM_bit h (by rw[bitsOf_len];omega) (by rw[hg];omega)
  have hv:2*(codeM ls s/2^(m-j))+codeM ls s/2^(m-1-j)%2=codeM ls s/2^(m-1-j):=by
   have:=div_bit (codeM ls s) (m-1-j)
   rwa [show m-1-j+1=m-j from by omega] at this
  unfold symG
  rw[hb]
  simp only
  rw[hv]
  by_cases hd:d=0
  ·subst hd
   have e:m-1-j=0:=by omega
   have hm:j+1=m:=by omega
   rw[e,Int.pow_zero,Int.ediv_one,hm,findM_eq ok (by omega) hs rfl]
   simp only
   congr 2
   omega
  ·have hf':findM ls (j+1) (codeM ls s/2^(m-1-j))=none:=by
    cases hf2:findM ls (j+1) (codeM ls s/2^(m-1-j)) with
    |none=>rfl
    |some t=>
     obtain⟨h1,h2⟩:=findM_some hf2
     have hts:t≠s:=fun he=>by subst he;rw[hs] at h1;have:=Option.some.inj h1;omega
     have:=no_prefix ok hts h1 hs (by omega) (by omega)
     rw[show m-(j+1)=m-1-j from by omega] at this
     exact absurd h2.symm this
   have hbg:begM ls (j+1) (codeM ls s/2^(m-1-j))=true:=begM_mk hs (by omega) (by rw[show m-(j+1)=m-1-j from by omega])
   rw[hf',hbg]
   simp only[if_true]
   have:=symG_has ok hs h d (j+1) f (by omega) (by omega) (by omega)
   rw[show m-(j+1)=m-1-j from by omega] at this
   exact this
theorem symM_has{ls B:List Int}(ok:OkC ls){a s:Nat}(hs:0<ls.getD s 0)(h:Has B a (symBits ls s)):symM ls B a= .ok (s,a+(ls.getD s 0).toNat):=by
 have hl:s<ls.length:=by
  rcases Nat.lt_or_ge s ls.length with h|h
  ·exact h
  ·rw[gD_none _ _ h] at hs;omega
 have hg:=get_gD ls 0 hl
 have hr:=ok.w.rng _ (List.mem_of_getElem? hg)
 have hs':ls[s]?=some ((ls.getD s 0).toNat:Int):=by rw[hg];congr 1;omega
 have hc:=code_rng ok hs' (by omega)
 have:=symG_has ok hs' h (ls.getD s 0).toNat 0 17 (by omega) (by omega) (by omega)
 rw[Nat.sub_zero,Int.ediv_eq_zero_of_lt hc.1 hc.2] at this
 exact this
end Go.Proofs
namespace Go.Proofs
open Go.Sh
def byteBits(p:List Int):List Int:=p.flatMap (bitsOf false · 8)
theorem byteBits_len(p:List Int):(byteBits p).length=8*p.length:=by
 induction p with
 |nil=>rfl
 |cons x p ih=>simp only[byteBits,List.flatMap_cons,List.length_append,bitsOf_len,List.length_cons] at*;omega
theorem byteBits_snoc(p:List Int)(x:Int):byteBits (p++[x])=byteBits p++bitsOf false x 8:=by simp[byteBits]
theorem bytesM_has{B:List Int}: ∀{p:List Int} {a:Nat} {out:List Int},Has B a (byteBits p)→(∀x∈p,0≤x∧x<256)→bytesM B p.length a out= .ok (a+8*p.length,out++p)
 |[],a,out,_,_=>by simp[bytesM]
 |x::p,a,out,h,hr=>by
  have hx:=hr x (List.mem_cons_self ..)
  unfold byteBits at h
  rw[List.flatMap_cons] at h
  obtain⟨h1,h2⟩:=h.app
  rw[bitsOf_len] at h2
  rw[List.length_cons,bytesM,getM_has h1 hx.1 (by
   have:(2:Int)^8=256:=by decide
   omega)]
  simp only
  rw[bytesM_has (p:=p) h2 fun y hy=>hr y (List.mem_cons_of_mem _ hy)]
  simp only[List.append_assoc,List.singleton_append]
  congr 2;omega
def partW(ws:List Int)(last v:Int)(p:List Int):List Int:=fillM (ws++bitsOf false last 1++bitsOf false 0 2) v++bitsOf false p.length 16++bitsOf false (65535-p.length) 16++byteBits p
theorem partW_len(ws:List Int)(last v:Int)(p:List Int):(partW ws last v p).length=(ws.length+10)/8*8+32+8*p.length:=by
 unfold partW fillM
 simp only[List.length_append,bitsOf_len,byteBits_len,List.length_replicate]
 omega
theorem stored_has{B ws p out:List Int}{last v:Int}{most:Nat}(h:Has B 0 (partW ws last v p))(hp: ∀x∈p,0≤x∧x<256)(hl:p.length≤65535)(hl01:last=0∨last=1)(hm:out.length+p.length≤most):
 getM B 1 ws.length= .ok (last,ws.length+1)∧getM B 2 (ws.length+1)= .ok (0,ws.length+3)∧storedM B most (ws.length+3) out= .ok ((partW ws last v p).length,out++p):=by
 rw[partW_len]
 unfold partW fillM at h
 simp only[List.append_assoc] at h
 obtain⟨_,h⟩:=h.app
 obtain⟨h1,h⟩:=h.app
 obtain⟨h2,h⟩:=h.app
 obtain⟨_,h⟩:=h.app
 obtain⟨h3,h⟩:=h.app
 obtain⟨h4,h5⟩:=h.app
 simp only[bitsOf_len,List.length_append,List.length_replicate,Nat.zero_add] at h1 h2 h3 h4 h5
 have e1:(2:Int)^1=2:=by decide
 have e2:(2:Int)^2=4:=by decide
 have e16:(2:Int)^16=65536:=by decide
 refine⟨getM_has h1 (by omega) (by omega),getM_has h2 (by omega) (by omega),?_⟩
 have ea:(ws.length+3+7)/8*8=(ws.length+10)/8*8:=by omega
 have eb:ws.length+1+2+(8-(ws.length+(1+2))%8)%8=(ws.length+10)/8*8:=by omega
 rw[eb] at h3 h4 h5
 unfold storedM
 rw[ea,getM_has h3 (by omega) (by omega)]
 simp only
 rw[getM_has h4 (by omega) (by omega)]
 simp only
 rw[if_neg (by simp),if_neg (by omega),Int.toNat_natCast,bytesM_has h5 hp]
end Go.Proofs
namespace Go.Proofs
open Go.Sh
variable {H0 H:Heap} {σ:List Rs} {R:Value→Heap→Prop}
def decR(d:Nat)(ls:List Int)(P:List (Nat×Int))(F:List Int):Rs:=
 .ex fun(x:Option Addr×Nat)=> .pu (OkC ls∧P.length≤5000∧Trie ls (· <ls.length) (· <ls.length) P F) (.star (.cell d #[.slice x.1 P.length x.2] 154) (.sl x.1 P.length x.2 155 2 (ints F)))
theorem decR_use{d:Nat}{ls F:List Int}{P:List (Nat×Int)}(hs:St H0 H σ){j:Nat}(hj:σ[j]?=some (decR d ls P F)): ∃q k,OkC ls∧P.length≤5000∧Trie ls (· <ls.length) (· <ls.length) P F∧H[d]?=some (.cells #[.slice q P.length k] 154)∧RS H q P.length 155 2 (ints F):=by
 obtain⟨⟨q,k⟩,hs⟩:=(hs.front j hj).unex
 obtain⟨⟨h1,h2,h3⟩,hs⟩:=hs.fact
 have hs:=hs.cut
 exact⟨q,k,h1,h2,h3,hs.block 0 rfl,hs.rs 1 rfl⟩
theorem newDecR{p:Option Addr}{l c:Nat}{ls:List Int}(h:IS H p l (ints ls))(hbad: ¬OkC ls→R (.tuple #[.pointer none,.bool false]) H)
 (hgood:OkC ls→ ∀H' b P F,St H H' [decR b ls P F]→R (.tuple #[.pointer (some ⟨b,0,none⟩),.bool true]) H'):CallsH Tryz.prog 74 #[.slice p l c] H R:=
 newDec h hbad fun ok H' b q L k P F hb hd fs hP hL t e=>hgood ok H' b P F (by
  subst hP
  have hs:St H H' [.sl q P.length k 155 2 (ints F)]:=(St.nil H).newSl e fs
  have hs2:St H H' [.cell b #[.slice q P.length k] 154,.sl q P.length k 155 2 (ints F)]:=by
   obtain⟨he,fps,hl,hn,hbb⟩:=hs
   match fps,hl with
   |fp::[],hl=>
    refine⟨he,[b]::fp::[],⟨⟨rfl,hd⟩,hl⟩,?_,?_⟩
    ·simp only[List.flatten_cons,List.flatten_nil,List.append_nil,List.singleton_append,List.nodup_cons] at hn ⊢
     refine⟨fun hm=>?_,hn⟩
     rcases hl.1.2 with ⟨_,h2⟩|⟨blk,h1,h2⟩
     ·rw[h2] at hm;cases hm
     ·rw[h2,List.mem_singleton] at hm
      subst hm
      rcases hl.1.1.at_ with ⟨h3,_⟩|⟨blk',cs,h3,_,h4,_⟩
      ·rw[h1] at h3;cases h3
      ·rw[h1] at h3;cases h3;rw[hd] at h4;cases h4
    ·intro x hx
     simp only[List.flatten_cons,List.flatten_nil,List.append_nil,List.singleton_append,List.mem_cons] at hx hbb
     rcases hx with rfl|hx
     ·exact hb
     ·exact hbb x hx
  exact St.inex (f:=fun(x:Option Addr×Nat)=> .pu (OkC ls∧P.length≤5000∧Trie ls (· <ls.length) (· <ls.length) P F) (.star (.cell b #[.slice x.1 P.length x.2] 154) (.sl x.1 P.length x.2 155 2 (ints F)))) (q,k) (St.with ⟨ok,hL,t⟩ hs2.cat))
def flR(f:Nat)(B:List Int)(a most:Nat)(out:List Int)(e:Int):Rs:=
 .ex fun(x:Nat×Option Addr×Nat)=> .pu (out.length≤most∧most≤1000000000∧ ∀y∈out,0≤y∧y<256)
  (.star (.star (rdR x.1 B a false) (.sl x.2.1 out.length x.2.2 5 1 (kints .u8 out))) (.cell f #[.pointer (some ⟨x.1,0,none⟩),.slice x.2.1 out.length x.2.2,.int .i64 most,.int .i64 e] 110))
theorem flR_op{f a most:Nat}{B out:List Int}{e:Int}(hs:St H0 H (flR f B a most out e::σ)): ∃rb p c,out.length≤most∧most≤1000000000∧(∀y∈out,0≤y∧y<256)∧
 St H0 H (rdR rb B a false:: .sl p out.length c 5 1 (kints .u8 out):: .cell f #[.pointer (some ⟨rb,0,none⟩),.slice p out.length c,.int .i64 most,.int .i64 e] 110::σ):=by
 obtain⟨⟨rb,p,c⟩,hs⟩:=hs.unex
 obtain⟨⟨h1,h2,h3⟩,hs⟩:=hs.fact
 exact⟨rb,p,c,h1,h2,h3,hs.cut.cut⟩
theorem flR_mk{f a most rb c:Nat}{p:Option Addr}{B out:List Int}{e:Int}(h1:out.length≤most)(h2:most≤1000000000)(h3: ∀y∈out,0≤y∧y<256)
 (hs:St H0 H (rdR rb B a false:: .sl p out.length c 5 1 (kints .u8 out):: .cell f #[.pointer (some ⟨rb,0,none⟩),.slice p out.length c,.int .i64 most,.int .i64 e] 110::σ)):St H0 H (flR f B a most out e::σ):=
 St.inex (f:=fun(x:Nat×Option Addr×Nat)=> .pu (out.length≤most∧most≤1000000000∧ ∀y∈out,0≤y∧y<256)
  (.star (.star (rdR x.1 B a false) (.sl x.2.1 out.length x.2.2 5 1 (kints .u8 out))) (.cell f #[.pointer (some ⟨x.1,0,none⟩),.slice x.2.1 out.length x.2.2,.int .i64 most,.int .i64 e] 110))) (rb,p,c) (St.with ⟨h1,h2,h3⟩ hs.cat.cat)
section
variable {f a most:Nat} {B out:List Int} {e:Int}
theorem flR_rd(hs:St H0 H (flR f B a most out e::σ)):a≤8*B.length∧B.length≤1000000000∧ ∀x∈B,0≤x∧x<256:=by
 obtain⟨rb,p,c,_,_,_,hs⟩:=flR_op hs
 obtain⟨_,_,h1,h2,h3,_⟩:=rdR_op hs
 exact⟨h1,h2,h3⟩
theorem flR_e(hs:St H0 H (flR f B a most out e::σ)):cell H ⟨f,3,none⟩=some (.int .i64 e):=by
 obtain⟨rb,p,c,_,_,_,hs⟩:=flR_op hs
 exact hs.get 2 (j:=3) rfl rfl
abbrev flO(rb f:Nat)(p:Option Addr)(c:Nat)(B:List Int)(a most:Nat)(out:List Int)(e:Int):List Rs:=
 [rdR rb B a false,.sl p out.length c 5 1 (kints .u8 out),.cell f #[.pointer (some ⟨rb,0,none⟩),.slice p out.length c,.int .i64 most,.int .i64 e] 110]
theorem failO{rb c:Nat}{p:Option Addr}(hs:St H0 H (flO rb f p c B a most out e++σ)){k:Int}(hR: ∀H',St H0 H' (flO rb f p c B a most out (if e=0 then k else e)++σ)→R (.tuple #[]) H'):CallsH Tryz.prog 77 #[.pointer (some ⟨f,0,none⟩),.int .i64 k] H R:=by
 refine Tryz.s77 ⟨_,rfl,e,hs.get 2 (j:=3) rfl rfl,br_eq (fun h=>⟨_,rfl,?_⟩) (fun h=>?_)⟩
 ·refine hs.put 2 (j:=3) rfl (by simp) rfl fun H' hs2=>hR H' ?_
  rw[if_pos h];exact hs2
 ·rw[if_neg h] at hR;exact hR H hs
theorem c77(hs:St H0 H (flR f B a most out e::σ)){k:Int}(hR: ∀H',St H0 H' (flR f B a most out (if e=0 then k else e)::σ)→R (.tuple #[]) H'):CallsH Tryz.prog 77 #[.pointer (some ⟨f,0,none⟩),.int .i64 k] H R:=by
 obtain⟨rb,p,c,h1,h2,h3,hs'⟩:=flR_op hs
 exact failO hs' fun H' hs2=>hR H' (flR_mk h1 h2 h3 hs2)
theorem getO{rb c:Nat}{p:Option Addr}(hs:St H0 H (flO rb f p c B a most out e++σ)){n:Int}(hn:0≤n∧n≤24)
 (hbad:8*B.length<a+n.toNat→ ∀H',St H0 H' (flO rb f p c B a most out (if e=0 then 20 else e)++σ)→R (.int .i64 0) H')
 (hR:a+n.toNat≤8*B.length→ ∀H',St H0 H' (flO rb f p c B (a+n.toNat) most out e++σ)→R (.int .i64 (numB false B a n.toNat)) H'):CallsH Tryz.prog 72 #[.pointer (some ⟨f,0,none⟩),.int .i64 n] H R:=by
 refine Tryz.s72 ⟨_,rfl,_,hs.get 2 (j:=0) rfl rfl,c100 hs (i:=0) rfl (fun hb=>⟨_,_,rfl,br_t rfl ?_⟩) (fun hg H' hs2=>⟨_,_,rfl,br_f rfl ?_⟩)⟩
 ·exact failO hs fun H' hs3=>⟨rfl,hbad (by omega) H' hs3⟩
 ·exact hR (by omega) H' hs2
theorem c72(hs:St H0 H (flR f B a most out e::σ)){n:Int}(hn:0≤n∧n≤24)
 (hbad:8*B.length<a+n.toNat→ ∀H',St H0 H' (flR f B a most out (if e=0 then 20 else e)::σ)→R (.int .i64 0) H')
 (hR:a+n.toNat≤8*B.length→ ∀H',St H0 H' (flR f B (a+n.toNat) most out e::σ)→R (.int .i64 (numB false B a n.toNat)) H'):CallsH Tryz.prog 72 #[.pointer (some ⟨f,0,none⟩),.int .i64 n] H R:=by
 obtain⟨rb,p,c,h1,h2,h3,hs'⟩:=flR_op hs
 exact getO hs' hn (fun hb H' hs2=>hbad hb H' (flR_mk h1 h2 h3 hs2)) (fun hg H' hs2=>hR hg H' (flR_mk h1 h2 h3 hs2))
theorem symG_adv{ls:List Int}: ∀(g n:Nat) (v:Int) (a:Nat) {s a':Nat},symG ls B g n v a= .ok (s,a')→a<a'∧a'≤8*B.length∧s<ls.length
 |0,_,_,_,_,_,h=>by cases h
 |g+1,n,v,a,s,a',h=>by
  unfold symG getM at h
  split at h
  ·cases h
  ·rename_i b at' hg
   split at hg
   ·cases hg
    split at h
    ·rename_i t ht
     cases h
     have:=(List.getElem?_eq_some_iff.1 (findM_some ht).1).1
     exact⟨by omega,by omega,this⟩
    ·split at h
     ·obtain⟨h1,h2⟩:=symG_adv g _ _ _ h
      exact⟨by omega,h2⟩
     ·cases h
   ·cases hg
theorem symM_adv{ls:List Int}{s a':Nat}(h:symM ls B a= .ok (s,a')):a<a'∧a'≤8*B.length∧s<ls.length:=symG_adv _ _ _ _ h
theorem symbol_e(hs:St H0 H (flR f B a most out e::σ))(he:e≠0){d:Option Addr}(hR: ∀H' a',St H0 H' (flR f B a' most out e::σ)→R (.int .i64 0) H'):
 CallsH Tryz.prog 102 #[.pointer (some ⟨f,0,none⟩),.pointer d] H R:=by
 refine Tryz.s102 ?_
 unfold Tryz.S102
 intro X hX
 refine hX _ H (c72 hs (by omega) (fun _ H' hs=>⟨_,rfl,_,rfl,e,?_,br_ne (fun _=>?_) (fun h=>absurd h he)⟩) (fun _ H' hs=>⟨_,rfl,_,rfl,e,flR_e hs,br_ne (fun _=>hR H' _ hs) (fun h=>absurd h he)⟩))
 ·rw[if_neg he] at hs;exact flR_e hs
 ·rw[if_neg he] at hs;exact hR H' _ hs
theorem c102(hs:St H0 H (flR f B a most out 0::σ)){j d:Nat}{ls F:List Int}{P:List (Nat×Int)}(hj:σ[j]?=some (decR d ls P F))
 (hbad: ∀k,k≠0→symM ls B a= .error k→ ∀H' a',St H0 H' (flR f B a' most out k::σ)→R (.int .i64 0) H')
 (hR: ∀s a',symM ls B a= .ok (s,a')→ ∀H',St H0 H' (flR f B a' most out 0::σ)→R (.int .i64 (s:Nat)) H'):
 CallsH Tryz.prog 102 #[.pointer (some ⟨f,0,none⟩),.pointer (some ⟨d,0,none⟩)] H R:=by
 refine Tryz.s102 ?_
 unfold Tryz.S102
 intro X hX
 obtain⟨_,_,ok,hL,t,_,_⟩:=decR_use hs (j:=j+1) (by simpa using hj)
 have loop: ∀(g:Nat) (st n:Nat) (v:Int) (a1:Nat) (H1:Heap),17-n≤g→n≤16→P[st]?=some (n,v)→symG ls B (17-n) n v a1=symM ls B a→St H0 H1 (flR f B a1 most out 0::σ)→X [.int .i64 st] H1:=by
  intro g
  induction g with
  |zero=>intro st n v a1 H1 h1 h2;omega
  |succ g ih=>
   intro st n v a1 H1 hg hn hst heq hs1
   have h17:17-n=16-n+1:=by omega
   rw[h17,symG] at heq
   refine hX _ H1 (c72 hs1 (by omega) (fun hb H2 hs2=>?_) (fun hb H2 hs2=>?_))
   ·rw[if_pos rfl] at hs2
    have:getM B 1 a1= .error 20:=by unfold getM;rw[if_neg (by simp at hb;omega)]
    rw[this] at heq
    exact⟨_,rfl,_,rfl,_,flR_e hs2,br_t rfl (hbad 20 (by decide) heq.symm H2 _ hs2)⟩
   ·simp only[Int.toNat_one] at hs2 hb ⊢
    have hg1:getM B 1 a1= .ok (numB false B a1 1,a1+1):=by unfold getM;rw[if_pos hb]
    have hb01:numB false B a1 1%2=numB false B a1 1:=by have:=numB_rng false B a1 1;omega
    rw[hg1] at heq
    simp only at heq
    refine⟨_,rfl,_,rfl,_,flR_e hs2,br_f rfl ?_⟩
    obtain⟨q,k,_,_,_,hd,hrs⟩:=decR_use hs2 (j:=j+1) (by simpa using hj)
    refine c123 hd hrs (t.rng2 rfl hL ok.w.len) (by omega) _ _ ⟨_,_,rfl,?_⟩
    generalize hbit:numB false B a1 1=b at*
    cases hf:findM ls (n+1) (2*v+b) with
    |some s=>
     obtain⟨f1,f2⟩:=findM_some hf
     have hst2:=step_sym ok rfl t (bit:=b) hst f1 (by rw[hb01];exact f2)
     show br (decide ((stepM F P.length (st:Int) b).1<0)) _ _
     rw[hf] at heq
     rw[hst2]
     exact br_n (show ¬((0:Int)<0) by decide) (br_n (by show ¬((s:Int)<0);omega) (hR s _ heq.symm H2 hs2))
    |none=>
     rw[hf] at heq
     simp only at heq
     cases hbg:begM ls (n+1) (2*v+b) with
     |true=>
      obtain⟨s,m,g1,g2,g3⟩:=begM_true ok.w.rng hbg
      obtain⟨i,i0,hst2,hp⟩:=step_on ok rfl t (bit:=b) hst g1 g2 (by rw[hb01];exact g3)
      rw[hb01] at hp
      rw[hbg] at heq
      simp only[if_true] at heq
      rw[hst2]
      have hm:=ok.w.rng _ (List.mem_of_getElem? g1)
      refine br_n (by show ¬((i:Int)<0);omega) (br_y (show(-1:Int)<0 by decide) (ih i (n+1) _ _ H2 (by omega) (by omega) hp ?_ hs2))
      rw[show 17-(n+1)=16-n from by omega]
      exact heq
     |false=>
      rw[hbg] at heq
      simp only[Bool.false_eq_true,if_false] at heq
      have hst2:=step_off (bit:=b) rfl t hst (fun s h1 h2=>findM_none hf h1 (by rw[hb01] at h2;exact h2)) (fun s m h1 h2 h3=>begM_false hbg h1 h2 (by rw[hb01] at h3;exact h3))
      rw[hst2]
      refine br_y (by decide) (c77 hs2 fun H3 hs3=>⟨rfl,?_⟩)
      rw[if_pos rfl] at hs3
      exact hbad 21 (by decide) heq.symm H3 _ hs3
 exact loop 17 0 0 0 a H (by omega) (by omega) t.root rfl hs
end
end Go.Proofs
namespace Go.Proofs
open Go.Sh
variable {H0 H:Heap} {σ:List Rs} {R:Value→Heap→Prop}
theorem lenK: ∀x:Fin 29,(IntKind.wrap .i64 (((257+x.val:Nat):Int)-257)<8→IntKind.wrap .i64 (3+IntKind.wrap .i64 (((257+x.val:Nat):Int)-257))=((lenB (257+x.val)).1:Int)∧(0:Int)=((lenB (257+x.val)).2:Int))∧
 (¬IntKind.wrap .i64 (((257+x.val:Nat):Int)-257)<8→IntKind.wrap .i64 (((257+x.val:Nat):Int)-257)=28→(258:Int)=((lenB (257+x.val)).1:Int)∧(0:Int)=((lenB (257+x.val)).2:Int))∧
 (¬IntKind.wrap .i64 (((257+x.val:Nat):Int)-257)<8→IntKind.wrap .i64 (((257+x.val:Nat):Int)-257)≠28→0≤(IntKind.wrap .i64 ((IntKind.wrap .i64 (Int.tdiv (IntKind.wrap .i64 (((257+x.val:Nat):Int)-(257:Int))) (4:Int)))-(1:Int)))∧
  (IntKind.wrap .i64 ((3:Int)+(shlI .i64 (IntKind.wrap .i64 ((4:Int)+(Int.tmod (IntKind.wrap .i64 (((257+x.val:Nat):Int)-(257:Int))) (4:Int)))) (IntKind.wrap .i64 ((IntKind.wrap .i64 (Int.tdiv (IntKind.wrap .i64 (((257+x.val:Nat):Int)-(257:Int))) (4:Int)))-(1:Int))))))=((lenB (257+x.val)).1:Int)∧
  (IntKind.wrap .i64 ((IntKind.wrap .i64 (Int.tdiv (IntKind.wrap .i64 (((257+x.val:Nat):Int)-(257:Int))) (4:Int)))-(1:Int)))=((lenB (257+x.val)).2:Int))∧(lenB (257+x.val)).2≤5∧(lenB (257+x.val)).1≤258:=by decide+kernel
theorem dstK: ∀x:Fin 30,(((x.val:Nat):Int)<4→IntKind.wrap .i64 (1+((x.val:Nat):Int))=((dstB x.val).1:Int)∧(0:Int)=((dstB x.val).2:Int))∧
 (¬((x.val:Nat):Int)<4→0≤(IntKind.wrap .i64 ((IntKind.wrap .i64 (Int.tdiv ((x.val:Nat):Int) (2:Int)))-(1:Int)))∧
  (IntKind.wrap .i64 ((1:Int)+(shlI .i64 (IntKind.wrap .i64 ((2:Int)+(Int.tmod ((x.val:Nat):Int) (2:Int)))) (IntKind.wrap .i64 ((IntKind.wrap .i64 (Int.tdiv ((x.val:Nat):Int) (2:Int)))-(1:Int))))))=((dstB x.val).1:Int)∧
  (IntKind.wrap .i64 ((IntKind.wrap .i64 (Int.tdiv ((x.val:Nat):Int) (2:Int)))-(1:Int)))=((dstB x.val).2:Int))∧(dstB x.val).2≤13∧(dstB x.val).1≤32768∧1≤(dstB x.val).1:=by decide+kernel
theorem lenB_le{s:Nat}(h:257≤s∧s≤285):(lenB s).2≤5∧(lenB s).1≤258:=by
 have:=(lenK ⟨s-257,by omega⟩).2.2.2
 simp only[show 257+(s-257)=s from by omega] at this
 exact this
theorem dstB_le{s:Nat}(h:s≤29):(dstB s).2≤13∧(dstB s).1≤32768∧1≤(dstB s).1:=(dstK ⟨s,by omega⟩).2.2
theorem c107{s:Nat}(h:257≤s∧s≤285)(hR:R (.tuple #[.int .i64 ((lenB s).1:Nat),.int .i64 ((lenB s).2:Nat)]) H):CallsH Tryz.prog 107 #[.int .i64 (s:Nat)] H R:=by
 have k:=lenK ⟨s-257,by omega⟩
 simp only[show 257+(s-257)=s from by omega] at k
 obtain⟨k1,k2,k3,_⟩:=k
 refine Tryz.s107 (br_dec (fun h1=>?_) (fun h1=>br_eq (fun h2=>?_) (fun h2=>⟨by decide,by decide,(k3 h1 h2).1,?_⟩)))
 ·rw[(k1 h1).1,(k1 h1).2];exact hR
 ·rw[(k2 h1 h2).1,(k2 h1 h2).2];exact hR
 ·rw[(k3 h1 h2).2.1,(k3 h1 h2).2.2];exact hR
theorem c85{s:Nat}(h:s≤29)(hR:R (.tuple #[.int .i64 ((dstB s).1:Nat),.int .i64 ((dstB s).2:Nat)]) H):CallsH Tryz.prog 85 #[.int .i64 (s:Nat)] H R:=by
 obtain⟨k1,k2,_⟩:=dstK ⟨s,by omega⟩
 refine Tryz.s85 (br_dec (fun h1=>?_) (fun h1=>⟨by decide,by decide,(k2 h1).1,?_⟩))
 ·rw[(k1 h1).1,(k1 h1).2];exact hR
 ·rw[(k2 h1).2.1,(k2 h1).2.2];exact hR
section
variable {f a most:Nat} {B out:List Int}
theorem c103(hs:St H0 H (flR f B a most out 0::σ)){j d:Nat}{dl F:List Int}{P:List (Nat×Int)}(hj:σ[j]?=some (decR d dl P F)){s:Nat}(hs257:257≤s∧s≤1000)
 (hbad: ∀k,k≠0→copiesM B most dl s a out= .error k→ ∀H' a',St H0 H' (flR f B a' most out k::σ)→R (.tuple #[]) H')
 (hR: ∀a' out',copiesM B most dl s a out= .ok (a',out')→ ∀H',St H0 H' (flR f B a' most out' 0::σ)→R (.tuple #[]) H'):
 CallsH Tryz.prog 103 #[.pointer (some ⟨f,0,none⟩),.int .i64 (s:Nat),.pointer (some ⟨d,0,none⟩)] H R:=by
 have key:copiesM B most dl s a out=copiesM B most dl s a out:=rfl
 conv at key=>lhs;unfold copiesM
 refine Tryz.s103 (br_dec (fun h=>c77 hs fun H1 hs=>⟨rfl,?_⟩) (fun h=>?_))
 ·rw[if_pos (by omega)] at key
  exact hbad 25 (by decide) key.symm H1 _ hs
 rw[if_neg (by omega)] at key
 have hb:=lenB_le (s:=s) (by omega)
 refine c107 (by omega) ⟨_,_,rfl,c72 hs (by omega) (fun hlt H1 hs=>?_) (fun hle H1 hs=>?_)⟩
 ·rw[Int.toNat_natCast] at hlt
  unfold getM at key
  rw[if_neg (by omega)] at key
  rw[if_pos rfl] at hs
  exact⟨_,rfl,symbol_e hs (by decide) fun H2 a2 hs=>⟨_,rfl,_,rfl,_,flR_e hs,br_t rfl (hbad 20 (by decide) key.symm H2 _ hs)⟩⟩
 rw[Int.toNat_natCast] at hle hs ⊢
 rw[show getM B (lenB s).2 a= .ok (numB false B a (lenB s).2,a+(lenB s).2) from by unfold getM;rw[if_pos hle]] at key
 have hx:=numB_rng false B a (lenB s).2
 have hx2:(2:Int)^(lenB s).2≤2^5:=pow_le hb.1
 generalize numB false B a (lenB s).2=x at*
 simp only at key
 refine⟨_,rfl,c102 hs hj (fun k hk hsy H2 a2 hs=>?_) (fun t a2 hsy H2 hs=>?_)⟩
 ·rw[hsy] at key
  exact⟨_,rfl,_,rfl,_,flR_e hs,br_ne (fun _=>hbad k hk key.symm H2 _ hs) (fun h=>absurd h hk)⟩
 rw[hsy] at key
 simp only at key
 refine⟨_,rfl,_,rfl,_,flR_e hs,br_f rfl (br_dec (fun h29=>c77 hs fun H3 hs=>⟨rfl,?_⟩) (fun h29=>?_))⟩
 ·rw[if_pos (by omega)] at key
  exact hbad 25 (by decide) key.symm H3 _ hs
 rw[if_neg (by omega)] at key
 have hd:=dstB_le (s:=t) (by omega)
 refine c85 (by omega) ⟨_,_,rfl,c72 hs (by omega) (fun hlt H3 hs=>?_) (fun hle H3 hs=>?_)⟩
 ·rw[Int.toNat_natCast] at hlt
  rw[show getM B (dstB t).2 a2= .error 20 from by unfold getM;rw[if_neg (by omega)]] at key
  rw[if_pos rfl] at hs
  exact⟨_,rfl,_,rfl,_,flR_e hs,br_t rfl (hbad 20 (by decide) key.symm H3 _ hs)⟩
 rw[Int.toNat_natCast] at hle hs ⊢
 rw[show getM B (dstB t).2 a2= .ok (numB false B a2 (dstB t).2,a2+(dstB t).2) from by unfold getM;rw[if_pos hle]] at key
 have hy:=numB_rng false B a2 (dstB t).2
 have hy2:(2:Int)^(dstB t).2≤2^13:=pow_le hd.1
 generalize numB false B a2 (dstB t).2=y at*
 simp only at key
 obtain⟨rb,p,c,h1,h2,h3,hs'⟩:=flR_op hs
 have e5:(2:Int)^5=32:=by decide
 have e13:(2:Int)^13=8192:=by decide
 have w1:IntKind.wrap .i64 ((((dstB t).1:Nat):Int)+y)=((dstB t).1:Nat)+y:=wrap_id (by omega) (by omega)
 have w2:IntKind.wrap .i64 ((((lenB s).1:Nat):Int)+x)=((lenB s).1:Nat)+x:=wrap_id (by omega) (by omega)
 have w3:IntKind.wrap .i64 ((most:Int)-(out.length:Nat))=(most:Int)-(out.length:Nat):=wrap_id (by omega) (by omega)
 refine⟨_,rfl,_,rfl,_,flR_e hs,br_f rfl ⟨_,rfl,_,_,_,hs'.get 2 (j:=1) rfl rfl,?_⟩⟩
 rw[w1,w2]
 refine br_dec (fun hgt=>c77 hs fun H4 hs=>⟨rfl,?_⟩) (fun hgt=>⟨_,rfl,_,hs'.get 2 (j:=2) rfl rfl,_,rfl,_,_,_,hs'.get 2 (j:=1) rfl rfl,?_⟩)
 ·rw[if_pos hgt] at key
  exact hbad 22 (by decide) key.symm H4 _ hs
 rw[if_neg hgt] at key
 rw[w3]
 refine br_dec (fun hg2=>c77 hs fun H4 hs=>⟨rfl,?_⟩) (fun hg2=>?_)
 ·rw[if_pos hg2] at key
  exact hbad 24 (by decide) key.symm H4 _ hs
 rw[if_neg hg2] at key
 have hR:=hR _ _ key.symm
 clear key hbad w1 w2 w3 hs' p c rb
 obtain⟨D,hD⟩:=Int.eq_ofNat_of_zero_le (show 0≤(((dstB t).1:Nat):Int)+y by omega)
 obtain⟨N,hN⟩:=Int.eq_ofNat_of_zero_le (show 0≤(((lenB s).1:Nat):Int)+x by omega)
 rw[show(dstB t).1+y.toNat=D from by omega,show(lenB s).1+x.toNat=N from by omega] at hR
 rw[hD,hN]
 intro X hX
 have loop: ∀(m k:Nat) (out1:List Int) (H4:Heap),k+m=N→out1.length=out.length+k→copyM D m out1=copyM D N out→St H0 H4 (flR f B (a2+(dstB t).2) most out1 0::σ)→X [.int .i64 k] H4:=by
  intro m
  induction m with
  |zero=>
   intro k out1 H4 hk hl hc hs
   refine hX _ H4 (br_n (by omega) (hR H4 ?_))
   rw[←hc];exact hs
  |succ m ih=>
   intro k out1 H4 hk hl hc hs
   obtain⟨rb,p,c,h1,h2,h3,hs'⟩:=flR_op hs
   have w1:IntKind.wrap .i64 (((out1.length:Nat):Int)-(D:Int))=((out1.length-D:Nat):Int):=by rw[wrap_id (by omega) (by omega)];omega
   have wk:IntKind.wrap .i64 ((k:Int)+1)=((k+1:Nat):Int):=by rw[wrap_id (by omega) (by omega)];omega
   refine hX _ H4 (br_y (by omega) ⟨_,rfl,_,_,_,hs'.get 2 (j:=1) rfl rfl,_,rfl,_,_,_,hs'.get 2 (j:=1) rfl rfl,_,rfl,_,_,_,hs'.get 2 (j:=1) rfl rfl,?_⟩)
   rw[w1,wk]
   have hv:=get_gD out1 0 (i:=out1.length-D) (by omega)
   have hvr:=h3 _ (List.mem_of_getElem? hv)
   rw[copyM] at hc
   generalize out1.getD (out1.length-D) 0=v at hv hvr hc
   refine(hs'.is 1 rfl).rd (by omega) (by omega) (by rw[Int.toNat_natCast];exact hv) ?_
   refine hs'.alcE fun b H5 he hs5=>⟨.inl he,?_⟩
   refine hs5.appC 2 0 (el:=5) (k:=1) rfl rfl rfl (one1 rfl) (by decide) rfl (by omega) (by omega) fun p' c' H6 hs6=>⟨_,rfl,?_⟩
   refine hs6.put 3 (j:=1) rfl (by simp) rfl fun H7 hs7=>?_
   refine ih (k+1) (out1++[v]) H7 (by omega) (by simp;omega) hc ?_
   refine flR_mk (rb:=rb) (p:=p') (c:=c') (by simp;omega) h2 (fun z hz=>?_) ?_
   ·rcases List.mem_append.1 hz with hz|hz
    ·exact h3 z hz
    ·rw[List.mem_singleton.1 hz];exact hvr
   ·rw[kints_append,List.length_append,List.length_singleton]
    exact hs7.tail
 exact loop N 0 out H3 (by omega) (by omega) rfl hs
end
end Go.Proofs
namespace Go.Proofs
open Go.Sh
theorem wrap_id{n:Int}(h0: -9223372036854775808≤n)(h1:n≤9223372036854775807):IntKind.wrap .i64 n=n:=by simp[IntKind.wrap,IntKind.bits,IntKind.signed];omega
structure It where
 c:Int
 v:Value
 t:Nat
def It.cells(x:It):Array Value:=#[.int .i64 x.c,x.v]
def Lex(x y:It):Prop:=x.c<y.c∨(x.c=y.c∧x.t<y.t)
theorem Lex.trans{x y z:It}(h:Lex x y)(h':Lex y z):Lex x z:=by unfold Lex at*;omega
theorem Lex.le{x y:It}(h:Lex x y):x.c≤y.c:=by unfold Lex at*;omega
def Srt(a b:Nat)(f:Nat→It):Prop:= ∀p q,a≤p→p<q→q<b→Lex (f p) (f q)
def Tags(a b:Nat)(f:Nat→It):Prop:= ∀p q,a≤p→p<q→q<b→(f p).t<(f q).t
def Bnd(n:Nat)(f:Nat→It):Prop:= ∀i,i<n→0≤(f i).c∧(f i).c≤1152921504606846976
structure PermOn(a b:Nat)(f f':Nat→It):Prop where
 ex: ∃π:Nat→Nat,(∀i,a≤i→i<b→a≤π i∧π i<b)∧(∀i j,a≤i→i<b→a≤j→j<b→π i=π j→i=j)∧(∀i,a≤i→i<b→f' i=f (π i))
 out: ∀i,¬(a≤i∧i<b)→f' i=f i
theorem PermOn.refl(a b:Nat)(f:Nat→It):PermOn a b f f:=⟨⟨id,fun _ h h'=>⟨h,h'⟩,fun _ _ _ _ _ _ h=>h,fun _ _ _=>rfl⟩,fun _ _=>rfl⟩
theorem PermOn.trans{a b:Nat}{f g h:Nat→It}(h1:PermOn a b f g)(h2:PermOn a b g h):PermOn a b f h:=by
 obtain⟨p,p1,p2,p3⟩:=h1.ex
 obtain⟨q,q1,q2,q3⟩:=h2.ex
 refine⟨⟨fun i=>p (q i),fun i hi hj=>p1 _ (q1 i hi hj).1 (q1 i hi hj).2,fun i j a1 a2 a3 a4 he=>?_,fun i hi hj=>?_⟩,fun i hi=>?_⟩
 ·exact q2 i j a1 a2 a3 a4 (p2 _ _ (q1 i a1 a2).1 (q1 i a1 a2).2 (q1 j a3 a4).1 (q1 j a3 a4).2 he)
 ·rw[q3 i hi hj,p3 _ (q1 i hi hj).1 (q1 i hi hj).2]
 ·rw[h2.out i hi,h1.out i hi]
theorem PermOn.widen{a b a' b':Nat}{f g:Nat→It}(h:PermOn a b f g)(ha:a'≤a)(hb:b≤b'):PermOn a' b' f g:=by
 obtain⟨p,p1,p2,p3⟩:=h.ex
 have inn: ∀i,(¬(a≤i∧i<b))→True:=fun _ _=>trivial
 refine⟨⟨fun i=>if a≤i∧i<b then p i else i,fun i hi hj=>?_,fun i j a1 a2 a3 a4 he=>?_,fun i hi hj=>?_⟩,fun i hi=>h.out i (by omega)⟩
 ·show a'≤(if _ then _ else _)∧(if _ then _ else _)<b'
  split
  ·rename_i hh;have:=p1 i hh.1 hh.2;omega
  ·exact⟨hi,hj⟩
 ·simp only at he
  split at he
  ·rename_i h1
   split at he
   ·rename_i h2;exact p2 i j h1.1 h1.2 h2.1 h2.2 he
   ·rename_i h2;have:=p1 i h1.1 h1.2;omega
  ·rename_i h1
   split at he
   ·rename_i h2;have:=p1 j h2.1 h2.2;omega
   ·exact he
 ·show g i=f (if _ then _ else _)
  split
  ·rename_i hh;exact p3 i hh.1 hh.2
  ·rename_i hh;exact h.out i hh
theorem PermOn.all{a b:Nat}{f g:Nat→It}(h:PermOn a b f g){P:It→Prop}(hf: ∀i,a≤i→i<b→P (f i)): ∀i,a≤i→i<b→P (g i):=fun i hi hj=>by
 obtain⟨p,p1,_,p3⟩:=h.ex
 rw[p3 i hi hj]
 exact hf _ (p1 i hi hj).1 (p1 i hi hj).2
theorem PermOn.bnd{a b n:Nat}{f g:Nat→It}(h:PermOn a b f g)(hb:b≤n)(hf:Bnd n f):Bnd n g:=fun i hi=>by
 by_cases hh:a≤i∧i<b
 ·exact h.all (P:=fun x=>0≤x.c∧x.c≤1152921504606846976) (fun j _ hj=>hf j (by omega)) i hh.1 hh.2
 ·rw[h.out i hh];exact hf i hi
def upd(f:Nat→It)(i:Nat)(x:It):Nat→It:=fun j=>if j=i then x else f j
def swp(f:Nat→It)(p q:Nat):Nat→It:=fun j=>if j=p then f q else if j=q then f p else f j
theorem swp_perm{a b p q:Nat}(f:Nat→It)(hp:a≤p∧p<b)(hq:a≤q∧q<b):PermOn a b f (swp f p q):=by
 refine⟨⟨fun j=>if j=p then q else if j=q then p else j,fun i hi hj=>?_,fun i j _ _ _ _ he=>?_,fun i hi hj=>?_⟩,fun i hi=>?_⟩
 ·simp only;split<;>(try split)<;>omega
 ·simp only at he;repeat' split at he
  all_goals omega
 ·show(if i=p then f q else if i=q then f p else f i)=f (if i=p then q else if i=q then p else i)
  by_cases h1:i=p
  ·rw[if_pos h1,if_pos h1]
  ·by_cases h2:i=q
   ·rw[if_neg h1,if_neg h1,if_pos h2,if_pos h2]
   ·rw[if_neg h1,if_neg h1,if_neg h2,if_neg h2]
 ·unfold swp;rw[if_neg (by omega),if_neg (by omega)]
def DS(H:Heap)(blk n:Nat)(f:Nat→It):Prop:=
 ∃cs,H[blk]?=some (.cells cs 165)∧2*n≤cs.size∧ ∀i,i<n→cs[2*i]?=some (.int .i64 (f i).c)∧cs[2*i+1]?=some (f i).v∧(f i).v.oneCell'=true
def But(blk:Nat)(H H':Heap):Prop:= ∀(b:Nat) (o:Obj),H[b]?=some o→b≠blk→H'[b]?=some o
theorem But.refl(blk:Nat)(H:Heap):But blk H H:=fun _ _ h _=>h
theorem But.trans{blk:Nat}{A B C:Heap}(h:But blk A B)(h':But blk B C):But blk A C:=fun b o hb hn=>h' b o (h b o hb hn) hn
theorem But.ext{blk:Nat}{A B:Heap}(h:Ext A B):But blk A B:=fun b o hb _=>h b o hb
theorem DS.ext{H H':Heap}{blk n:Nat}{f:Nat→It}(h:DS H blk n f)(he:Ext H H'):DS H' blk n f:=by
 obtain⟨cs,h1,h2⟩:=h
 exact⟨cs,he _ _ h1,h2⟩
theorem DS.congr{H:Heap}{blk n:Nat}{f g:Nat→It}(h:DS H blk n f)(he: ∀i,i<n→g i=f i):DS H blk n g:=by
 obtain⟨cs,h1,h2,h3⟩:=h
 exact⟨cs,h1,h2,fun i hi=>by rw[he i hi];exact h3 i hi⟩
theorem DS.row{H:Heap}{blk n:Nat}{f:Nat→It}(h:DS H blk n f){i:Nat}(hi:i<n):rowIn H ⟨blk,i*2,none⟩ (f i).cells:=by
 obtain⟨cs,h1,h2,h3⟩:=h
 obtain⟨a,b,_⟩:=h3 i hi
 refine rowIn_block h1 fun j v hv=>?_
 match j,hv with
 |0,hv=>simp[It.cells] at hv;subst hv;rw[Nat.mul_comm] at a;exact a
 |1,hv=>simp[It.cells] at hv;subst hv;rw[Nat.mul_comm] at b;exact b
 |j+2,hv=>simp[It.cells] at hv
theorem DS.one{H:Heap}{blk n:Nat}{f:Nat→It}(h:DS H blk n f){i:Nat}(hi:i<n):(f i).v.oneCell'=true:=by
 obtain⟨cs,h1,h2,h3⟩:=h
 exact(h3 i hi).2.2
theorem setL_get{c vs:List Value}{i:Nat}(h:i+vs.length≤c.length)(j:Nat):(setL c i vs)[j]?=if i≤j∧j<i+vs.length then vs[j-i]? else c[j]?:=by
 unfold setL
 by_cases h1:j<i
 ·rw[if_neg (by omega),List.append_assoc,List.getElem?_append_left (by simp;omega),List.getElem?_take_of_lt h1]
 ·by_cases h2:j<i+vs.length
  ·rw[if_pos ⟨by omega,h2⟩,List.append_assoc,List.getElem?_append_right (by simp;omega),List.getElem?_append_left (by simp;omega)]
   congr 1
   simp;omega
  ·rw[if_neg (by omega),List.getElem?_append_right (by simp;omega),List.getElem?_drop]
   congr 1
   simp;omega
theorem setL_len{c vs:List Value}{i:Nat}(h:i+vs.length≤c.length):(setL c i vs).length=c.length:=by unfold setL;simp;omega
theorem stAt_some{H:Heap}{b i:Nat}{c:Array Value}{t:TypeId}{vs:List Value}{f:Heap→Prop}(h:H[b]?=some (.cells c t (0,0)))(hl:i+vs.length≤c.size)(ho: ∀v∈vs,v.oneCell'=true)
 (hf: ∀c':Array Value,c'.size=c.size→(∀j:Nat,c'[j]?=if i≤j∧j<i+vs.length then vs[j-i]? else c[j]?)→f (H.setIfInBounds b (.cells c' t (0,0)))):stAt H ⟨b,i,none⟩ vs f:=by
 have hl':i+vs.length≤c.toList.length:=by simpa using hl
 refine⟨c,t,h,rfl,hl,ho,?_⟩
 refine hf (setL c.toList i vs).toArray (by simp[setL_len hl']) fun j=>?_
 rw[List.getElem?_toArray,setL_get hl' j,Array.getElem?_toList (xs:=c)]
theorem DS.put{H:Heap}{blk n:Nat}{f:Nat→It}(h:DS H blk n f){i:Nat}(hi:i<n){x:It}(hx:x.v.oneCell'=true){K:Heap→Prop}(hK: ∀H',DS H' blk n (upd f i x)→But blk H H'→K H'):stAt H ⟨blk,i*2,none⟩ (Array.toList x.cells) K:=by
 obtain⟨cs,h1,h2,h3⟩:=h
 refine stAt_some h1 (by simp[It.cells];omega) (by intro v hv;simp[It.cells] at hv;rcases hv with rfl|rfl<;>first|rfl|exact hx) fun c' hc' hg=>hK _ ⟨c',get_set_self h1,by omega,fun j hj=>?_⟩ fun b o hb hn=>get_set_ne (Ne.symm hn) hb
 have hl:(Array.toList x.cells).length=2:=rfl
 rw[hl] at hg
 obtain⟨a,b,c⟩:=h3 j hj
 unfold upd
 by_cases hji:j=i
 ·rw[if_pos hji,hg,hg,if_pos (by omega),if_pos (by omega)]
  have e1:2*j-i*2=0:=by omega
  have e2:2*j+1-i*2=1:=by omega
  rw[e1,e2]
  exact⟨rfl,rfl,hx⟩
 ·rw[if_neg hji,hg,hg,if_neg (by omega),if_neg (by omega)]
  exact⟨a,b,c⟩
def Cmp(g:Nat):Prop:= ∀(x y:It) (H:Heap) (R:Value→Heap→Prop),(0≤x.c∧x.c≤1152921504606846976)→(0≤y.c∧y.c≤1152921504606846976)→(∀H',Ext H H'→R (.int .i64 (x.c-y.c)) H')→
 CallsH Tryz.prog g #[.agg x.cells,.agg y.cells] H R
theorem cmp23:Cmp 112:=fun x y H R hx hy h=>by
 refine Tryz.s112 ?_
 unfold Tryz.S112 alc
 have e1:Ext H (H.push (.cells x.cells 165)):=Ext.push _ _
 have h1:=get_push_self H (.cells x.cells 165)
 generalize H.push (.cells x.cells 165)=H1 at e1 h1
 have e2:Ext H1 (H1.push (.cells y.cells 165)):=Ext.push _ _
 have h2:=get_push_self H1 (.cells y.cells 165)
 refine⟨x.c,by rw[add_none];exact cell_get (e2 _ _ h1) rfl,y.c,by rw[add_none];exact cell_get h2 rfl,?_⟩
 rw[wrap_id (by omega) (by omega)]
 exact h _ (e1.trans e2)
theorem cmp29:Cmp 127:=fun x y H R hx hy h=>by
 refine Tryz.s127 ?_
 unfold Tryz.S127 alc
 have e1:Ext H (H.push (.cells x.cells 165)):=Ext.push _ _
 have h1:=get_push_self H (.cells x.cells 165)
 generalize H.push (.cells x.cells 165)=H1 at e1 h1
 have e2:Ext H1 (H1.push (.cells y.cells 165)):=Ext.push _ _
 have h2:=get_push_self H1 (.cells y.cells 165)
 refine⟨x.c,by rw[add_none];exact cell_get (e2 _ _ h1) rfl,y.c,by rw[add_none];exact cell_get h2 rfl,?_⟩
 rw[wrap_id (by omega) (by omega)]
 exact h _ (e1.trans e2)
theorem upd_swp(f:Nat→It){p q:Nat}(hpq:p≠q):upd (upd f q (f p)) p (f q)=swp f p q:=by
 funext j
 unfold upd swp
 by_cases h1:j=p
 ·rw[if_pos h1]
 ·rw[if_neg h1]
set_option maxHeartbeats 1000000 in
theorem c130{g:Nat}(hc:Cmp g){H:Heap}{blk n a b c:Nat}{f:Nat→It}(h:DS H blk n f)(hb:Bnd n f)(hab:a≤b)(hbn:b≤n)(hn:n≤1000000)(ht:Tags a b f){R:Value→Heap→Prop}
 (hR: ∀H' f',DS H' blk n f'→But blk H H'→PermOn a b f f'→Srt a b f'→R (.tuple #[]) H'):
 CallsH Tryz.prog 130 #[.slice (some ⟨blk,0,none⟩) n c,.int .i64 a,.int .i64 b,.func (.func g) #[] #[]] H R:=by
 refine Tryz.s130 ?_
 unfold Tryz.S130
 intro X hX
 have outer: ∀(m i:Nat) (H1:Heap) (f1:Nat→It),b-i=m→a+1≤i→(i≤b∨i=a+1)→DS H1 blk n f1→But blk H H1→PermOn a b f f1→Srt a i f1→(∀j,i≤j→f1 j=f j)→(∀p q,a≤p→p<i→i≤q→q<b→(f1 p).t<(f1 q).t)→X [.int .i64 i] H1:=by
  intro m
  induction m with
  |zero=>
   intro i H1 f1 hm hi hib d1 b1 p1 s1 _ _
   refine hX _ H1 (br_n (by omega) (hR H1 f1 d1 b1 p1 fun p q h1 h2 h3=>s1 p q h1 h2 (by omega)))
  |succ m ih=>
   intro i H1 f1 hm hi hib d1 b1 p1 s1 old cross
   have ewi:IntKind.wrap .i64 ((i:Int)+1)=((i+1:Nat):Int):=by rw[wrap_id (by omega) (by omega)];omega
   refine hX _ H1 (br_y (by omega) ?_)
   rw[ewi]
   intro Y hY
   have inner: ∀(j:Nat) (H2:Heap) (f2:Nat→It),a≤j→j≤i→DS H2 blk n f2→But blk H H2→PermOn a (i+1) f1 f2→f2 j=f1 i→
    (∀p q,a≤p→p<q→q≤i→p≠j→q≠j→Lex (f2 p) (f2 q))→(∀q,j<q→q≤i→(f2 j).c<(f2 q).c)→(∀p,a≤p→p≤i→p≠j→(f2 p).t<(f2 j).t)→Y [.int .i64 j] H2:=by
    intro j
    induction j with
    |zero=>
     intro H2 f2 haj hji d2 b2 p2 hx srt big tg
     refine hY _ H2 ?_
     intro J hJ
     refine br_n (by omega) ?_
     refine ih (i+1) H2 f2 (by omega) (by omega) (by omega) d2 b2 (p1.trans (p2.widen (Nat.le_refl _) (by omega))) (fun p q h1 h2 h3=>?_) (fun k hk=>by rw[p2.out k (by omega),old k (by omega)]) (fun p q h1 h2 h3 h4=>?_)
     ·by_cases hp:p=0
      ·subst hp;left;exact big q h2 (by omega)
      ·exact srt p q h1 h2 (by omega) hp (by omega)
     ·rw[p2.out q (by omega)]
      have:=p2.all (P:=fun x=>x.t<(f1 q).t) (fun k hk1 hk2=>?_) p h1 (by omega)
      ·exact this
      ·by_cases hki:k<i
       ·exact cross k q hk1 hki (by omega) h4
       ·have:k=i:=by omega
        subst this
        rw[old k (Nat.le_refl _),old q (by omega)]
        exact ht k q hk1 (by omega) h4
    |succ j ihj=>
     intro H2 f2 haj hji d2 b2 p2 hx srt big tg
     refine hY _ H2 ?_
     have ew:IntKind.wrap .i64 (((j+1:Nat):Int)-1)=(j:Int):=by rw[wrap_id (by omega) (by omega)];omega
     have done:Y [.int .i64 ((j+1:Nat):Int)] H2→True:=fun _=>trivial
     have bnd2:Bnd n f2:=p2.bnd (by omega) (p1.bnd hbn hb)
     have stop: ∀H3,Ext H2 H3→(a=j+1∨(a≤j∧(f2 j).c≤(f2 (j+1)).c))→X [.int .i64 ((i+1:Nat):Int)] H3:=fun H3 e3 hs=>by
      refine ih (i+1) H3 f2 (by omega) (by omega) (by omega) (d2.ext e3) (b2.trans (But.ext e3)) (p1.trans (p2.widen (Nat.le_refl _) (by omega))) (fun p q h1 h2 h3=>?_) (fun k hk=>by rw[p2.out k (by omega),old k (by omega)]) (fun p q h1 h2 h3 h4=>?_)
      ·by_cases hp:p=j+1
       ·subst hp;left;exact big q h2 (by omega)
       ·by_cases hq:q=j+1
        ·subst hq
         rcases hs with hs|⟨hs,hs'⟩
         ·omega
         ·have h5:Lex (f2 j) (f2 (j+1)):=by
           have:=tg j hs (by omega) (by omega)
           unfold Lex;omega
          by_cases hpj:p=j
          ·subst hpj;exact h5
          ·exact(srt p j h1 (by omega) (by omega) hp (by omega)).trans h5
        ·exact srt p q h1 h2 (by omega) hp hq
      ·rw[p2.out q (by omega)]
       refine p2.all (P:=fun x=>x.t<(f1 q).t) (fun k hk1 hk2=>?_) p h1 (by omega)
       by_cases hki:k<i
       ·exact cross k q hk1 hki (by omega) h4
       ·have:k=i:=by omega
        subst this
        rw[old k (Nat.le_refl _),old q (by omega)]
        exact ht k q hk1 (by omega) h4
     intro J hJ
     refine br_dec (fun hgt=>?_) (fun hle=>stop H2 (Ext.refl _) (.inl (by omega)))
     have haj':a≤j:=by omega
     refine⟨_,rfl,by omega,by omega,(f2 (j+1)).cells,rfl,by simpa using d2.row (i:=j+1) (by omega),_,rfl,by rw[ew];omega,by rw[ew];omega,(f2 j).cells,rfl,by rw[ew];simpa using d2.row (i:=j) (by omega),?_⟩
     refine hc (f2 (j+1)) (f2 j) H2 _ (bnd2 _ (by omega)) (bnd2 _ (by omega)) fun H3 e3=>⟨_,rfl,br_dec (fun hlt=>?_) (fun hge=>stop H3 e3 (.inr ⟨haj',by omega⟩))⟩
     refine hJ H3 ?_
     have d3:=d2.ext e3
     refine⟨_,rfl,by rw[ew];omega,by rw[ew];omega,(f2 j).cells,rfl,by rw[ew];simpa using d3.row (i:=j) (by omega),_,rfl,by omega,by omega,(f2 (j+1)).cells,rfl,by simpa using d3.row (i:=j+1) (by omega),_,rfl,by omega,by omega,rfl,?_⟩
     simp only[add_none,Nat.zero_add,Int.toNat_natCast]
     refine d3.put (i:=j+1) (by omega) (x:=f2 j) (d3.one (by omega)) fun H4 d4 b4=>⟨_,rfl,by rw[ew];omega,by rw[ew];omega,rfl,?_⟩
     rw[ew]
     simp only[add_none,Nat.zero_add,Int.toNat_natCast]
     refine d4.put (i:=j) (by omega) (x:=f2 (j+1)) (d3.one (by omega)) fun H5 d5 b5=>?_
     rw[upd_swp f2 (p:=j) (q:=j+1) (by omega)] at d5
     have sj:swp f2 j (j+1) j=f2 (j+1):=by simp[swp]
     have sj1:swp f2 j (j+1) (j+1)=f2 j:=by simp[swp]
     have so: ∀k,k≠j→k≠j+1→swp f2 j (j+1) k=f2 k:=fun k h1 h2=>by simp[swp,h1,h2]
     refine ihj H5 _ haj' (by omega) d5 (b2.trans ((But.ext e3).trans (b4.trans b5))) (p2.trans (swp_perm f2 ⟨haj',by omega⟩ ⟨by omega,by omega⟩)) (by rw[sj,hx]) (fun p q h1 h2 h3 h4 h5=>?_) (fun q h1 h2=>?_) (fun p h1 h2 h3=>?_)
     ·by_cases hq1:q=j+1
      ·subst hq1
       rw[sj1,so p h4 (by omega)]
       exact srt p j h1 (by omega) (by omega) (by omega) (by omega)
      ·by_cases hp1:p=j+1
       ·subst hp1
        rw[sj1,so q (by omega) (by omega)]
        exact srt j q haj' (by omega) h3 (by omega) (by omega)
       ·rw[so p h4 hp1,so q h5 hq1]
        exact srt p q h1 h2 h3 hp1 hq1
     ·rw[sj]
      by_cases hq1:q=j+1
      ·subst hq1;rw[sj1];omega
      ·rw[so q (by omega) hq1];exact big q (by omega) h2
     ·rw[sj]
      by_cases hp1:p=j+1
      ·subst hp1;rw[sj1];exact tg j haj' (by omega) (by omega)
      ·rw[so p h3 hp1];exact tg p h1 h2 hp1
   refine inner i H1 f1 (by omega) (Nat.le_refl _) d1 b1 (PermOn.refl _ _ _) rfl (fun p q h1 h2 h3 h4 h5=>s1 p q h1 h2 (by omega)) (fun q h1 h2=>by omega) (fun p h1 h2 h3=>?_)
   exact cross p i h1 (by omega) (Nat.le_refl _) (by omega)
 have ew:IntKind.wrap .i64 ((a:Int)+1)=((a+1:Nat):Int):=by rw[wrap_id (by omega) (by omega)];omega
 rw[ew]
 refine outer _ (a+1) H f rfl (Nat.le_refl _) (.inr rfl) h (But.refl _ _) (PermOn.refl _ _ _) (fun p q h1 h2 h3=>by omega) (fun _ _=>rfl) (fun p q h1 h2 h3 h4=>ht p q h1 (by omega) h4)
end Go.Proofs
namespace Go.Proofs
open Go.Sh
theorem mid_eq{x y:Nat}(h:x+y≤4000000):IntKind.wrap .i64 (shrI .u64 (IntKind.wrap .u64 (IntKind.wrap .i64 ((x:Int)+y))) (1:Int))=(((x+y)/2:Nat):Int):=by
 have h1:IntKind.wrap .i64 ((x:Int)+y)=(x:Int)+y:=wrap_id (by omega) (by omega)
 have h2:IntKind.wrap .u64 ((x:Int)+y)=(x:Int)+y:=by simp[IntKind.wrap,IntKind.bits,IntKind.signed];omega
 have h3:shrI .u64 ((x:Int)+y) (1:Int)=(((x+y)/2:Nat):Int):=by
  have:shrI .u64 ((x:Int)+y) (1:Int)=((x:Int)+y).fdiv 2:=by simp[shrI,IntKind.bits]
  rw[this,Int.fdiv_eq_ediv_of_nonneg _ (by omega)]
  omega
 rw[h1,h2,h3]
 exact wrap_id (by omega) (by omega)
def swr(f:Nat→It)(a b n:Nat):Nat→It:=fun i=>if a≤i∧i<a+n then f (b+(i-a)) else if b≤i∧i<b+n then f (a+(i-b)) else f i
theorem c134{H:Heap}{blk n c a b k:Nat}{cm:Value}{f:Nat→It}(h:DS H blk n f)(hab:a+k≤b)(hbn:b+k≤n)(hn:n≤1000000){gg:Nat}{R:Value→Heap→Prop}
 (hR: ∀H',DS H' blk n (swr f a b k)→But blk H H'→R (.tuple #[]) H'):
 CallsH Tryz.prog 134 #[.slice (some ⟨blk,0,none⟩) n c,.int .i64 a,.int .i64 b,.int .i64 k,.func (.func gg) #[] #[]] H R:=by
 refine Tryz.s134 ?_
 unfold Tryz.S134
 intro X hX
 have loop: ∀(m i:Nat) (H1:Heap),k-i=m→i≤k→DS H1 blk n (swr f a b i)→But blk H H1→X [.int .i64 i] H1:=by
  intro m
  induction m with
  |zero=>
   intro i H1 hm hi d1 b1
   have:i=k:=by omega
   subst this
   exact hX _ H1 (br_n (by omega) (hR H1 d1 b1))
  |succ m ih=>
   intro i H1 hm hi d1 b1
   have e1:IntKind.wrap .i64 ((b:Int)+i)=((b+i:Nat):Int):=by rw[wrap_id (by omega) (by omega)];omega
   have e2:IntKind.wrap .i64 ((a:Int)+i)=((a+i:Nat):Int):=by rw[wrap_id (by omega) (by omega)];omega
   have e3:IntKind.wrap .i64 ((i:Int)+1)=((i+1:Nat):Int):=by rw[wrap_id (by omega) (by omega)];omega
   refine hX _ H1 (br_y (by omega) ?_)
   rw[e1,e2,e3]
   have vb:swr f a b i (b+i)=f (b+i):=by unfold swr;rw[if_neg (by omega),if_neg (by omega)]
   have va:swr f a b i (a+i)=f (a+i):=by unfold swr;rw[if_neg (by omega),if_neg (by omega)]
   have rb:=d1.row (i:=b+i) (by omega)
   have ra:=d1.row (i:=a+i) (by omega)
   have ob:=d1.one (i:=b+i) (by omega)
   have oa:=d1.one (i:=a+i) (by omega)
   rw[vb] at rb ob
   rw[va] at ra oa
   refine⟨_,rfl,by omega,by omega,(f (b+i)).cells,rfl,by rw[Int.toNat_natCast];simpa using rb,_,rfl,by omega,by omega,(f (a+i)).cells,rfl,by rw[Int.toNat_natCast];simpa using ra,_,rfl,by omega,by omega,rfl,?_⟩
   simp only[add_none,Nat.zero_add,Int.toNat_natCast]
   refine d1.put (i:=a+i) (by omega) ob fun H2 d2 b2=>⟨_,rfl,by omega,by omega,rfl,?_⟩
   simp only[add_none,Nat.zero_add,Int.toNat_natCast]
   refine d2.put (i:=b+i) (by omega) oa fun H3 d3 b3=>?_
   refine ih (i+1) H3 (by omega) (by omega) (d3.congr fun j hj=>?_) (b1.trans (b2.trans b3))
   unfold upd swr
   by_cases h1:j=b+i
   ·rw[if_pos h1,if_neg (by omega),if_pos (by omega)];congr 1;omega
   ·rw[if_neg h1]
    by_cases h2:j=a+i
    ·rw[if_pos h2,if_pos (by omega)];congr 1;omega
    ·rw[if_neg h2]
     by_cases h3:a≤j∧j<a+i
     ·rw[if_pos h3,if_pos (by omega)]
     ·rw[if_neg h3,if_neg (by omega)]
      by_cases h4:b≤j∧j<b+i
      ·rw[if_pos h4,if_pos (by omega)]
      ·rw[if_neg h4,if_neg (by omega)]
 refine loop k 0 H (by omega) (by omega) (h.congr fun j hj=>?_) (But.refl _ _)
 unfold swr;rw[if_neg (by omega),if_neg (by omega)]
def rot(f:Nat→It)(a m b:Nat):Nat→It:=fun i=>if a≤i∧i<a+(b-m) then f (i+(m-a)) else if a+(b-m)≤i∧i<b then f (i-(b-m)) else f i
theorem rot_perm{f:Nat→It}{a m b:Nat}(h1:a≤m)(h2:m≤b):PermOn a b f (rot f a m b):=by
 refine⟨⟨fun i=>if i<a+(b-m) then i+(m-a) else i-(b-m),fun i hi hj=>?_,fun i j _ _ _ _ he=>?_,fun i hi hj=>?_⟩,fun i hi=>?_⟩
 ·simp only;split<;>omega
 ·simp only at he;split at he<;>split at he<;>omega
 ·show rot f a m b i=f (if _ then _ else _)
  unfold rot
  by_cases h:i<a+(b-m)
  ·rw[if_pos ⟨hi,h⟩,if_pos h]
  ·rw[if_neg (by omega),if_pos (by omega),if_neg h]
 ·unfold rot;rw[if_neg (by omega),if_neg (by omega)]
set_option maxHeartbeats 1000000 in
theorem c133{H:Heap}{blk n c a m b:Nat}{f:Nat→It}(h:DS H blk n f)(ham:a<m)(hmb:m<b)(hbn:b≤n)(hn:n≤1000000){gg:Nat}{R:Value→Heap→Prop}
 (hR: ∀H',DS H' blk n (rot f a m b)→But blk H H'→R (.tuple #[]) H'):
 CallsH Tryz.prog 133 #[.slice (some ⟨blk,0,none⟩) n c,.int .i64 a,.int .i64 m,.int .i64 b,.func (.func gg) #[] #[]] H R:=by
 refine Tryz.s133 ?_
 unfold Tryz.S133
 intro X hX
 have e1:IntKind.wrap .i64 ((m:Int)-a)=((m-a:Nat):Int):=by rw[wrap_id (by omega) (by omega)];omega
 have e2:IntKind.wrap .i64 ((b:Int)-m)=((b-m:Nat):Int):=by rw[wrap_id (by omega) (by omega)];omega
 rw[e1,e2]
 have loop: ∀(s i j:Nat) (H1:Heap) (g:Nat→It),i+j≤s→0<i→0<j→i≤m→a≤m-i→m+j≤b→DS H1 blk n g→But blk H H1→(∀k,rot g (m-i) m (m+j) k=rot f a m b k)→X [.int .i64 i,.int .i64 j] H1:=by
  intro s
  induction s with
  |zero=>intro i j H1 g hs hi hj;omega
  |succ s ih=>
   intro i j H1 g hs hi hj him hai hjb d1 b1 hg
   have w1:IntKind.wrap .i64 ((m:Int)-i)=((m-i:Nat):Int):=by rw[wrap_id (by omega) (by omega)];omega
   have w2:IntKind.wrap .i64 ((m:Int)+j)=((m+j:Nat):Int):=by rw[wrap_id (by omega) (by omega)];omega
   refine hX _ _ H1 (br_ne (fun hne=>br_dec (fun hgt=>?_) (fun hle=>?_)) (fun heq=>?_))
   ·have w3:IntKind.wrap .i64 ((i:Int)-j)=((i-j:Nat):Int):=by rw[wrap_id (by omega) (by omega)];omega
    rw[w1,w3]
    refine c134 (cm:= .nilFunc) d1 (a:=m-i) (b:=m) (k:=j) (by omega) (by omega) hn fun H2 d2 b2=>⟨rfl,?_⟩
    refine ih (i-j) j H2 _ (by omega) (by omega) hj (by omega) (by omega) hjb d2 (b1.trans b2) fun k=>?_
    rw[←hg k]
    unfold rot swr
    repeat' split
    all_goals first|omega|(congr 1;omega)|rfl
   ·have w3:IntKind.wrap .i64 ((j:Int)-i)=((j-i:Nat):Int):=by rw[wrap_id (by omega) (by omega)];omega
    have w4:IntKind.wrap .i64 (((m+j:Nat):Int)-i)=((m+j-i:Nat):Int):=by rw[wrap_id (by omega) (by omega)];omega
    rw[w1,w2,w3,w4]
    refine c134 (cm:= .nilFunc) d1 (a:=m-i) (b:=m+j-i) (k:=i) (by omega) (by omega) hn fun H2 d2 b2=>⟨rfl,?_⟩
    refine ih i (j-i) H2 _ (by omega) hi (by omega) him hai (by omega) d2 (b1.trans b2) fun k=>?_
    rw[←hg k]
    unfold rot swr
    repeat' split
    all_goals first|omega|(congr 1;omega)|rfl
   ·rw[w1]
    refine c134 (cm:= .nilFunc) d1 (a:=m-i) (b:=m) (k:=i) (by omega) (by omega) hn fun H2 d2 b2=>⟨rfl,hR H2 (d2.congr fun k hk=>?_) (b1.trans b2)⟩
    rw[←hg k]
    have:i=j:=by omega
    subst this
    unfold rot swr
    repeat' split
    all_goals first|omega|(congr 1;omega)|rfl
 refine loop (m-a+(b-m)) (m-a) (b-m) H f (Nat.le_refl _) (by omega) (by omega) (by omega) (by omega) (by omega) h (But.refl _ _) fun k=>?_
 have x1:m-(m-a)=a:=by omega
 have x2:m+(b-m)=b:=by omega
 rw[x1,x2]
end Go.Proofs
namespace Go.Proofs
open Go.Sh
set_option maxHeartbeats 4000000 in
theorem c131{g:Nat}(hc:Cmp g): ∀(s:Nat) {H:Heap} {blk n c a m b:Nat} {f:Nat→It},b-a≤s→DS H blk n f→Bnd n f→a<m→m<b→b≤n→n≤1000000→Srt a m f→Srt m b f→
 (∀p q,a≤p→p<m→m≤q→q<b→(f p).t<(f q).t)→ ∀{R:Value→Heap→Prop},(∀H' f',DS H' blk n f'→But blk H H'→PermOn a b f f'→Srt a b f'→R (.tuple #[]) H')→
 CallsH Tryz.prog 131 #[.slice (some ⟨blk,0,none⟩) n c,.int .i64 a,.int .i64 m,.int .i64 b,.func (.func g) #[] #[]] H R:=by
 intro s
 induction s with
 |zero=>intro H blk n c a m b f hs _ _ ham hmb;omega
 |succ s ihs=>
 intro H blk n c a m b f hs d bd ham hmb hbn hn sa sb tg R hR
 refine Tryz.s131 ?_
 unfold Tryz.S131
 have w1:IntKind.wrap .i64 ((m:Int)-a)=((m-a:Nat):Int):=by rw[wrap_id (by omega) (by omega)];omega
 have w2:IntKind.wrap .i64 ((b:Int)-m)=((b-m:Nat):Int):=by rw[wrap_id (by omega) (by omega)];omega
 rw[w1,w2]
 have inc: ∀{x:Nat},x≤4000000→IntKind.wrap .i64 ((x:Int)+1)=((x+1:Nat):Int):=fun{x} h=>by rw[wrap_id (by omega) (by omega)];omega
 refine br_eq (fun h1=>?_) (fun h1=>br_eq (fun h2=>?_) (fun h2=>?_))
 ·-- one item ahead
  have hm:m=a+1:=by omega
  intro X hX
  have search: ∀(k i j:Nat) (H1:Heap),j-i≤k→m≤i→i≤j→j≤b→Ext H H1→(∀q,m≤q→q<i→(f q).c<(f a).c)→(∀q,j≤q→q<b→(f a).c≤(f q).c)→X [.int .i64 i,.int .i64 j] H1:=by
   intro k
   induction k with
   |zero=>
    intro i j H1 hk hi hij hjb e1 lo hi2
    have:i=j:=by omega
    subst this
    have w3:IntKind.wrap .i64 ((i:Int)-1)=((i-1:Nat):Int):=by rw[wrap_id (by omega) (by omega)];omega
    refine hX _ _ H1 (br_n (by omega) ?_)
    rw[w3]
    intro Y hY
    have shift: ∀(r k:Nat) (H2:Heap),i-1-k=r→a≤k→k≤i-1→DS H2 blk n (rot f a (a+1) (k+1))→But blk H H2→Y [.int .i64 k] H2:=by
     intro r
     induction r with
     |zero=>
      intro k H2 hr hak hki d2 b2
      have hk1:k+1=i:=by omega
      rw[hk1] at d2
      refine hY _ H2 (br_n (by omega) (hR H2 _ d2 b2 ((rot_perm (by omega) (by omega)).widen (Nat.le_refl _) (by omega)) fun p q p1 p2 p3=>?_))
      unfold rot
      by_cases hp:p<i-1
      ·rw[if_pos (by omega)]
       by_cases hq:q<i-1
       ·rw[if_pos (by omega)];exact sb _ _ (by omega) (by omega) (by omega)
       ·rw[if_neg (by omega)]
        by_cases hq2:q<i
        ·rw[if_pos (by omega)]
         have:q-(i-(a+1))=a:=by omega
         rw[this];left;exact lo _ (by omega) (by omega)
        ·rw[if_neg (by omega)];exact sb _ _ (by omega) (by omega) (by omega)
      ·rw[if_neg (by omega)]
       by_cases hp2:p<i
       ·rw[if_pos (by omega),if_neg (by omega),if_neg (by omega)]
        have:p-(i-(a+1))=a:=by omega
        rw[this]
        have:=hi2 q (by omega) p3
        have:=tg a q (Nat.le_refl _) ham (by omega) p3
        unfold Lex;omega
       ·rw[if_neg (by omega),if_neg (by omega),if_neg (by omega)];exact sb _ _ (by omega) p2 p3
     |succ r ihr=>
      intro k H2 hr hak hki d2 b2
      have e1:=inc (x:=k) (by omega)
      refine hY _ H2 (br_y (by omega) ?_)
      rw[e1]
      have v1:rot f a (a+1) (k+1) (k+1)=f (k+1):=by unfold rot;rw[if_neg (by omega),if_neg (by omega)]
      have v0:rot f a (a+1) (k+1) k=f a:=by unfold rot;rw[if_neg (by omega),if_pos (by omega)];congr 1;omega
      have r1:=d2.row (i:=k+1) (by omega)
      have r0:=d2.row (i:=k) (by omega)
      have o1:=d2.one (i:=k+1) (by omega)
      have o0:=d2.one (i:=k) (by omega)
      rw[v1] at r1 o1
      rw[v0] at r0 o0
      refine⟨_,rfl,by omega,by omega,(f (k+1)).cells,rfl,by rw[Int.toNat_natCast];simpa using r1,_,rfl,by omega,by omega,(f a).cells,rfl,by rw[Int.toNat_natCast];simpa using r0,_,rfl,by omega,by omega,rfl,?_⟩
      simp only[add_none,Nat.zero_add,Int.toNat_natCast]
      refine d2.put (i:=k) (by omega) o1 fun H3 d3 b3=>⟨_,rfl,by omega,by omega,rfl,?_⟩
      simp only[add_none,Nat.zero_add,Int.toNat_natCast]
      refine d3.put (i:=k+1) (by omega) o0 fun H4 d4 b4=>?_
      refine ihr (k+1) H4 (by omega) (by omega) (by omega) (d4.congr fun j hj=>?_) (b2.trans (b3.trans b4))
      unfold upd rot
      by_cases h1:j=k+1
      ·rw[if_pos h1,if_neg (by omega),if_pos (by omega)];congr 1;omega
      ·rw[if_neg h1]
       by_cases h2:j=k
       ·rw[if_pos h2,if_pos (by omega)];congr 1;omega
       ·rw[if_neg h2]
        by_cases h3:a≤j∧j<k
        ·rw[if_pos (by omega),if_pos (by omega)]
        ·rw[if_neg (by omega),if_neg (by omega),if_neg (by omega),if_neg (by omega)]
    refine shift _ a H1 rfl (Nat.le_refl _) (by omega) ((d.ext e1).congr fun j hj=>?_) (But.ext e1)
    unfold rot
    by_cases h1:j=a
    ·rw[if_neg (by omega),if_pos (by omega)];congr 1;omega
    ·rw[if_neg (by omega),if_neg (by omega)]
   |succ k ihk=>
    intro i j H1 hk hi hij hjb e1 lo hi2
    by_cases hlt:i<j
    ·have hmid:=mid_eq (x:=i) (y:=j) (by omega)
     refine hX _ _ H1 (br_y (by omega) ?_)
     rw[hmid]
     have d1:=d.ext e1
     generalize hq:(i+j)/2=h
     have g1:i≤h:=by omega
     have g2:h<j:=by omega
     refine⟨by omega,_,rfl,by omega,by omega,(f h).cells,rfl,by rw[Int.toNat_natCast];simpa using d1.row (i:=h) (by omega),_,rfl,by omega,by omega,(f a).cells,rfl,by rw[Int.toNat_natCast];simpa using d1.row (i:=a) (by omega),?_⟩
     refine hc (f h) (f a) H1 _ (bd _ (by omega)) (bd _ (by omega)) fun H2 e2=>⟨_,rfl,br_dec (fun hl=>?_) (fun hl=>?_)⟩
     ·rw[inc (by omega)]
      refine ihk (h+1) j H2 (by omega) (by omega) (by omega) hjb (e1.trans e2) (fun q q1 q2=>?_) hi2
      by_cases hqh:q=h
      ·subst hqh;omega
      ·have:=(sb q h q1 (by omega) (by omega)).le;omega
     ·refine ihk i h H2 (by omega) hi (by omega) (by omega) (e1.trans e2) lo (fun q q1 q2=>?_)
      by_cases hqh:q=h
      ·subst hqh;omega
      ·have:=(sb h q (by omega) (by omega) q2).le;omega
    ·exact ihk i j H1 (by omega) hi hij hjb e1 lo hi2
  exact search _ m b H (Nat.le_refl _) (Nat.le_refl _) (by omega) (Nat.le_refl _) (Ext.refl _) (fun q q1 q2=>by omega) (fun q q1 q2=>by omega)
 ·-- one item behind
  have hb:b=m+1:=by omega
  intro X hX
  have search: ∀(k i j:Nat) (H1:Heap),j-i≤k→a≤i→i≤j→j≤m→Ext H H1→(∀q,a≤q→q<i→(f q).c≤(f m).c)→(∀q,j≤q→q<m→(f m).c<(f q).c)→X [.int .i64 i,.int .i64 j] H1:=by
   intro k
   induction k with
   |zero=>
    intro i j H1 hk hi hij hjb e1 lo hi2
    have:i=j:=by omega
    subst this
    refine hX _ _ H1 (br_n (by omega) ?_)
    intro Y hY
    have shift: ∀(r k:Nat) (H2:Heap),k-i=r→i≤k→k≤m→DS H2 blk n (rot f k m (m+1))→But blk H H2→Y [.int .i64 k] H2:=by
     intro r
     induction r with
     |zero=>
      intro k H2 hr hak hki d2 b2
      have hk1:k=i:=by omega
      subst hk1
      refine hY _ H2 (br_n (by omega) (hR H2 _ d2 b2 ((rot_perm (by omega) (by omega)).widen (by omega) (by omega)) fun p q p1 p2 p3=>?_))
      unfold rot
      by_cases hp:p<k
      ·rw[if_neg (by omega),if_neg (by omega)]
       by_cases hq:q<k
       ·rw[if_neg (by omega),if_neg (by omega)];exact sa _ _ (by omega) (by omega) (by omega)
       ·by_cases hq2:q=k
        ·rw[if_pos (by omega)]
         have:q+(m-k)=m:=by omega
         rw[this]
         have:=lo p p1 hp
         have:=tg p m p1 (by omega) (Nat.le_refl _) hmb
         unfold Lex;omega
        ·rw[if_neg (by omega),if_pos (by omega)];exact sa _ _ (by omega) (by omega) (by omega)
      ·by_cases hp2:p=k
       ·rw[if_pos (by omega),if_neg (by omega),if_pos (by omega)]
        have:p+(m-k)=m:=by omega
        rw[this]
        left;exact hi2 _ (by omega) (by omega)
       ·rw[if_neg (by omega),if_pos (by omega),if_neg (by omega),if_pos (by omega)];exact sa _ _ (by omega) (by omega) (by omega)
     |succ r ihr=>
      intro k H2 hr hak hki d2 b2
      have e1:IntKind.wrap .i64 ((k:Int)-1)=((k-1:Nat):Int):=by rw[wrap_id (by omega) (by omega)];omega
      refine hY _ H2 (br_y (by omega) ?_)
      rw[e1]
      have v1:rot f k m (m+1) (k-1)=f (k-1):=by unfold rot;rw[if_neg (by omega),if_neg (by omega)]
      have v0:rot f k m (m+1) k=f m:=by unfold rot;rw[if_pos (by omega)];congr 1;omega
      have r1:=d2.row (i:=k-1) (by omega)
      have r0:=d2.row (i:=k) (by omega)
      have o1:=d2.one (i:=k-1) (by omega)
      have o0:=d2.one (i:=k) (by omega)
      rw[v1] at r1 o1
      rw[v0] at r0 o0
      refine⟨_,rfl,by omega,by omega,(f (k-1)).cells,rfl,by rw[Int.toNat_natCast];simpa using r1,_,rfl,by omega,by omega,(f m).cells,rfl,by rw[Int.toNat_natCast];simpa using r0,_,rfl,by omega,by omega,rfl,?_⟩
      simp only[add_none,Nat.zero_add,Int.toNat_natCast]
      refine d2.put (i:=k) (by omega) o1 fun H3 d3 b3=>⟨_,rfl,by omega,by omega,rfl,?_⟩
      simp only[add_none,Nat.zero_add,Int.toNat_natCast]
      refine d3.put (i:=k-1) (by omega) o0 fun H4 d4 b4=>?_
      refine ihr (k-1) H4 (by omega) (by omega) (by omega) (d4.congr fun j hj=>?_) (b2.trans (b3.trans b4))
      unfold upd rot
      by_cases h1:j=k-1
      ·rw[if_pos h1,if_pos (by omega)];congr 1;omega
      ·rw[if_neg h1]
       by_cases h2:j=k
       ·rw[if_pos h2,if_neg (by omega),if_pos (by omega)];congr 1;omega
       ·rw[if_neg h2]
        by_cases h3:k+1≤j∧j<m+1
        ·rw[if_neg (by omega),if_pos (by omega),if_neg (by omega),if_pos (by omega)]
        ·rw[if_neg (by omega),if_neg (by omega),if_neg (by omega),if_neg (by omega)]
    refine shift _ m H1 rfl (by omega) (Nat.le_refl _) ((d.ext e1).congr fun j hj=>?_) (But.ext e1)
    unfold rot
    by_cases h1:j=m
    ·rw[if_pos (by omega)];congr 1;omega
    ·rw[if_neg (by omega),if_neg (by omega)]
   |succ k ihk=>
    intro i j H1 hk hi hij hjb e1 lo hi2
    by_cases hlt:i<j
    ·have hmid:=mid_eq (x:=i) (y:=j) (by omega)
     refine hX _ _ H1 (br_y (by omega) ?_)
     rw[hmid]
     have d1:=d.ext e1
     generalize hq:(i+j)/2=h
     have g1:i≤h:=by omega
     have g2:h<j:=by omega
     refine⟨by omega,_,rfl,by omega,by omega,(f m).cells,rfl,by rw[Int.toNat_natCast];simpa using d1.row (i:=m) (by omega),_,rfl,by omega,by omega,(f h).cells,rfl,by rw[Int.toNat_natCast];simpa using d1.row (i:=h) (by omega),?_⟩
     refine hc (f m) (f h) H1 _ (bd _ (by omega)) (bd _ (by omega)) fun H2 e2=>⟨_,rfl,br_not (fun hl=>?_) (fun hl=>?_)⟩
     ·have hl:=of_decide_eq_false hl
      rw[inc (by omega)]
      refine ihk (h+1) j H2 (by omega) (by omega) (by omega) hjb (e1.trans e2) (fun q q1 q2=>?_) hi2
      by_cases hqh:q=h
      ·subst hqh;omega
      ·have:=(sa q h q1 (by omega) (by omega)).le;omega
     ·have hl:=of_decide_eq_true hl
      refine ihk i h H2 (by omega) hi (by omega) (by omega) (e1.trans e2) lo (fun q q1 q2=>?_)
      by_cases hqh:q=h
      ·subst hqh;omega
      ·have:=(sa h q (by omega) (by omega) q2).le;omega
    ·exact ihk i j H1 (by omega) hi hij hjb e1 lo hi2
  exact search _ a m H (Nat.le_refl _) (Nat.le_refl _) (by omega) (Nat.le_refl _) (Ext.refl _) (fun q q1 q2=>by omega) (fun q q1 q2=>by omega)
 ·-- the general way
  have hmid:=mid_eq (x:=a) (y:=b) (by omega)
  rw[hmid]
  generalize hmd:(a+b)/2=mid
  have w3:IntKind.wrap .i64 ((mid:Int)+m)=((mid+m:Nat):Int):=by rw[wrap_id (by omega) (by omega)];omega
  have w4:IntKind.wrap .i64 (((mid+m:Nat):Int)-1)=((mid+m-1:Nat):Int):=by rw[wrap_id (by omega) (by omega)];omega
  rw[w3,w4]
  refine⟨by omega,?_⟩
  intro J hJ
  have go: ∀lo hi:Nat,a≤lo→lo≤hi→hi≤m→hi≤mid→(∀c,lo≤c→c<hi→m+c+1≤mid+m∧mid+m<b+c+1)→(lo=a∨mid+m=lo+b)→(hi=m∨hi=mid)→mid+m≤lo+b→J [.int .i64 lo,.int .i64 hi] H:=by
   intro lo hi F1 F1' F1'' F5 F2 F3 F4 F6
   refine hJ _ _ H ?_
   intro X hX
   have search: ∀(k i j:Nat) (H1:Heap),j-i≤k→lo≤i→i≤j→j≤hi→Ext H H1→(∀q,lo≤q→q<i→(f q).c≤(f (mid+m-1-q)).c)→(∀q,j≤q→q<hi→(f (mid+m-1-q)).c<(f q).c)→X [.int .i64 i,.int .i64 j] H1:=by
    intro k
    induction k with
    |zero=>
     intro st j H1 hk hlo hij hjb e1 pl ph
     have:st=j:=by omega
     subst this
     have w5:IntKind.wrap .i64 (((mid+m:Nat):Int)-st)=((mid+m-st:Nat):Int):=by rw[wrap_id (by omega) (by omega)];omega
     refine hX _ _ H1 (br_n (by omega) ?_)
     rw[w5]
     generalize hE:mid+m-st=E
     have E1:m≤E:=by omega
     have E2:E≤b:=by omega
     have E3:st≤m:=by omega
     have d1:=d.ext e1
     -- what stands there when the middle has been turned
     have cross: ∀p q,a≤p→p<mid→mid≤q→q<b→Lex (rot f st m E p) (rot f st m E q):=by
      intro p q p1 p2 q1 q2
      unfold rot
      by_cases hp:p<st
      ·rw[if_neg (by omega),if_neg (by omega),if_neg (by omega)]
       by_cases hq:q<E
       ·rw[if_pos (by omega)];exact sa _ _ p1 (by omega) (by omega)
       ·rw[if_neg (by omega)]
        have hsl:lo<st:=by rcases F3 with h|h<;>omega
        have z1:=pl (st-1) (by omega) (by omega)
        have z2:mid+m-1-(st-1)=E:=by omega
        rw[z2] at z1
        have z3:(f p).c≤(f (st-1)).c:=by
         by_cases h:p=st-1
         ·rw[h];exact Int.le_refl _
         ·exact(sa p (st-1) p1 (by omega) (by omega)).le
        have z4:(f E).c≤(f q).c:=by
         by_cases h:E=q
         ·rw[h];exact Int.le_refl _
         ·exact(sb E q E1 (by omega) q2).le
        have z5:=tg p q p1 (by omega) (by omega) q2
        unfold Lex;omega
      ·rw[if_pos (by omega),if_neg (by omega)]
       by_cases hq:q<E
       ·rw[if_pos (by omega)]
        have hsh:st<hi:=by rcases F4 with h|h<;>omega
        have z1:=ph st (Nat.le_refl _) hsh
        have z2:mid+m-1-st=E-1:=by omega
        rw[z2] at z1
        left
        have z3:(f (p+(m-st))).c≤(f (E-1)).c:=by
         by_cases h:p+(m-st)=E-1
         ·rw[h];exact Int.le_refl _
         ·exact(sb _ _ (by omega) (by omega) (by omega)).le
        have z4:(f st).c≤(f (q-(E-m))).c:=by
         by_cases h:st=q-(E-m)
         ·rw[←h];exact Int.le_refl _
         ·exact(sa _ _ (by omega) (by omega) (by omega)).le
        omega
       ·rw[if_neg (by omega)];exact sb _ _ (by omega) (by omega) q2
     have sl:Srt a st (rot f st m E):=fun p q p1 p2 p3=>by unfold rot;rw[if_neg (by omega),if_neg (by omega),if_neg (by omega),if_neg (by omega)];exact sa p q p1 p2 (by omega)
     have sm:Srt st mid (rot f st m E):=fun p q p1 p2 p3=>by unfold rot;rw[if_pos (by omega),if_pos (by omega)];exact sb _ _ (by omega) (by omega) (by omega)
     have sm2:Srt mid E (rot f st m E):=fun p q p1 p2 p3=>by unfold rot;rw[if_neg (by omega),if_pos (by omega),if_neg (by omega),if_pos (by omega)];exact sa _ _ (by omega) (by omega) (by omega)
     have sr:Srt E b (rot f st m E):=fun p q p1 p2 p3=>by unfold rot;rw[if_neg (by omega),if_neg (by omega),if_neg (by omega),if_neg (by omega)];exact sb _ _ (by omega) p2 p3
     have tl: ∀p q,a≤p→p<st→st≤q→q<mid→(rot f st m E p).t<(rot f st m E q).t:=fun p q p1 p2 q1 q2=>by
      unfold rot;rw[if_neg (by omega),if_neg (by omega),if_pos (by omega)];exact tg _ _ p1 (by omega) (by omega) (by omega)
     have tr: ∀p q,mid≤p→p<E→E≤q→q<b→(rot f st m E p).t<(rot f st m E q).t:=fun p q p1 p2 q1 q2=>by
      unfold rot;rw[if_neg (by omega),if_pos (by omega),if_neg (by omega),if_neg (by omega)];exact tg _ _ (by omega) (by omega) (by omega) q2
     have pr:PermOn a b f (rot f st m E):=(rot_perm E3 E1).widen (by omega) E2
     have bg:=pr.bnd hbn bd
     intro J1 hJ1
     have after: ∀H2,DS H2 blk n (rot f st m E)→But blk H H2→J1 [] H2:=by
      intro H2 d2 b2
      generalize rot f st m E=g at d2 cross sl sm sm2 sr tl tr pr bg
      refine hJ1 H2 ?_
      intro J2 hJ2
      have right: ∀(H3:Heap) (g2:Nat→It),DS H3 blk n g2→But blk H H3→PermOn a mid g g2→Srt a mid g2→J2 [] H3:=by
       intro H3 g2 d3 b3 p3 s3
       refine hJ2 H3 ?_
       have gr: ∀i,mid≤i→g2 i=g i:=fun i hi=>p3.out i (by omega)
       have fin: ∀(H4:Heap) (g3:Nat→It),DS H4 blk n g3→But blk H H4→PermOn mid b g2 g3→Srt mid b g3→R (.tuple #[]) H4:=by
        intro H4 g3 d4 b4 p4 s4
        refine hR H4 g3 d4 b4 (pr.trans ((p3.widen (Nat.le_refl _) (by omega)).trans (p4.widen (by omega) (Nat.le_refl _)))) fun p q p1 p2 q2=>?_
        by_cases hp:p<mid
        ·rw[p4.out p (by omega)]
         by_cases hq:q<mid
         ·rw[p4.out q (by omega)];exact s3 p q p1 p2 hq
         ·refine p4.all (P:=fun y=>Lex (g2 p) y) (fun i i1 i2=>?_) q (by omega) q2
          rw[gr i i1]
          exact p3.all (P:=fun x=>Lex x (g i)) (fun k k1 k2=>cross k i k1 k2 i1 i2) p p1 hp
        ·exact s4 p q (by omega) p2 q2
       refine br_dec (fun hme=>br_dec (fun heb=>?_) (fun heb=>?_)) (fun hme=>?_)
       ·refine ihs (by omega) d3 (p3.bnd (by omega) bg) (by omega) (by omega) hbn hn (fun p q p1 p2 q2=>?_) (fun p q p1 p2 q2=>?_) (fun p q p1 p2 q1 q2=>?_) (fun H4 g3 d4 b4 p4 s4=>⟨rfl,fin H4 g3 d4 (b3.trans b4) p4 s4⟩)
        ·rw[gr p p1,gr q (by omega)];exact sm2 p q p1 p2 q2
        ·rw[gr p (by omega),gr q (by omega)];exact sr p q p1 p2 q2
        ·rw[gr p p1,gr q (by omega)];exact tr p q p1 p2 q1 q2
       ·refine fin H3 g2 d3 b3 (PermOn.refl _ _ _) fun p q p1 p2 q2=>?_
        rw[gr p p1,gr q (by omega)];exact sm2 p q p1 p2 (by omega)
       ·refine fin H3 g2 d3 b3 (PermOn.refl _ _ _) fun p q p1 p2 q2=>?_
        rw[gr p p1,gr q (by omega)];exact sr p q (by omega) p2 q2
      refine br_dec (fun has=>br_dec (fun hsm=>?_) (fun hsm=>?_)) (fun has=>?_)
      ·refine ihs (by omega) d2 bg (by omega) (by omega) (by omega) hn sl sm tl (fun H3 g2 d3 b3 p3 s3=>⟨rfl,right H3 g2 d3 (b2.trans b3) p3 s3⟩)
      ·exact right H2 g d2 b2 (PermOn.refl _ _ _) fun p q p1 p2 q2=>sl p q p1 p2 (by omega)
      ·exact right H2 g d2 b2 (PermOn.refl _ _ _) fun p q p1 p2 q2=>sm p q (by omega) p2 q2
     have idn: ¬(st<m∧m<E)→ ∀i,i<n→rot f st m E i=f i:=fun hn i hi=>by
      unfold rot
      by_cases h1:st≤i∧i<st+(E-m)
      ·rw[if_pos h1];congr 1;omega
      ·rw[if_neg h1]
       by_cases h2:st+(E-m)≤i∧i<E
       ·rw[if_pos h2];congr 1;omega
       ·rw[if_neg h2]
     refine br_dec (fun hsm=>br_dec (fun hmE=>?_) (fun hmE=>?_)) (fun hsm=>?_)
     ·refine c133 d1 (by omega) (by omega) (by omega) hn fun H2 d2 b2=>⟨rfl,after H2 d2 ((But.ext e1).trans b2)⟩
     ·exact after H1 (d1.congr (idn (by omega))) (But.ext e1)
     ·exact after H1 (d1.congr (idn (by omega))) (But.ext e1)
    |succ k ihk=>
     intro i j H1 hk hi' hij hjb e1 pl ph
     by_cases hlt:i<j
     ·have hmid:=mid_eq (x:=i) (y:=j) (by omega)
      refine hX _ _ H1 (br_y (by omega) ?_)
      rw[hmid]
      have d1:=d.ext e1
      generalize hq:(i+j)/2=h
      have g1:i≤h:=by omega
      have g2:h<j:=by omega
      have f2:=F2 h (by omega) (by omega)
      have w6:IntKind.wrap .i64 (((mid+m-1:Nat):Int)-(h:Nat))=((mid+m-1-h:Nat):Int):=by rw[wrap_id (by omega) (by omega)];omega
      rw[w6]
      refine⟨by omega,_,rfl,by omega,by omega,(f (mid+m-1-h)).cells,rfl,by rw[Int.toNat_natCast];simpa using d1.row (i:=mid+m-1-h) (by omega),_,rfl,by omega,by omega,(f h).cells,rfl,by rw[Int.toNat_natCast];simpa using d1.row (i:=h) (by omega),?_⟩
      refine hc (f (mid+m-1-h)) (f h) H1 _ (bd _ (by omega)) (bd _ (by omega)) fun H2 e2=>⟨_,rfl,br_not (fun hl=>?_) (fun hl=>?_)⟩
      ·have hl:=of_decide_eq_false hl
       rw[inc (by omega)]
       refine ihk (h+1) j H2 (by omega) (by omega) (by omega) hjb (e1.trans e2) (fun q q1 q2=>?_) ph
       by_cases hqh:q=h
       ·subst hqh;omega
       ·have z1:=(sa q h (by omega) (by omega) (by omega)).le
        have z2:=(sb (mid+m-1-h) (mid+m-1-q) (by omega) (by omega) (by have:=F2 q (by omega) (by omega);omega)).le
        omega
      ·have hl:=of_decide_eq_true hl
       refine ihk i h H2 (by omega) hi' (by omega) (by omega) (e1.trans e2) pl (fun q q1 q2=>?_)
       by_cases hqh:q=h
       ·subst hqh;omega
       ·have z1:=(sa h q (by omega) (by omega) (by omega)).le
        have z2:=(sb (mid+m-1-q) (mid+m-1-h) (by have:=F2 q (by omega) (by omega);omega) (by have:=F2 q (by omega) (by omega);omega) (by omega)).le
        omega
     ·exact ihk i j H1 (by omega) hi' hij hjb e1 pl ph
   exact search _ lo hi H (Nat.le_refl _) (Nat.le_refl _) F1' (Nat.le_refl _) (Ext.refl _) (fun q q1 q2=>by omega) (fun q q1 q2=>by omega)
  refine br_dec (fun hgt=>?_) (fun hle=>?_)
  ·have w5:IntKind.wrap .i64 (((mid+m:Nat):Int)-b)=((mid+m-b:Nat):Int):=by rw[wrap_id (by omega) (by omega)];omega
   rw[w5]
   exact go _ _ (by omega) (by omega) (by omega) (by omega) (fun c c1 c2=>by omega) (.inr (by omega)) (.inr rfl) (by omega)
  ·exact go _ _ (by omega) (by omega) (by omega) (by omega) (fun c c1 c2=>by omega) (.inl rfl) (.inl rfl) (by omega)
end Go.Proofs
namespace Go.Proofs
open Go.Sh
structure Cut(n:Nat)(f:Nat→It)(bd:Nat→Prop)(f1:Nat→It):Prop where
 perm:PermOn 0 n f f1
 lex: ∀p q,p<q→q<n→(∀r,p<r→r≤q→ ¬bd r)→Lex (f1 p) (f1 q)
 tag: ∀p q r,p<r→r≤q→q<n→bd r→(f1 p).t<(f1 q).t
theorem Cut.congr{n:Nat}{f f1:Nat→It}{bd bd':Nat→Prop}(h:Cut n f bd f1)(hb: ∀r,0<r→r<n→(bd r↔bd' r)):Cut n f bd' f1:=
 ⟨h.perm,fun p q hpq hq hn=>h.lex p q hpq hq fun r r1 r2 hr=>hn r r1 r2 ((hb r (by omega) (by omega)).1 hr),fun p q r r1 r2 hq hr=>h.tag p q r r1 r2 hq ((hb r (by omega) (by omega)).2 hr)⟩
theorem Cut.step{n:Nat}{f f1 f2:Nat→It}{bd:Nat→Prop}(h:Cut n f bd f1){a b:Nat}(ha:a=0∨bd a)(hb:b=n∨bd b)(hbn:b≤n)(hp:PermOn a b f1 f2)(hs:Srt a b f2):Cut n f (fun r=>bd r∧ ¬(a<r∧r<b)) f2:=by
 refine⟨h.perm.trans (hp.widen (by omega) hbn),fun p q hpq hq hn=>?_,fun p q r r1 r2 hq hr=>?_⟩
 ·by_cases h1:a≤p
  ·by_cases h2:q<b
   ·exact hs p q h1 hpq h2
   ·by_cases h3:b≤p
    ·rw[hp.out p (by omega),hp.out q (by omega)]
     exact h.lex p q hpq hq fun r r1 r2 hr=>hn r r1 r2 ⟨hr,by omega⟩
    ·rcases hb with hb|hb
     ·omega
     ·exact absurd ⟨hb,by omega⟩ (hn b (by omega) (by omega))
  ·by_cases h2:a≤q
   ·rcases ha with ha|ha
    ·omega
    ·exact absurd ⟨ha,by omega⟩ (hn a (by omega) h2)
   ·rw[hp.out p (by omega),hp.out q (by omega)]
    exact h.lex p q hpq hq fun r r1 r2 hr=>hn r r1 r2 ⟨hr,by omega⟩
 ·obtain⟨hr,hrn⟩:=hr
  by_cases h1:r≤a
  ·rw[hp.out p (by omega)]
   by_cases h2:a≤q∧q<b
   ·exact hp.all (P:=fun y=>(f1 p).t<y.t) (fun i i1 i2=>h.tag p i r r1 (by omega) (by omega) hr) q h2.1 h2.2
   ·rw[hp.out q h2];exact h.tag p q r r1 r2 hq hr
  ·rw[hp.out q (by omega)]
   by_cases h2:a≤p∧p<b
   ·exact hp.all (P:=fun y=>y.t<(f1 q).t) (fun i i1 i2=>h.tag i q r (by omega) r2 hq hr) p h2.1 h2.2
   ·rw[hp.out p h2];exact h.tag p q r r1 r2 hq hr
theorem dvd_gap{d a r:Nat}(h1:d∣a)(h2:d∣r)(h:a<r):a+d≤r:=by
 have:=Nat.le_of_dvd (by omega) (Nat.dvd_sub h2 h1)
 omega
set_option maxHeartbeats 2000000 in
theorem c125{g:Nat}(hc:Cmp g){H:Heap}{blk n c:Nat}{f:Nat→It}(h:DS H blk n f)(hb:Bnd n f)(hn:n≤1000000)(ht:Tags 0 n f){R:Value→Heap→Prop}
 (hR: ∀H' f',DS H' blk n f'→But blk H H'→PermOn 0 n f f'→Srt 0 n f'→R (.tuple #[]) H'):
 CallsH Tryz.prog 125 #[.slice (some ⟨blk,0,none⟩) n c,.int .i64 n,.func (.func g) #[] #[]] H R:=by
 refine Tryz.s125 ?_
 unfold Tryz.S125
 intro X hX
 -- the merges
 have merges: ∀(H1:Heap) (f1:Nat→It),DS H1 blk n f1→But blk H H1→Cut n f (fun r=>20∣r) f1→ ∀Y:List Value→Heap→Prop,(∀blockSize13:Int,∀H_14:Heap,(br (decide ((blockSize13:Int)<(n:Int))) (∀X_15:List Value→Heap→Prop,(∀a16:Int,∀b17:Int,∀H_18:Heap,(br (decide ((b17:Int)≤(n:Int))) (CallsH Tryz.prog 131 #[Value.slice (some ⟨blk,0,none⟩) n c,Value.int .i64 a16,Value.int .i64 (IntKind.wrap .i64 (a16+blockSize13)),Value.int .i64 b17,Value.func (.func g) #[] #[]] H_18 fun r19 H_20=>r19=Value.tuple #[]∧X_15 [Value.int .i64 b17,Value.int .i64 (IntKind.wrap .i64 (b17+(IntKind.wrap .i64 ((2:Int)*blockSize13))))] H_20) (br (decide (((IntKind.wrap .i64 (a16+blockSize13)):Int)<(n:Int))) (CallsH Tryz.prog 131 #[Value.slice (some ⟨blk,0,none⟩) n c,Value.int .i64 a16,Value.int .i64 (IntKind.wrap .i64 (a16+blockSize13)),Value.int .i64 (n:Int),Value.func (.func g) #[] #[]] H_18 fun r21 H_22=>r21=Value.tuple #[]∧Y [Value.int .i64 (IntKind.wrap .i64 (blockSize13*(2:Int)))] H_22) (Y [Value.int .i64 (IntKind.wrap .i64 (blockSize13*(2:Int)))] H_18)))→X_15 [Value.int .i64 a16,Value.int .i64 b17] H_18)→X_15 [Value.int .i64 (0:Int),Value.int .i64 (IntKind.wrap .i64 ((2:Int)*blockSize13))] H_14) (R (Value.tuple #[]) H_14))→Y [Value.int .i64 blockSize13] H_14)→Y [Value.int .i64 (20:Int)] H1:=by
  intro H1 f1 d1 b1 k1 Y hY
  have rounds: ∀(m bs:Nat) (H2:Heap) (f2:Nat→It),n-bs≤m→0<bs→DS H2 blk n f2→But blk H H2→Cut n f (fun r=>bs∣r) f2→Y [.int .i64 bs] H2:=by
   intro m
   induction m with
   |zero=>
    intro bs H2 f2 hm hbs d2 b2 k2
    refine hY _ H2 (br_n (by omega) (hR H2 f2 d2 b2 k2.perm fun p q p1 p2 p3=>k2.lex p q p2 p3 fun r r1 r2 hr=>?_))
    have:=Nat.le_of_dvd (by omega) hr
    omega
   |succ m ih=>
    intro bs H2 f2 hm hbs d2 b2 k2
    by_cases hlt:bs<n
    ·have w1:IntKind.wrap .i64 ((2:Int)*bs)=((2*bs:Nat):Int):=by rw[wrap_id (by omega) (by omega)];omega
     have w2:IntKind.wrap .i64 ((bs:Int)*2)=((2*bs:Nat):Int):=by rw[wrap_id (by omega) (by omega)];omega
     refine hY _ H2 (br_y (by omega) ?_)
     rw[w1,w2]
     intro Z hZ
     have h2bs: ∀r,2*bs∣r→bs∣r:=fun r hr=>Nat.dvd_trans (Nat.dvd_mul_left _ _) hr
     have inner: ∀(m2 a:Nat) (H3:Heap) (f3:Nat→It),n-a≤m2→2*bs∣a→a≤n→DS H3 blk n f3→But blk H H3→Cut n f (fun r=>bs∣r∧(r≤a→2*bs∣r)) f3→Z [.int .i64 a,.int .i64 ((a+2*bs:Nat):Int)] H3:=by
      intro m2
      induction m2 with
      |zero=>
       intro a H3 f3 hm2 hda han d3 b3 k3
       have w3:IntKind.wrap .i64 ((a:Int)+bs)=((a+bs:Nat):Int):=by rw[wrap_id (by omega) (by omega)];omega
       refine hZ _ _ H3 (br_n (by omega) ?_)
       rw[w3]
       refine br_n (by omega) (ih (2*bs) H3 f3 (by omega) (by omega) d3 b3 (k3.congr fun r r0 rn=>⟨fun hh=>hh.2 (by omega),fun hh=>⟨h2bs r hh,fun _=>hh⟩⟩))
      |succ m2 ih2=>
       intro a H3 f3 hm2 hda han d3 b3 k3
       have w3:IntKind.wrap .i64 ((a:Int)+bs)=((a+bs:Nat):Int):=by rw[wrap_id (by omega) (by omega)];omega
       have bnd3:Bnd n f3:=k3.perm.bnd (Nat.le_refl _) hb
       have hab:bs∣a:=h2bs a hda
       have hs1: ∀e,e≤a+bs→e≤n→Srt a e f3:=fun e he hen p q p1 p2 p3=>k3.lex p q p2 (by omega) fun r r1 r2 hr=>by
        have:=dvd_gap hab hr.1 (by omega);omega
       have hs2: ∀e,e≤a+2*bs→e≤n→Srt (a+bs) e f3:=fun e he hen p q p1 p2 p3=>k3.lex p q p2 (by omega) fun r r1 r2 hr=>by
        have:=dvd_gap (Nat.dvd_add hab (Nat.dvd_refl bs)) hr.1 (by omega);omega
       have htg: ∀e,e≤n→ ∀p q,a≤p→p<a+bs→a+bs≤q→q<e→(f3 p).t<(f3 q).t:=fun e hen p q p1 p2 q1 q2=>k3.tag p q (a+bs) p2 q1 (by omega) ⟨Nat.dvd_add hab (Nat.dvd_refl bs),fun hh=>by omega⟩
       refine hZ _ _ H3 (br_dec (fun hle=>?_) (fun hgt=>?_))
       ·rw[w3]
        have w4:IntKind.wrap .i64 (((a+2*bs:Nat):Int)+((2*bs:Nat):Int))=((a+2*bs+2*bs:Nat):Int):=by rw[wrap_id (by omega) (by omega)];omega
        rw[w4]
        refine c131 hc _ (Nat.le_refl _) d3 bnd3 (by omega) (by omega) (by omega) hn (hs1 _ (Nat.le_refl _) (by omega)) (hs2 _ (Nat.le_refl _) (by omega)) (htg _ (by omega)) (fun H4 f4 d4 b4 p4 s4=>⟨rfl,?_⟩)
        have hd2:2*bs∣a+2*bs:=Nat.dvd_add hda (Nat.dvd_refl _)
        refine ih2 (a+2*bs) H4 f4 (by omega) hd2 (by omega) d4 (b3.trans b4) ((k3.step (.inr ⟨hab,fun _=>hda⟩) (.inr ⟨h2bs _ hd2,fun _=>hd2⟩) (by omega) p4 s4).congr fun r r0 rn=>⟨fun hh=>⟨hh.1.1,fun hle2=>?_⟩,fun hh=>⟨⟨hh.1,fun hra=>hh.2 (by omega)⟩,fun hc=>?_⟩⟩)
        ·by_cases hra:r≤a
         ·exact hh.1.2 hra
         ·have:r=a+2*bs:=by
           have:=hh.2;omega
          rw[this];exact hd2
        ·have:=dvd_gap hda (hh.2 (by omega)) hc.1;omega
       ·rw[w3]
        refine br_dec (fun hlt2=>?_) (fun hge=>?_)
        ·refine c131 hc _ (Nat.le_refl _) d3 bnd3 (by omega) (by omega) (Nat.le_refl _) hn (hs1 _ (Nat.le_refl _) (by omega)) (hs2 _ (by omega) (Nat.le_refl _)) (htg _ (Nat.le_refl _)) (fun H4 f4 d4 b4 p4 s4=>⟨rfl,?_⟩)
         refine ih (2*bs) H4 f4 (by omega) (by omega) d4 (b3.trans b4) ((k3.step (.inr ⟨hab,fun _=>hda⟩) (.inl rfl) (Nat.le_refl _) p4 s4).congr fun r r0 rn=>⟨fun hh=>hh.1.2 (by have:=hh.2;omega),fun hh=>⟨⟨h2bs r hh,fun _=>hh⟩,fun hc=>?_⟩⟩)
         have:=dvd_gap hda hh hc.1;omega
        ·refine ih (2*bs) H3 f3 (by omega) (by omega) d3 b3 (k3.congr fun r r0 rn=>⟨fun hh=>?_,fun hh=>⟨h2bs r hh,fun _=>hh⟩⟩)
         by_cases hra:r≤a
         ·exact hh.2 hra
         ·have:=dvd_gap hab hh.1 (by omega);omega
     have:=inner n 0 H2 f2 (by omega) ⟨0,rfl⟩ (by omega) d2 b2 (k2.congr fun r r0 rn=>⟨fun hh=>⟨hh,fun h0=>by omega⟩,fun hh=>hh.1⟩)
     simpa using this
    ·exact ih bs H2 f2 (by omega) hbs d2 b2 k2
  exact rounds n 20 H1 f1 (by omega) (by omega) d1 b1 k1
 have blocks: ∀(m a:Nat) (H1:Heap) (f1:Nat→It),n-a≤m→20∣a→a≤n→DS H1 blk n f1→But blk H H1→(∀i,a≤i→f1 i=f i)→Cut n f (fun r=>0<r∧(r≤a→20∣r)) f1→X [.int .i64 a,.int .i64 ((a+20:Nat):Int)] H1:=by
  have last: ∀(a:Nat) (H1:Heap) (f1:Nat→It),n<a+20→20∣a→a≤n→DS H1 blk n f1→But blk H H1→(∀i,a≤i→f1 i=f i)→Cut n f (fun r=>0<r∧(r≤a→20∣r)) f1→X [.int .i64 a,.int .i64 ((a+20:Nat):Int)] H1:=by
   intro a H1 f1 hlt hda han d1 b1 old k1
   refine hX _ _ H1 (br_n (by omega) ?_)
   refine c130 hc d1 (k1.perm.bnd (Nat.le_refl _) hb) han (Nat.le_refl _) hn (fun p q p1 p2 p3=>by rw[old p p1,old q (by omega)];exact ht p q (by omega) p2 p3) fun H2 f2 d2 b2 p2 s2=>⟨rfl,?_⟩
   intro Y hY
   refine merges H2 f2 d2 (b1.trans b2) ((k1.step (a:=a) (b:=n) ?_ (.inl rfl) (Nat.le_refl _) p2 s2).congr fun r r0 rn=>⟨fun hh=>hh.1.2 (by have:=hh.2;omega),fun hh=>⟨⟨r0,fun _=>hh⟩,fun hc=>?_⟩⟩) Y hY
   ·by_cases h0:a=0
    ·exact .inl h0
    ·exact .inr ⟨by omega,fun _=>hda⟩
   ·have:=dvd_gap hda hh hc.1;omega
  intro m
  induction m with
  |zero=>
   intro a H1 f1 hm hda han
   exact last a H1 f1 (by omega) hda han
  |succ m ih=>
   intro a H1 f1 hm hda han d1 b1 old k1
   by_cases hle:a+20≤n
   ·have w:IntKind.wrap .i64 (((a+20:Nat):Int)+(20:Int))=((a+20+20:Nat):Int):=by rw[wrap_id (by omega) (by omega)];omega
    refine hX _ _ H1 (br_y (by omega) ?_)
    rw[w]
    refine c130 hc d1 (k1.perm.bnd (Nat.le_refl _) hb) (by omega) hle hn (fun p q p1 p2 p3=>by rw[old p p1,old q (by omega)];exact ht p q (by omega) p2 (by omega)) fun H2 f2 d2 b2 p2 s2=>⟨rfl,?_⟩
    refine ih (a+20) H2 f2 (by omega) (by omega) hle d2 (b1.trans b2) (fun i hi=>by rw[p2.out i (by omega),old i (by omega)]) ((k1.step (a:=a) (b:=a+20) ?_ (.inr ⟨by omega,fun h=>by omega⟩) hle p2 s2).congr fun r r0 rn=>⟨fun hh=>⟨r0,fun h20=>?_⟩,fun hh=>⟨⟨r0,fun h=>hh.2 (by omega)⟩,fun hc=>?_⟩⟩)
    ·by_cases h0:a=0
     ·exact .inl h0
     ·exact .inr ⟨by omega,fun _=>hda⟩
    ·have:=hh.2
     have:=hh.1.2
     omega
    ·have:=hh.2 (by omega)
     omega
   ·exact last a H1 f1 (by omega) hda han d1 b1 old k1
 have:=blocks n 0 H f (by omega) ⟨0,rfl⟩ (by omega) h (But.refl _ _) (fun _ _=>rfl) ⟨PermOn.refl _ _ _,fun p q p1 p2 hn=>absurd ⟨by omega,fun h=>by omega⟩ (hn q p1 (Nat.le_refl _)),fun p q r r1 r2 hq hr=>ht p q (by omega) (by omega) hq⟩
 simpa using this
theorem c111{g:Nat}(hc:Cmp g){H:Heap}{blk n c:Nat}{f:Nat→It}(h:DS H blk n f)(hb:Bnd n f)(hn:n≤1000000)(ht:Tags 0 n f){R:Value→Heap→Prop}
 (hR: ∀H' f',DS H' blk n f'→But blk H H'→PermOn 0 n f f'→Srt 0 n f'→R (.tuple #[]) H'):
 CallsH Tryz.prog 111 #[.slice (some ⟨blk,0,none⟩) n c,.func (.func g) #[] #[]] H R:=by
 refine Tryz.s111 ?_
 unfold Tryz.S111
 exact c125 hc h hb hn ht fun H' f' d b p s=>⟨rfl,hR H' f' d b p s⟩
end Go.Proofs
namespace Go.Proofs
open Go.Sh
theorem c132{H:Heap}{n:Nat}(hn:n≤1000000){R:Value→Heap→Prop}(hR: ∀H' p' c',FS H.size H' p' 0 c' 165 2 []→Ext H H'→R (.slice p' 0 c') H'):
 CallsH Tryz.prog 132 #[.slice none 0 0,.int .i64 n] H R:=by
 refine Tryz.s132 ?_
 unfold Tryz.S132
 intro J hJ
 refine br_n (by omega) (hJ H ?_)
 have w1:IntKind.wrap .i64 (((0:Nat):Int)-((0:Nat):Int))=0:=by decide
 have w2:IntKind.wrap .i64 ((n:Int)-0)=(n:Int):=by rw[wrap_id (by omega) (by omega)];omega
 rw[w1,w2]
 refine br_dec (fun hp=>⟨by omega,by omega,by omega,by omega,?_,by omega,fun h0=>by omega,fun _=>⟨#[],rfl,fun c' hc'=>⟨by omega,by omega,?_⟩⟩⟩) (fun h0=>hR H none 0 (FS.nil _ _ _ _) (Ext.refl _))
 ·simp;omega
 ·have hc0:c'≠0:=by simp at hc';omega
  simp only[hc0,if_false,Option.map_some,Nat.sub_zero,Int.toNat_natCast,Nat.zero_mul,add_none,Nat.zero_add]
  refine hR _ _ c' ⟨rfl,Nat.zero_le _,by simp,.inr ⟨H.size,_,rfl,Nat.le_refl _,get_push_self _ _,?_,fun i v hv=>by simp at hv⟩⟩ (Ext.push _ _)
  rw[zeroCells_eq _ _ (by simp)]
  simp[reps_length] at hc' ⊢
  omega
theorem c126{H:Heap}{b:Nat}{p1 p2:Option Addr}{l1 c1 l2 c2:Nat}{tt:TypeId}{A B:List Value}(hb:H[b]?=some (.cells #[.slice p1 l1 c1,.slice p2 l2 c2] tt))(hA:RS H p1 l1 165 2 A)(hB:RS H p2 l2 165 2 B)(hl:l1+l2≤1000000){R:Value→Heap→Prop}
 (hR: ∀H' p' c',FS H.size H' p' (l1+l2) c' 165 2 (A++B)→Ext H H'→R (.slice p' (l1+l2) c') H'):CallsH Tryz.prog 126 #[.slice (some ⟨b,0,none⟩) 2 2] H R:=by
 refine Tryz.s126 ?_
 unfold Tryz.S126
 intro X hX
 have g0: ∀{H':Heap},Ext H H'→cell H' ⟨b,0,none⟩=some (.slice p1 l1 c1):=fun e=>cell_get (e _ _ hb) rfl
 have g1: ∀{H':Heap},Ext H H'→cell H' ⟨b,1,none⟩=some (.slice p2 l2 c2):=fun e=>cell_get (e _ _ hb) rfl
 have w0:IntKind.wrap .i64 ((0:Int)+((l1:Nat):Int))=(l1:Int):=by rw[wrap_id (by omega) (by omega)];omega
 have w1:IntKind.wrap .i64 ((l1:Int)+((l2:Nat):Int))=((l1+l2:Nat):Int):=by rw[wrap_id (by omega) (by omega)];omega
 have i1:IntKind.wrap .i64 ((0:Int)+1)=1:=by decide
 have i2:IntKind.wrap .i64 ((1:Int)+1)=2:=by decide
 refine hX _ _ H (br_y (by omega) ⟨_,rfl,by omega,by omega,p1,l1,c1,by simpa using g0 (Ext.refl _),?_⟩)
 rw[w0,i1]
 refine br_n (by omega) (hX _ _ H (br_y (by omega) ⟨_,rfl,by omega,by omega,p2,l2,c2,by simpa using g1 (Ext.refl _),?_⟩))
 rw[w1,i2]
 refine br_n (by omega) (hX _ _ H (br_n (by omega) ?_))
 refine c132 hl fun H1 q0 k0 f0 e1=>⟨q0,0,k0,rfl,?_⟩
 intro Y hY
 have sz1:=e1.size
 refine hY _ _ _ _ H1 (br_y (by omega) ⟨_,rfl,by omega,by omega,p1,l1,c1,by simpa using g0 e1,?_⟩)
 rw[i1]
 have stay: ∀{Hx Hy:Heap} {q:Option Addr} {l c:Nat} {fs:List Value},Ext H Hx→FS H.size Hx q l c 165 2 fs→(∀(b:Nat) (o:Obj),Hx[b]?=some o→q≠some ⟨b,0,none⟩→Hy[b]?=some o)→Ext H Hy:=fun{Hx Hy q l c fs} ex hf hk b o hb=>by
  refine hk b o (ex b o hb) fun hq=>?_
  have hlt:=lt_of_get hb
  rcases hf.at_ with ⟨h1,_⟩|⟨blk,cs,h1,h2,_⟩
  ·rw[h1] at hq;cases hq
  ·rw[h1] at hq;cases hq;omega
 refine f0.app (hA.ext e1) (by decide) sz1 rfl (by omega) (by omega) fun q1 k1 H2 f1 hk1 hs1=>?_
 have e2:=stay e1 f0 hk1
 refine hY _ _ _ _ H2 (br_y (by omega) ⟨_,rfl,by omega,by omega,p2,l2,c2,by simpa using g1 e2,?_⟩)
 rw[i2]
 refine f1.app (hB.ext e2) (by decide) e2.size rfl (by omega) (by omega) fun q2 k2 H3 f2 hk2 hs2=>?_
 have e3:=stay e2 f1 hk2
 refine hY _ _ _ _ H3 (br_n (by omega) ?_)
 have e0:0+l1+l2=l1+l2:=by omega
 rw[e0] at f2 ⊢
 exact hR H3 q2 k2 (by simpa using f2) e3
theorem c110{H:Heap}{n:Nat}(hn:n≤1000000){R:Value→Heap→Prop}(hR: ∀H' p' c',FS H.size H' p' 0 c' 3 1 []→Ext H H'→R (.slice p' 0 c') H'):
 CallsH Tryz.prog 110 #[.slice none 0 0,.int .i64 n] H R:=by
 refine Tryz.s110 ?_
 unfold Tryz.S110
 intro J hJ
 refine br_n (by omega) (hJ H ?_)
 have w1:IntKind.wrap .i64 (((0:Nat):Int)-((0:Nat):Int))=0:=by decide
 have w2:IntKind.wrap .i64 ((n:Int)-0)=(n:Int):=by rw[wrap_id (by omega) (by omega)];omega
 rw[w1,w2]
 refine br_dec (fun hp=>⟨by omega,by omega,by omega,by omega,?_,by omega,fun h0=>by omega,fun _=>⟨#[],rfl,fun c' hc'=>⟨by omega,by omega,?_⟩⟩⟩) (fun h0=>hR H none 0 (FS.nil _ _ _ _) (Ext.refl _))
 ·simp;omega
 ·have hc0:c'≠0:=by simp at hc';omega
  simp only[hc0,if_false,Option.map_some,Nat.sub_zero,Int.toNat_natCast,Nat.zero_mul,add_none,Nat.zero_add]
  refine hR _ _ c' ⟨rfl,Nat.zero_le _,by simp,.inr ⟨H.size,_,rfl,Nat.le_refl _,get_push_self _ _,?_,fun i v hv=>by simp at hv⟩⟩ (Ext.push _ _)
  rw[zeroCells_eq _ _ (by simp)]
  simp[reps_length] at hc' ⊢
  omega
theorem c89{H:Heap}{b:Nat}{p1 p2:Option Addr}{l1 c1 l2 c2:Nat}{tt:TypeId}{A B:List Value}(hb:H[b]?=some (.cells #[.slice p1 l1 c1,.slice p2 l2 c2] tt))(hA:RS H p1 l1 3 1 A)(hB:RS H p2 l2 3 1 B)(hl:l1+l2≤1000000){R:Value→Heap→Prop}
 (hR: ∀H' p' c',FS H.size H' p' (l1+l2) c' 3 1 (A++B)→Ext H H'→R (.slice p' (l1+l2) c') H'):CallsH Tryz.prog 89 #[.slice (some ⟨b,0,none⟩) 2 2] H R:=by
 refine Tryz.s89 ?_
 unfold Tryz.S89
 intro X hX
 have g0: ∀{H':Heap},Ext H H'→cell H' ⟨b,0,none⟩=some (.slice p1 l1 c1):=fun e=>cell_get (e _ _ hb) rfl
 have g1: ∀{H':Heap},Ext H H'→cell H' ⟨b,1,none⟩=some (.slice p2 l2 c2):=fun e=>cell_get (e _ _ hb) rfl
 have w0:IntKind.wrap .i64 ((0:Int)+((l1:Nat):Int))=(l1:Int):=by rw[wrap_id (by omega) (by omega)];omega
 have w1:IntKind.wrap .i64 ((l1:Int)+((l2:Nat):Int))=((l1+l2:Nat):Int):=by rw[wrap_id (by omega) (by omega)];omega
 have i1:IntKind.wrap .i64 ((0:Int)+1)=1:=by decide
 have i2:IntKind.wrap .i64 ((1:Int)+1)=2:=by decide
 refine hX _ _ H (br_y (by omega) ⟨_,rfl,by omega,by omega,p1,l1,c1,by simpa using g0 (Ext.refl _),?_⟩)
 rw[w0,i1]
 refine br_n (by omega) (hX _ _ H (br_y (by omega) ⟨_,rfl,by omega,by omega,p2,l2,c2,by simpa using g1 (Ext.refl _),?_⟩))
 rw[w1,i2]
 refine br_n (by omega) (hX _ _ H (br_n (by omega) ?_))
 refine c110 hl fun H1 q0 k0 f0 e1=>⟨q0,0,k0,rfl,?_⟩
 intro Y hY
 have sz1:=e1.size
 refine hY _ _ _ _ H1 (br_y (by omega) ⟨_,rfl,by omega,by omega,p1,l1,c1,by simpa using g0 e1,?_⟩)
 rw[i1]
 have stay: ∀{Hx Hy:Heap} {q:Option Addr} {l c:Nat} {fs:List Value},Ext H Hx→FS H.size Hx q l c 3 1 fs→(∀(b:Nat) (o:Obj),Hx[b]?=some o→q≠some ⟨b,0,none⟩→Hy[b]?=some o)→Ext H Hy:=fun{Hx Hy q l c fs} ex hf hk b o hb=>by
  refine hk b o (ex b o hb) fun hq=>?_
  have hlt:=lt_of_get hb
  rcases hf.at_ with ⟨h1,_⟩|⟨blk,cs,h1,h2,_⟩
  ·rw[h1] at hq;cases hq
  ·rw[h1] at hq;cases hq;omega
 refine f0.app (hA.ext e1) (by decide) sz1 rfl (by omega) (by omega) fun q1 k1 H2 f1 hk1 hs1=>?_
 have e2:=stay e1 f0 hk1
 refine hY _ _ _ _ H2 (br_y (by omega) ⟨_,rfl,by omega,by omega,p2,l2,c2,by simpa using g1 e2,?_⟩)
 rw[i2]
 refine f1.app (hB.ext e2) (by decide) e2.size rfl (by omega) (by omega) fun q2 k2 H3 f2 hk2 hs2=>?_
 have e3:=stay e2 f1 hk2
 refine hY _ _ _ _ H3 (br_n (by omega) ?_)
 have e0:0+l1+l2=l1+l2:=by omega
 rw[e0] at f2 ⊢
 exact hR H3 q2 k2 (by simpa using f2) e3
end Go.Proofs
