/-
  OWN WORK. Several texts in one: LzA, FlG, FlStP, FlH, FlI, HuffA, HuffB, HuffC, HuffD, HuffE, HuffF, HuffG, HuffN, HuffO.
-/
import Derived.Test.YtdnfhenncjhenaaMgPngCutsC
import Derived.Test.YtdnfhenncjhenaaMgPngCutsB

set_option linter.unusedVariables false
set_option linter.unusedSimpArgs false
namespace Go.Proofs
open Go.Sh
structure Tok where
 n:Nat
 d:Nat
 c:Int
def hashM(b:List Int)(a:Nat):Int:=(xorI .i64 (xorI .i64 (shlI .i64 (b.getD a 0) (8:Int)) (shlI .i64 (b.getD (a+1) 0) (4:Int))) (b.getD (a+2) 0))%4096
def preM(b:List Int)(p a:Nat):Nat→Nat→Nat
 |0,n=>n
 |f+1,n=>if a+n<b.length∧b.getD (p+n) 0=b.getD (a+n) 0 then preM b p a f (n+1) else n
def chainM(b A:List Int)(a:Nat)(eff:Int):Nat→Int→Int→Nat→Nat→Nat×Nat
 |0,_,_,L,D=>(L,D)
 |f+1,p,t,L,D=>if 0<p∧(a:Int)-(p-1)≤32768 then
  (if preM b (p-1).toNat a 258 0≥3∧preM b (p-1).toNat a 258 0>L then
   (if preM b (p-1).toNat a 258 0=258∨t+1≥8*eff then(preM b (p-1).toNat a 258 0,((a:Int)-(p-1)).toNat) else chainM b A a eff f (A.getD (p-1).toNat 0) (t+1) (preM b (p-1).toNat a 258 0) ((a:Int)-(p-1)).toNat)
   else if L=258∨(L>0∧t+1≥8*eff) then(L,D) else chainM b A a eff f (A.getD (p-1).toNat 0) (t+1) L D)
  else(L,D)
def bestM(b F A:List Int)(a:Nat)(eff:Int):Nat×Nat:=if a+3>b.length then(0,0) else chainM b A a eff (a+1) (F.getD (hashM b a).toNat 0) 0 0 0
def addF(b F:List Int)(a:Nat):List Int:=if a+3≤b.length then F.set (hashM b a).toNat ((a:Int)+1) else F
def addA(b F A:List Int)(a:Nat):List Int:=if a+3≤b.length then A.set a (F.getD (hashM b a).toNat 0) else A
def addsM(b:List Int):Nat→Nat→List Int→List Int→List Int×List Int
 |0,_,F,A=>(F,A)
 |n+1,a,F,A=>addsM b n (a+1) (addF b F a) (addA b F A a)
def findG(b:List Int)(eff:Int):Nat→Nat→List Int→List Int→List Tok
 |0,_,_,_=>[]
 |f+1,a,F,A=>if a<b.length then
  (
   if (bestM b F A a eff).1=0 then⟨0,0,b.getD a 0⟩::findG b eff f (a+1) (addF b F a) (addA b F A a)
   else⟨(bestM b F A a eff).1,(bestM b F A a eff).2,0⟩::findG b eff f (a+(bestM b F A a eff).1) (addsM b (bestM b F A a eff).1 a F A).1 (addsM b (bestM b F A a eff).1 a F A).2)
  else[]
def lzM(b:List Int)(eff:Int):List Tok:=
 if eff≤0 then b.map fun c=>⟨0,0,c⟩ else findG b (min eff 64) (b.length+1) 0 (List.replicate 4096 0) (List.replicate b.length 0)
theorem hashM_rng(b:List Int)(a:Nat):0≤hashM b a∧hashM b a<4096:=by unfold hashM;omega
def TokOk(out:List Int)(t:Tok):Prop:=(t.n=0∧t.d=0∧0≤t.c∧t.c<256)∨(3≤t.n∧t.n≤258∧1≤t.d∧t.d≤32768∧t.d≤out.length∧t.c=0)
def expT(out:List Int)(t:Tok):List Int:=if t.n=0 then out++[t.c] else copyM t.d t.n out
def Runs:List Int→List Tok→List Int→Prop
 |out,[],b=>out=b
 |out,t::r,b=>TokOk out t∧Runs (expT out t) r b
theorem expT_len(out:List Int)(t:Tok):(expT out t).length=out.length+max t.n 1:=by
 unfold expT
 split
 ·rename_i h;rw[h,List.length_append];rfl
 ·rw[copyM_len];omega
theorem Runs.len: ∀{out:List Int} {l:List Tok} {b:List Int},Runs out l b→out.length+l.length≤b.length
 |out,[],b,h=>by cases h;simp
 |out,t::r,b,h=>by
  have:=h.2.len
  rw[expT_len] at this
  simp only[List.length_cons]
  omega
theorem copy_take{b:List Int}{d:Nat}(hd:1≤d): ∀(n a:Nat),d≤a→a+n≤b.length→(∀k,k<n→b.getD (a-d+k) 0=b.getD (a+k) 0)→copyM d n (b.take a)=b.take (a+n)
 |0,a,_,_,_=>by rw[copyM];rfl
 |n+1,a,hda,hl,h=>by
  have hlen:(b.take a).length=a:=by rw[List.length_take];omega
  have e:b.take a++[(b.take a).getD ((b.take a).length-d) 0]=b.take (a+1):=by
   rw[hlen,List.take_add_one,List.getD_eq_getElem?_getD,List.getElem?_take_of_lt (by omega),←List.getD_eq_getElem?_getD]
   have h0:=h 0 (by omega)
   simp only[Nat.add_zero] at h0
   rw[h0,List.getD_eq_getElem?_getD,List.getElem?_eq_getElem (by omega)]
   simp
  rw[copyM,e,copy_take hd n (a+1) (by omega) (by omega) fun k hk=>by
   have:=h (k+1) (by omega)
   rw[show a+1-d+k=a-d+(k+1) from by omega,show a+1+k=a+(k+1) from by omega]
   exact this]
  congr 1
  omega
theorem preM_ok(b:List Int)(p a:Nat): ∀(f n:Nat),(∀k,k<n→b.getD (p+k) 0=b.getD (a+k) 0)→(n=0∨a+n≤b.length)→preM b p a f n≤n+f∧(preM b p a f n=0∨a+preM b p a f n≤b.length)∧ ∀k,k<preM b p a f n→b.getD (p+k) 0=b.getD (a+k) 0
 |0,n,h,hl=>by rw[preM];exact⟨by omega,hl,h⟩
 |f+1,n,h,hl=>by
  rw[preM]
  split
  ·rename_i hc
   obtain⟨h1,h2⟩:=preM_ok b p a f (n+1) (fun k hk=>by
    by_cases hkn:k<n
    ·exact h k hkn
    ·rw[show k=n from by omega];exact hc.2) (.inr (by omega))
   exact⟨by omega,h2⟩
  ·exact⟨by omega,hl,h⟩
structure Chains(b F A:List Int)(a:Nat):Prop where
 fl:F.length=4096
 al:A.length=b.length
 fr: ∀x∈F,0≤x∧x≤a
 ar: ∀(i:Nat) x,A[i]?=some x→0≤x∧x≤i
theorem getD_mem_or{l:List Int}(i:Nat):l.getD i 0∈l∨l.getD i 0=0:=by
 rw[List.getD_eq_getElem?_getD]
 cases h:l[i]? with
 |none=>right;rfl
 |some x=>left;exact List.mem_of_getElem? h
theorem Chains.fget{b F A:List Int}{a:Nat}(h:Chains b F A a)(i:Nat):0≤F.getD i 0∧F.getD i 0≤a:=by
 rcases getD_mem_or (l:=F) i with h1|h1
 ·exact h.fr _ h1
 ·rw[h1];omega
theorem Chains.aget{b F A:List Int}{a:Nat}(h:Chains b F A a)(i:Nat):0≤A.getD i 0∧A.getD i 0≤i:=by
 rw[List.getD_eq_getElem?_getD]
 cases h1:A[i]? with
 |none=>simp
 |some x=>exact h.ar i x h1
theorem Chains.add{b F A:List Int}{a:Nat}(h:Chains b F A a):Chains b (addF b F a) (addA b F A a) (a+1):=by
 have hf:=h.fget (hashM b a).toNat
 unfold addF addA
 split
 ·refine⟨by rw[List.length_set];exact h.fl,by rw[List.length_set];exact h.al,fun x hx=>?_,fun i x hx=>?_⟩
  ·rcases List.mem_or_eq_of_mem_set hx with hx|rfl
   ·have:=h.fr x hx;omega
   ·omega
  ·rw[List.getElem?_set] at hx
   split at hx
   ·split at hx
    ·cases hx;omega
    ·cases hx
   ·exact h.ar i x hx
 ·exact⟨h.fl,h.al,fun x hx=>by have:=h.fr x hx;omega,h.ar⟩
theorem Chains.adds{b:List Int}: ∀(n:Nat) {a:Nat} {F A:List Int},Chains b F A a→Chains b (addsM b n a F A).1 (addsM b n a F A).2 (a+n)
 |0,a,F,A,h=>h
 |n+1,a,F,A,h=>by
  have:=Chains.adds n h.add
  rw[show a+1+n=a+(n+1) from by omega] at this
  exact this
def CopyOk(b:List Int)(a L D:Nat):Prop:=L=0∨(3≤L∧L≤258∧1≤D∧D≤32768∧D≤a∧a+L≤b.length∧ ∀k,k<L→b.getD (a-D+k) 0=b.getD (a+k) 0)
theorem chain_ok{b F A:List Int}{a:Nat}(h:Chains b F A a)(eff:Int): ∀(f:Nat) (p t:Int) (L D:Nat),p≤a→CopyOk b a L D→CopyOk b a (chainM b A a eff f p t L D).1 (chainM b A a eff f p t L D).2
 |0,p,t,L,D,hp,hc=>hc
 |f+1,p,t,L,D,hp,hc=>by
  rw[chainM]
  have hA:=h.aget (p-1).toNat
  split
  ·rename_i h1
   obtain⟨q1,q2,q3⟩:=preM_ok b (p-1).toNat a 258 0 (by omega) (.inl rfl)
   generalize preM b (p-1).toNat a 258 0=n at*
   split
   ·rename_i h2
    have hn:CopyOk b a n ((a:Int)-(p-1)).toNat:= .inr ⟨h2.1,by omega,by omega,by omega,by omega,by omega,fun k hk=>by
     rw[show a-((a:Int)-(p-1)).toNat=(p-1).toNat from by omega];exact q3 k hk⟩
    split
    ·exact hn
    ·exact chain_ok h eff f _ _ _ _ (by omega) hn
   ·split
    ·exact hc
    ·exact chain_ok h eff f _ _ _ _ (by omega) hc
  ·exact hc
theorem best_ok{b F A:List Int}{a:Nat}(h:Chains b F A a)(eff:Int):CopyOk b a (bestM b F A a eff).1 (bestM b F A a eff).2:=by
 unfold bestM
 split
 ·exact .inl rfl
 ·exact chain_ok h eff _ _ _ _ _ (h.fget _).2 (.inl rfl)
theorem findG_ok{b:List Int}(hb: ∀x∈b,0≤x∧x<256)(eff:Int): ∀(f a:Nat) (F A:List Int),Chains b F A a→a≤b.length→b.length<a+f→Runs (b.take a) (findG b eff f a F A) b
 |0,a,F,A,h,ha,hf=>by omega
 |f+1,a,F,A,h,ha,hf=>by
  rw[findG]
  have hbest:=best_ok h eff
  generalize bestM b F A a eff=N at*
  split
  ·rename_i hlt
   have hlen:(b.take a).length=a:=by rw[List.length_take];omega
   split
   ·refine⟨.inl ⟨rfl,rfl,?_⟩,?_⟩
    ·rw[List.getD_eq_getElem?_getD,List.getElem?_eq_getElem hlt]
     exact hb _ (List.getElem_mem hlt)
    ·have e:expT (b.take a) ⟨0,0,b.getD a 0⟩=b.take (a+1):=by
      rw[List.take_add_one,List.getD_eq_getElem?_getD,List.getElem?_eq_getElem hlt];rfl
     rw[e]
     exact findG_ok hb eff f _ _ _ h.add (by omega) (by omega)
   ·rename_i hn
    rcases hbest with h0|⟨h1,h2,h3,h4,h5,h6,h7⟩
    ·exact absurd h0 hn
    ·refine⟨.inr ⟨h1,h2,h3,h4,by rw[hlen];exact h5,rfl⟩,?_⟩
     have e:expT (b.take a) ⟨N.1,N.2,0⟩=b.take (a+N.1):=by
      unfold expT
      rw[if_neg hn]
      exact copy_take h3 _ _ h5 h6 h7
     rw[e]
     exact findG_ok hb eff f _ _ _ (h.adds N.1) h6 (by omega)
  ·show b.take a=b
   exact List.take_of_length_le (by omega)
theorem lits_run: ∀(l out:List Int),(∀x∈l,0≤x∧x<256)→Runs out (l.map fun c=>⟨0,0,c⟩) (out++l)
 |[],out,_=>by simp[Runs]
 |x::l,out,h=>by
  refine⟨.inl ⟨rfl,rfl,h x List.mem_cons_self⟩,?_⟩
  have:=lits_run l (out++[x]) fun y hy=>h y (List.mem_cons_of_mem _ hy)
  rw[List.append_assoc] at this
  exact this
theorem chains_zero(b:List Int):Chains b (List.replicate 4096 0) (List.replicate b.length 0) 0:=
 ⟨List.length_replicate,List.length_replicate,fun x hx=>by rw[(List.mem_replicate.1 hx).2];omega,fun i x hx=>by
  rw[(List.mem_replicate.1 (List.mem_of_getElem? hx)).2];omega⟩
theorem lz_ok{b:List Int}(hb: ∀x∈b,0≤x∧x<256)(eff:Int):Runs [] (lzM b eff) b:=by
 unfold lzM
 split
 ·exact lits_run b [] hb
 ·exact findG_ok hb _ _ 0 _ _ (chains_zero b) (by omega) (by omega)
end Go.Proofs
namespace Go.Proofs
open Go.Sh
def Has(B:List Int)(a:Nat)(ws:List Int):Prop:=a+ws.length≤8*B.length∧ ∀i:Nat,i<ws.length→bitB false B (a+i)=ws.getD i 0
theorem Has.of{ws B:List Int}(h:WOk false ws B):Has B 0 ws:=⟨by have:=h.len;omega,fun i hi=>by rw[Nat.zero_add];exact h.bit i⟩
theorem Has.app{B x y:List Int}{a:Nat}(h:Has B a (x++y)):Has B a x∧Has B (a+x.length) y:=by
 obtain⟨h1,h2⟩:=h
 rw[List.length_append] at h1
 refine⟨⟨by omega,fun i hi=>?_⟩,⟨by omega,fun i hi=>?_⟩⟩
 ·rw[h2 i (by rw[List.length_append];omega),gD_left _ _ _ _ hi]
 ·rw[Nat.add_assoc,h2 (x.length+i) (by rw[List.length_append];omega),gD_right _ _ _ _ (by omega),Nat.add_sub_cancel_left]
theorem bitsOf_get{hi:Bool}{v:Int}{n k:Nat}(hk:k<n):(bitsOf hi v n).getD k 0=v/2^(if hi then n-1-k else k)%2:=by
 apply gD_get
 simp[bitsOf,hk]
theorem numB_of{B:List Int}{a m:Nat}: ∀{n:Nat},(∀k,k<n→bitB false B (a+k)=(m:Int)/2^k%2)→numB false B a n=((m%2^n:Nat):Int)
 |0,_=>by simp[numB,Nat.mod_one]
 |n+1,h=>by
  rw[numB,numB_of (fun k hk=>h k (by omega)),h n (by omega),Nat.pow_succ,Nat.mod_mul,if_neg (by decide),←pow_cast]
  rw[←Int.natCast_ediv]
  have:((m/2^n:Nat):Int)%2=((m/2^n%2:Nat):Int):=by omega
  rw[this,←Int.natCast_mul,Nat.mul_comm]
  omega
theorem getM_has{B:List Int}{a n:Nat}{v:Int}(h:Has B a (bitsOf false v n))(h0:0≤v)(h1:v<2^n):getM B n a= .ok (v,a+n):=by
 obtain⟨m,rfl⟩:=Int.eq_ofNat_of_zero_le h0
 unfold getM
 have hl:=h.1
 rw[bitsOf_len] at hl
 rw[if_pos hl,numB_of (m:=m) fun k hk=>by
  rw[h.2 k (by rw[bitsOf_len];exact hk),bitsOf_get hk];rfl]
 rw[←pow_cast] at h1
 rw[Nat.mod_eq_of_lt (by omega)]
def symBits(ls:List Int)(s:Nat):List Int:=bitsOf true (codeM ls s) (ls.getD s 0).toNat
theorem symBits_len(ls:List Int)(s:Nat):(symBits ls s).length=(ls.getD s 0).toNat:=bitsOf_len _ _ _
theorem getM_bit{B:List Int}{a:Nat}{ws:List Int}(h:Has B a ws){j:Nat}(hj:j<ws.length)(hb:ws.getD j 0=0∨ws.getD j 0=1):getM B 1 (a+j)= .ok (ws.getD j 0,a+j+1):=by
 unfold getM
 have:=h.1
 rw[if_pos (by omega),numB,numB,if_neg (by decide),Nat.add_zero,h.2 j hj]
 simp
theorem symG_has{ls B:List Int}(ok:OkC ls){a s m:Nat}(hs:ls[s]?=some (m:Int))(h:Has B a (bitsOf true (codeM ls s) m)): ∀(d j f:Nat),j+d=m→0<d→d≤f→symG ls B f j (codeM ls s/2^(m-j)) (a+j)= .ok (s,a+m)
 |0,j,f,hj,h0,hf=>by omega
 |d+1,j,f,hj,h0,hf=>by
  obtain⟨f,rfl⟩: ∃g,f=g+1:=⟨f-1,by omega⟩
  have hg:(bitsOf true (codeM ls s) m).getD j 0=codeM ls s/2^(m-1-j)%2:=by rw[bitsOf_get (by omega),if_pos rfl]
  have hb:getM B 1 (a+j)= .ok (codeM ls s/2^(m-1-j)%2,a+j+1):=by
   rw[←hg]
   exact getM_bit h (by rw[bitsOf_len];omega) (by rw[hg];omega)
  have hv:2*(codeM ls s/2^(m-j))+codeM ls s/2^(m-1-j)%2=codeM ls s/2^(m-1-j):=by
   have:=div_bit (codeM ls s) (m-1-j)
   rwa [show m-1-j+1=m-j from by omega] at this
  unfold symG
  rw[hb]
  simp only
  rw[hv]
  by_cases hd:d=0
  ·subst hd
   have e:m-1-j=0:=by omega
   have hm:j+1=m:=by omega
   rw[e,Int.pow_zero,Int.ediv_one,hm,findM_eq ok (by omega) hs rfl]
   simp only
   congr 2
   omega
  ·have hf':findM ls (j+1) (codeM ls s/2^(m-1-j))=none:=by
    cases hf2:findM ls (j+1) (codeM ls s/2^(m-1-j)) with
    |none=>rfl
    |some t=>
     obtain⟨h1,h2⟩:=findM_some hf2
     have hts:t≠s:=fun he=>by subst he;rw[hs] at h1;have:=Option.some.inj h1;omega
     have:=no_prefix ok hts h1 hs (by omega) (by omega)
     rw[show m-(j+1)=m-1-j from by omega] at this
     exact absurd h2.symm this
   have hbg:begM ls (j+1) (codeM ls s/2^(m-1-j))=true:=begM_mk hs (by omega) (by rw[show m-(j+1)=m-1-j from by omega])
   rw[hf',hbg]
   simp only[if_true]
   have:=symG_has ok hs h d (j+1) f (by omega) (by omega) (by omega)
   rw[show m-(j+1)=m-1-j from by omega] at this
   exact this
theorem symM_has{ls B:List Int}(ok:OkC ls){a s:Nat}(hs:0<ls.getD s 0)(h:Has B a (symBits ls s)):symM ls B a= .ok (s,a+(ls.getD s 0).toNat):=by
 have hl:s<ls.length:=by
  rcases Nat.lt_or_ge s ls.length with h|h
  ·exact h
  ·rw[gD_none _ _ h] at hs;omega
 have hg:=get_gD ls 0 hl
 have hr:=ok.w.rng _ (List.mem_of_getElem? hg)
 have hs':ls[s]?=some ((ls.getD s 0).toNat:Int):=by rw[hg];congr 1;omega
 have hc:=code_rng ok hs' (by omega)
 have:=symG_has ok hs' h (ls.getD s 0).toNat 0 17 (by omega) (by omega) (by omega)
 rw[Nat.sub_zero,Int.ediv_eq_zero_of_lt hc.1 hc.2] at this
 exact this
end Go.Proofs
namespace Go.Proofs
open Go.Sh
def byteBits(p:List Int):List Int:=p.flatMap (bitsOf false · 8)
theorem byteBits_len(p:List Int):(byteBits p).length=8*p.length:=by
 induction p with
 |nil=>rfl
 |cons x p ih=>simp only[byteBits,List.flatMap_cons,List.length_append,bitsOf_len,List.length_cons] at*;omega
theorem byteBits_snoc(p:List Int)(x:Int):byteBits (p++[x])=byteBits p++bitsOf false x 8:=by simp[byteBits]
theorem bytesM_has{B:List Int}: ∀{p:List Int} {a:Nat} {out:List Int},Has B a (byteBits p)→(∀x∈p,0≤x∧x<256)→bytesM B p.length a out= .ok (a+8*p.length,out++p)
 |[],a,out,_,_=>by simp[bytesM]
 |x::p,a,out,h,hr=>by
  have hx:=hr x (List.mem_cons_self ..)
  unfold byteBits at h
  rw[List.flatMap_cons] at h
  obtain⟨h1,h2⟩:=h.app
  rw[bitsOf_len] at h2
  rw[List.length_cons,bytesM,getM_has h1 hx.1 (by
   have:(2:Int)^8=256:=by decide
   omega)]
  simp only
  rw[bytesM_has (p:=p) h2 fun y hy=>hr y (List.mem_cons_of_mem _ hy)]
  simp only[List.append_assoc,List.singleton_append]
  congr 2;omega
def partW(ws:List Int)(last v:Int)(p:List Int):List Int:=fillM (ws++bitsOf false last 1++bitsOf false 0 2) v++bitsOf false p.length 16++bitsOf false (65535-p.length) 16++byteBits p
theorem partW_len(ws:List Int)(last v:Int)(p:List Int):(partW ws last v p).length=(ws.length+10)/8*8+32+8*p.length:=by
 unfold partW fillM
 simp only[List.length_append,bitsOf_len,byteBits_len,List.length_replicate]
 omega
theorem stored_has{B ws p out:List Int}{last v:Int}{most:Nat}(h:Has B 0 (partW ws last v p))(hp: ∀x∈p,0≤x∧x<256)(hl:p.length≤65535)(hl01:last=0∨last=1)(hm:out.length+p.length≤most):
 getM B 1 ws.length= .ok (last,ws.length+1)∧getM B 2 (ws.length+1)= .ok (0,ws.length+3)∧storedM B most (ws.length+3) out= .ok ((partW ws last v p).length,out++p):=by
 rw[partW_len]
 unfold partW fillM at h
 simp only[List.append_assoc] at h
 obtain⟨_,h⟩:=h.app
 obtain⟨h1,h⟩:=h.app
 obtain⟨h2,h⟩:=h.app
 obtain⟨_,h⟩:=h.app
 obtain⟨h3,h⟩:=h.app
 obtain⟨h4,h5⟩:=h.app
 simp only[bitsOf_len,List.length_append,List.length_replicate,Nat.zero_add] at h1 h2 h3 h4 h5
 have e1:(2:Int)^1=2:=by decide
 have e2:(2:Int)^2=4:=by decide
 have e16:(2:Int)^16=65536:=by decide
 refine⟨getM_has h1 (by omega) (by omega),getM_has h2 (by omega) (by omega),?_⟩
 have ea:(ws.length+3+7)/8*8=(ws.length+10)/8*8:=by omega
 have eb:ws.length+1+2+(8-(ws.length+(1+2))%8)%8=(ws.length+10)/8*8:=by omega
 rw[eb] at h3 h4 h5
 unfold storedM
 rw[ea,getM_has h3 (by omega) (by omega)]
 simp only
 rw[getM_has h4 (by omega) (by omega)]
 simp only
 rw[if_neg (by simp),if_neg (by omega),Int.toNat_natCast,bytesM_has h5 hp]
end Go.Proofs
namespace Go.Proofs
open Go.Sh
variable {H0 H:Heap} {σ:List Rs} {R:Value→Heap→Prop}
def decR(d:Nat)(ls:List Int)(P:List (Nat×Int))(F:List Int):Rs:=
 .ex fun(x:Option Addr×Nat)=> .pu (OkC ls∧P.length≤5000∧Trie ls (· <ls.length) (· <ls.length) P F) (.star (.cell d #[.slice x.1 P.length x.2] 125) (.sl x.1 P.length x.2 126 2 (ints F)))
theorem decR_use{d:Nat}{ls F:List Int}{P:List (Nat×Int)}(hs:St H0 H σ){j:Nat}(hj:σ[j]?=some (decR d ls P F)): ∃q k,OkC ls∧P.length≤5000∧Trie ls (· <ls.length) (· <ls.length) P F∧H[d]?=some (.cells #[.slice q P.length k] 125)∧RS H q P.length 126 2 (ints F):=by
 obtain⟨⟨q,k⟩,hs⟩:=(hs.front j hj).unex
 obtain⟨⟨h1,h2,h3⟩,hs⟩:=hs.fact
 have hs:=hs.cut
 exact⟨q,k,h1,h2,h3,hs.block 0 rfl,hs.rs 1 rfl⟩
theorem newDecR{p:Option Addr}{l c:Nat}{ls:List Int}(h:IS H p l (ints ls))(hbad: ¬OkC ls→R (.tuple #[.pointer none,.bool false]) H)
 (hgood:OkC ls→ ∀H' b P F,St H H' [decR b ls P F]→R (.tuple #[.pointer (some ⟨b,0,none⟩),.bool true]) H'):CallsH Try.prog 57 #[.slice p l c] H R:=
 newDec h hbad fun ok H' b q L k P F hb hd fs hP hL t e=>hgood ok H' b P F (by
  subst hP
  have hs:St H H' [.sl q P.length k 126 2 (ints F)]:=(St.nil H).newSl e fs
  have hs2:St H H' [.cell b #[.slice q P.length k] 125,.sl q P.length k 126 2 (ints F)]:=by
   obtain⟨he,fps,hl,hn,hbb⟩:=hs
   match fps,hl with
   |fp::[],hl=>
    refine⟨he,[b]::fp::[],⟨⟨rfl,hd⟩,hl⟩,?_,?_⟩
    ·simp only[List.flatten_cons,List.flatten_nil,List.append_nil,List.singleton_append,List.nodup_cons] at hn ⊢
     refine⟨fun hm=>?_,hn⟩
     rcases hl.1.2 with ⟨_,h2⟩|⟨blk,h1,h2⟩
     ·rw[h2] at hm;cases hm
     ·rw[h2,List.mem_singleton] at hm
      subst hm
      rcases hl.1.1.at_ with ⟨h3,_⟩|⟨blk',cs,h3,_,h4,_⟩
      ·rw[h1] at h3;cases h3
      ·rw[h1] at h3;cases h3;rw[hd] at h4;cases h4
    ·intro x hx
     simp only[List.flatten_cons,List.flatten_nil,List.append_nil,List.singleton_append,List.mem_cons] at hx hbb
     rcases hx with rfl|hx
     ·exact hb
     ·exact hbb x hx
  exact St.inex (f:=fun(x:Option Addr×Nat)=> .pu (OkC ls∧P.length≤5000∧Trie ls (· <ls.length) (· <ls.length) P F) (.star (.cell b #[.slice x.1 P.length x.2] 125) (.sl x.1 P.length x.2 126 2 (ints F)))) (q,k) (St.with ⟨ok,hL,t⟩ hs2.cat))
def flR(f:Nat)(B:List Int)(a most:Nat)(out:List Int)(e:Int):Rs:=
 .ex fun(x:Nat×Option Addr×Nat)=> .pu (out.length≤most∧most≤1000000000∧ ∀y∈out,0≤y∧y<256)
  (.star (.star (rdR x.1 B a false) (.sl x.2.1 out.length x.2.2 5 1 (kints .u8 out))) (.cell f #[.pointer (some ⟨x.1,0,none⟩),.slice x.2.1 out.length x.2.2,.int .i64 most,.int .i64 e] 86))
theorem flR_op{f a most:Nat}{B out:List Int}{e:Int}(hs:St H0 H (flR f B a most out e::σ)): ∃rb p c,out.length≤most∧most≤1000000000∧(∀y∈out,0≤y∧y<256)∧
 St H0 H (rdR rb B a false:: .sl p out.length c 5 1 (kints .u8 out):: .cell f #[.pointer (some ⟨rb,0,none⟩),.slice p out.length c,.int .i64 most,.int .i64 e] 86::σ):=by
 obtain⟨⟨rb,p,c⟩,hs⟩:=hs.unex
 obtain⟨⟨h1,h2,h3⟩,hs⟩:=hs.fact
 exact⟨rb,p,c,h1,h2,h3,hs.cut.cut⟩
theorem flR_mk{f a most rb c:Nat}{p:Option Addr}{B out:List Int}{e:Int}(h1:out.length≤most)(h2:most≤1000000000)(h3: ∀y∈out,0≤y∧y<256)
 (hs:St H0 H (rdR rb B a false:: .sl p out.length c 5 1 (kints .u8 out):: .cell f #[.pointer (some ⟨rb,0,none⟩),.slice p out.length c,.int .i64 most,.int .i64 e] 86::σ)):St H0 H (flR f B a most out e::σ):=
 St.inex (f:=fun(x:Nat×Option Addr×Nat)=> .pu (out.length≤most∧most≤1000000000∧ ∀y∈out,0≤y∧y<256)
  (.star (.star (rdR x.1 B a false) (.sl x.2.1 out.length x.2.2 5 1 (kints .u8 out))) (.cell f #[.pointer (some ⟨x.1,0,none⟩),.slice x.2.1 out.length x.2.2,.int .i64 most,.int .i64 e] 86))) (rb,p,c) (St.with ⟨h1,h2,h3⟩ hs.cat.cat)
section
variable {f a most:Nat} {B out:List Int} {e:Int}
theorem flR_rd(hs:St H0 H (flR f B a most out e::σ)):a≤8*B.length∧B.length≤1000000000∧ ∀x∈B,0≤x∧x<256:=by
 obtain⟨rb,p,c,_,_,_,hs⟩:=flR_op hs
 obtain⟨_,_,h1,h2,h3,_⟩:=rdR_op hs
 exact⟨h1,h2,h3⟩
theorem flR_e(hs:St H0 H (flR f B a most out e::σ)):cell H ⟨f,3,none⟩=some (.int .i64 e):=by
 obtain⟨rb,p,c,_,_,_,hs⟩:=flR_op hs
 exact hs.get 2 (j:=3) rfl rfl
abbrev flO(rb f:Nat)(p:Option Addr)(c:Nat)(B:List Int)(a most:Nat)(out:List Int)(e:Int):List Rs:=
 [rdR rb B a false,.sl p out.length c 5 1 (kints .u8 out),.cell f #[.pointer (some ⟨rb,0,none⟩),.slice p out.length c,.int .i64 most,.int .i64 e] 86]
theorem failO{rb c:Nat}{p:Option Addr}(hs:St H0 H (flO rb f p c B a most out e++σ)){k:Int}(hR: ∀H',St H0 H' (flO rb f p c B a most out (if e=0 then k else e)++σ)→R (.tuple #[]) H'):CallsH Try.prog 60 #[.pointer (some ⟨f,0,none⟩),.int .i64 k] H R:=by
 refine Try.s60 ⟨_,rfl,e,hs.get 2 (j:=3) rfl rfl,br_eq (fun h=>⟨_,rfl,?_⟩) (fun h=>?_)⟩
 ·refine hs.put 2 (j:=3) rfl (by simp) rfl fun H' hs2=>hR H' ?_
  rw[if_pos h];exact hs2
 ·rw[if_neg h] at hR;exact hR H hs
theorem c60(hs:St H0 H (flR f B a most out e::σ)){k:Int}(hR: ∀H',St H0 H' (flR f B a most out (if e=0 then k else e)::σ)→R (.tuple #[]) H'):CallsH Try.prog 60 #[.pointer (some ⟨f,0,none⟩),.int .i64 k] H R:=by
 obtain⟨rb,p,c,h1,h2,h3,hs'⟩:=flR_op hs
 exact failO hs' fun H' hs2=>hR H' (flR_mk h1 h2 h3 hs2)
theorem getO{rb c:Nat}{p:Option Addr}(hs:St H0 H (flO rb f p c B a most out e++σ)){n:Int}(hn:0≤n∧n≤24)
 (hbad:8*B.length<a+n.toNat→ ∀H',St H0 H' (flO rb f p c B a most out (if e=0 then 20 else e)++σ)→R (.int .i64 0) H')
 (hR:a+n.toNat≤8*B.length→ ∀H',St H0 H' (flO rb f p c B (a+n.toNat) most out e++σ)→R (.int .i64 (numB false B a n.toNat)) H'):CallsH Try.prog 55 #[.pointer (some ⟨f,0,none⟩),.int .i64 n] H R:=by
 refine Try.s55 ⟨_,rfl,_,hs.get 2 (j:=0) rfl rfl,c77 hs (i:=0) rfl (fun hb=>⟨_,_,rfl,br_t rfl ?_⟩) (fun hg H' hs2=>⟨_,_,rfl,br_f rfl ?_⟩)⟩
 ·exact failO hs fun H' hs3=>⟨rfl,hbad (by omega) H' hs3⟩
 ·exact hR (by omega) H' hs2
theorem c55(hs:St H0 H (flR f B a most out e::σ)){n:Int}(hn:0≤n∧n≤24)
 (hbad:8*B.length<a+n.toNat→ ∀H',St H0 H' (flR f B a most out (if e=0 then 20 else e)::σ)→R (.int .i64 0) H')
 (hR:a+n.toNat≤8*B.length→ ∀H',St H0 H' (flR f B (a+n.toNat) most out e::σ)→R (.int .i64 (numB false B a n.toNat)) H'):CallsH Try.prog 55 #[.pointer (some ⟨f,0,none⟩),.int .i64 n] H R:=by
 obtain⟨rb,p,c,h1,h2,h3,hs'⟩:=flR_op hs
 exact getO hs' hn (fun hb H' hs2=>hbad hb H' (flR_mk h1 h2 h3 hs2)) (fun hg H' hs2=>hR hg H' (flR_mk h1 h2 h3 hs2))
theorem symG_adv{ls:List Int}: ∀(g n:Nat) (v:Int) (a:Nat) {s a':Nat},symG ls B g n v a= .ok (s,a')→a<a'∧a'≤8*B.length∧s<ls.length
 |0,_,_,_,_,_,h=>by cases h
 |g+1,n,v,a,s,a',h=>by
  unfold symG getM at h
  split at h
  ·cases h
  ·rename_i b at' hg
   split at hg
   ·cases hg
    split at h
    ·rename_i t ht
     cases h
     have:=(List.getElem?_eq_some_iff.1 (findM_some ht).1).1
     exact⟨by omega,by omega,this⟩
    ·split at h
     ·obtain⟨h1,h2⟩:=symG_adv g _ _ _ h
      exact⟨by omega,h2⟩
     ·cases h
   ·cases hg
theorem symM_adv{ls:List Int}{s a':Nat}(h:symM ls B a= .ok (s,a')):a<a'∧a'≤8*B.length∧s<ls.length:=symG_adv _ _ _ _ h
theorem symbol_e(hs:St H0 H (flR f B a most out e::σ))(he:e≠0){d:Option Addr}(hR: ∀H' a',St H0 H' (flR f B a' most out e::σ)→R (.int .i64 0) H'):
 CallsH Try.prog 79 #[.pointer (some ⟨f,0,none⟩),.pointer d] H R:=by
 refine Try.s79 ?_
 unfold Try.S79
 intro X hX
 refine hX _ H (c55 hs (by omega) (fun _ H' hs=>⟨_,rfl,_,rfl,e,?_,br_ne (fun _=>?_) (fun h=>absurd h he)⟩) (fun _ H' hs=>⟨_,rfl,_,rfl,e,flR_e hs,br_ne (fun _=>hR H' _ hs) (fun h=>absurd h he)⟩))
 ·rw[if_neg he] at hs;exact flR_e hs
 ·rw[if_neg he] at hs;exact hR H' _ hs
theorem c79(hs:St H0 H (flR f B a most out 0::σ)){j d:Nat}{ls F:List Int}{P:List (Nat×Int)}(hj:σ[j]?=some (decR d ls P F))
 (hbad: ∀k,k≠0→symM ls B a= .error k→ ∀H' a',St H0 H' (flR f B a' most out k::σ)→R (.int .i64 0) H')
 (hR: ∀s a',symM ls B a= .ok (s,a')→ ∀H',St H0 H' (flR f B a' most out 0::σ)→R (.int .i64 (s:Nat)) H'):
 CallsH Try.prog 79 #[.pointer (some ⟨f,0,none⟩),.pointer (some ⟨d,0,none⟩)] H R:=by
 refine Try.s79 ?_
 unfold Try.S79
 intro X hX
 obtain⟨_,_,ok,hL,t,_,_⟩:=decR_use hs (j:=j+1) (by simpa using hj)
 have loop: ∀(g:Nat) (st n:Nat) (v:Int) (a1:Nat) (H1:Heap),17-n≤g→n≤16→P[st]?=some (n,v)→symG ls B (17-n) n v a1=symM ls B a→St H0 H1 (flR f B a1 most out 0::σ)→X [.int .i64 st] H1:=by
  intro g
  induction g with
  |zero=>intro st n v a1 H1 h1 h2;omega
  |succ g ih=>
   intro st n v a1 H1 hg hn hst heq hs1
   have h17:17-n=16-n+1:=by omega
   rw[h17,symG] at heq
   refine hX _ H1 (c55 hs1 (by omega) (fun hb H2 hs2=>?_) (fun hb H2 hs2=>?_))
   ·rw[if_pos rfl] at hs2
    have:getM B 1 a1= .error 20:=by unfold getM;rw[if_neg (by simp at hb;omega)]
    rw[this] at heq
    exact⟨_,rfl,_,rfl,_,flR_e hs2,br_t rfl (hbad 20 (by decide) heq.symm H2 _ hs2)⟩
   ·simp only[Int.toNat_one] at hs2 hb ⊢
    have hg1:getM B 1 a1= .ok (numB false B a1 1,a1+1):=by unfold getM;rw[if_pos hb]
    have hb01:numB false B a1 1%2=numB false B a1 1:=by have:=numB_rng false B a1 1;omega
    rw[hg1] at heq
    simp only at heq
    refine⟨_,rfl,_,rfl,_,flR_e hs2,br_f rfl ?_⟩
    obtain⟨q,k,_,_,_,hd,hrs⟩:=decR_use hs2 (j:=j+1) (by simpa using hj)
    refine c93 hd hrs (t.rng2 rfl hL ok.w.len) (by omega) _ _ ⟨_,_,rfl,?_⟩
    generalize hbit:numB false B a1 1=b at*
    cases hf:findM ls (n+1) (2*v+b) with
    |some s=>
     obtain⟨f1,f2⟩:=findM_some hf
     have hst2:=step_sym ok rfl t (bit:=b) hst f1 (by rw[hb01];exact f2)
     show br (decide ((stepM F P.length (st:Int) b).1<0)) _ _
     rw[hf] at heq
     rw[hst2]
     exact br_n (show ¬((0:Int)<0) by decide) (br_n (by show ¬((s:Int)<0);omega) (hR s _ heq.symm H2 hs2))
    |none=>
     rw[hf] at heq
     simp only at heq
     cases hbg:begM ls (n+1) (2*v+b) with
     |true=>
      obtain⟨s,m,g1,g2,g3⟩:=begM_true ok.w.rng hbg
      obtain⟨i,i0,hst2,hp⟩:=step_on ok rfl t (bit:=b) hst g1 g2 (by rw[hb01];exact g3)
      rw[hb01] at hp
      rw[hbg] at heq
      simp only[if_true] at heq
      rw[hst2]
      have hm:=ok.w.rng _ (List.mem_of_getElem? g1)
      refine br_n (by show ¬((i:Int)<0);omega) (br_y (show(-1:Int)<0 by decide) (ih i (n+1) _ _ H2 (by omega) (by omega) hp ?_ hs2))
      rw[show 17-(n+1)=16-n from by omega]
      exact heq
     |false=>
      rw[hbg] at heq
      simp only[Bool.false_eq_true,if_false] at heq
      have hst2:=step_off (bit:=b) rfl t hst (fun s h1 h2=>findM_none hf h1 (by rw[hb01] at h2;exact h2)) (fun s m h1 h2 h3=>begM_false hbg h1 h2 (by rw[hb01] at h3;exact h3))
      rw[hst2]
      refine br_y (by decide) (c60 hs2 fun H3 hs3=>⟨rfl,?_⟩)
      rw[if_pos rfl] at hs3
      exact hbad 21 (by decide) heq.symm H3 _ hs3
 exact loop 17 0 0 0 a H (by omega) (by omega) t.root rfl hs
end
end Go.Proofs
namespace Go.Proofs
open Go.Sh
variable {H0 H:Heap} {σ:List Rs} {R:Value→Heap→Prop}
theorem lenK: ∀x:Fin 29,(IntKind.wrap .i64 (((257+x.val:Nat):Int)-257)<8→IntKind.wrap .i64 (3+IntKind.wrap .i64 (((257+x.val:Nat):Int)-257))=((lenB (257+x.val)).1:Int)∧(0:Int)=((lenB (257+x.val)).2:Int))∧
 (¬IntKind.wrap .i64 (((257+x.val:Nat):Int)-257)<8→IntKind.wrap .i64 (((257+x.val:Nat):Int)-257)=28→(258:Int)=((lenB (257+x.val)).1:Int)∧(0:Int)=((lenB (257+x.val)).2:Int))∧
 (¬IntKind.wrap .i64 (((257+x.val:Nat):Int)-257)<8→IntKind.wrap .i64 (((257+x.val:Nat):Int)-257)≠28→0≤(IntKind.wrap .i64 ((IntKind.wrap .i64 (Int.tdiv (IntKind.wrap .i64 (((257+x.val:Nat):Int)-(257:Int))) (4:Int)))-(1:Int)))∧
  (IntKind.wrap .i64 ((3:Int)+(shlI .i64 (IntKind.wrap .i64 ((4:Int)+(Int.tmod (IntKind.wrap .i64 (((257+x.val:Nat):Int)-(257:Int))) (4:Int)))) (IntKind.wrap .i64 ((IntKind.wrap .i64 (Int.tdiv (IntKind.wrap .i64 (((257+x.val:Nat):Int)-(257:Int))) (4:Int)))-(1:Int))))))=((lenB (257+x.val)).1:Int)∧
  (IntKind.wrap .i64 ((IntKind.wrap .i64 (Int.tdiv (IntKind.wrap .i64 (((257+x.val:Nat):Int)-(257:Int))) (4:Int)))-(1:Int)))=((lenB (257+x.val)).2:Int))∧(lenB (257+x.val)).2≤5∧(lenB (257+x.val)).1≤258:=by decide+kernel
theorem dstK: ∀x:Fin 30,(((x.val:Nat):Int)<4→IntKind.wrap .i64 (1+((x.val:Nat):Int))=((dstB x.val).1:Int)∧(0:Int)=((dstB x.val).2:Int))∧
 (¬((x.val:Nat):Int)<4→0≤(IntKind.wrap .i64 ((IntKind.wrap .i64 (Int.tdiv ((x.val:Nat):Int) (2:Int)))-(1:Int)))∧
  (IntKind.wrap .i64 ((1:Int)+(shlI .i64 (IntKind.wrap .i64 ((2:Int)+(Int.tmod ((x.val:Nat):Int) (2:Int)))) (IntKind.wrap .i64 ((IntKind.wrap .i64 (Int.tdiv ((x.val:Nat):Int) (2:Int)))-(1:Int))))))=((dstB x.val).1:Int)∧
  (IntKind.wrap .i64 ((IntKind.wrap .i64 (Int.tdiv ((x.val:Nat):Int) (2:Int)))-(1:Int)))=((dstB x.val).2:Int))∧(dstB x.val).2≤13∧(dstB x.val).1≤32768∧1≤(dstB x.val).1:=by decide+kernel
theorem lenB_le{s:Nat}(h:257≤s∧s≤285):(lenB s).2≤5∧(lenB s).1≤258:=by
 have:=(lenK ⟨s-257,by omega⟩).2.2.2
 simp only[show 257+(s-257)=s from by omega] at this
 exact this
theorem dstB_le{s:Nat}(h:s≤29):(dstB s).2≤13∧(dstB s).1≤32768∧1≤(dstB s).1:=(dstK ⟨s,by omega⟩).2.2
theorem c84{s:Nat}(h:257≤s∧s≤285)(hR:R (.tuple #[.int .i64 ((lenB s).1:Nat),.int .i64 ((lenB s).2:Nat)]) H):CallsH Try.prog 84 #[.int .i64 (s:Nat)] H R:=by
 have k:=lenK ⟨s-257,by omega⟩
 simp only[show 257+(s-257)=s from by omega] at k
 obtain⟨k1,k2,k3,_⟩:=k
 refine Try.s84 (br_dec (fun h1=>?_) (fun h1=>br_eq (fun h2=>?_) (fun h2=>⟨by decide,by decide,(k3 h1 h2).1,?_⟩)))
 ·rw[(k1 h1).1,(k1 h1).2];exact hR
 ·rw[(k2 h1 h2).1,(k2 h1 h2).2];exact hR
 ·rw[(k3 h1 h2).2.1,(k3 h1 h2).2.2];exact hR
theorem c68{s:Nat}(h:s≤29)(hR:R (.tuple #[.int .i64 ((dstB s).1:Nat),.int .i64 ((dstB s).2:Nat)]) H):CallsH Try.prog 68 #[.int .i64 (s:Nat)] H R:=by
 obtain⟨k1,k2,_⟩:=dstK ⟨s,by omega⟩
 refine Try.s68 (br_dec (fun h1=>?_) (fun h1=>⟨by decide,by decide,(k2 h1).1,?_⟩))
 ·rw[(k1 h1).1,(k1 h1).2];exact hR
 ·rw[(k2 h1).2.1,(k2 h1).2.2];exact hR
section
variable {f a most:Nat} {B out:List Int}
theorem c80(hs:St H0 H (flR f B a most out 0::σ)){j d:Nat}{dl F:List Int}{P:List (Nat×Int)}(hj:σ[j]?=some (decR d dl P F)){s:Nat}(hs257:257≤s∧s≤1000)
 (hbad: ∀k,k≠0→copiesM B most dl s a out= .error k→ ∀H' a',St H0 H' (flR f B a' most out k::σ)→R (.tuple #[]) H')
 (hR: ∀a' out',copiesM B most dl s a out= .ok (a',out')→ ∀H',St H0 H' (flR f B a' most out' 0::σ)→R (.tuple #[]) H'):
 CallsH Try.prog 80 #[.pointer (some ⟨f,0,none⟩),.int .i64 (s:Nat),.pointer (some ⟨d,0,none⟩)] H R:=by
 have key:copiesM B most dl s a out=copiesM B most dl s a out:=rfl
 conv at key=>lhs;unfold copiesM
 refine Try.s80 (br_dec (fun h=>c60 hs fun H1 hs=>⟨rfl,?_⟩) (fun h=>?_))
 ·rw[if_pos (by omega)] at key
  exact hbad 25 (by decide) key.symm H1 _ hs
 rw[if_neg (by omega)] at key
 have hb:=lenB_le (s:=s) (by omega)
 refine c84 (by omega) ⟨_,_,rfl,c55 hs (by omega) (fun hlt H1 hs=>?_) (fun hle H1 hs=>?_)⟩
 ·rw[Int.toNat_natCast] at hlt
  unfold getM at key
  rw[if_neg (by omega)] at key
  rw[if_pos rfl] at hs
  exact⟨_,rfl,symbol_e hs (by decide) fun H2 a2 hs=>⟨_,rfl,_,rfl,_,flR_e hs,br_t rfl (hbad 20 (by decide) key.symm H2 _ hs)⟩⟩
 rw[Int.toNat_natCast] at hle hs ⊢
 rw[show getM B (lenB s).2 a= .ok (numB false B a (lenB s).2,a+(lenB s).2) from by unfold getM;rw[if_pos hle]] at key
 have hx:=numB_rng false B a (lenB s).2
 have hx2:(2:Int)^(lenB s).2≤2^5:=pow_le hb.1
 generalize numB false B a (lenB s).2=x at*
 simp only at key
 refine⟨_,rfl,c79 hs hj (fun k hk hsy H2 a2 hs=>?_) (fun t a2 hsy H2 hs=>?_)⟩
 ·rw[hsy] at key
  exact⟨_,rfl,_,rfl,_,flR_e hs,br_ne (fun _=>hbad k hk key.symm H2 _ hs) (fun h=>absurd h hk)⟩
 rw[hsy] at key
 simp only at key
 refine⟨_,rfl,_,rfl,_,flR_e hs,br_f rfl (br_dec (fun h29=>c60 hs fun H3 hs=>⟨rfl,?_⟩) (fun h29=>?_))⟩
 ·rw[if_pos (by omega)] at key
  exact hbad 25 (by decide) key.symm H3 _ hs
 rw[if_neg (by omega)] at key
 have hd:=dstB_le (s:=t) (by omega)
 refine c68 (by omega) ⟨_,_,rfl,c55 hs (by omega) (fun hlt H3 hs=>?_) (fun hle H3 hs=>?_)⟩
 ·rw[Int.toNat_natCast] at hlt
  rw[show getM B (dstB t).2 a2= .error 20 from by unfold getM;rw[if_neg (by omega)]] at key
  rw[if_pos rfl] at hs
  exact⟨_,rfl,_,rfl,_,flR_e hs,br_t rfl (hbad 20 (by decide) key.symm H3 _ hs)⟩
 rw[Int.toNat_natCast] at hle hs ⊢
 rw[show getM B (dstB t).2 a2= .ok (numB false B a2 (dstB t).2,a2+(dstB t).2) from by unfold getM;rw[if_pos hle]] at key
 have hy:=numB_rng false B a2 (dstB t).2
 have hy2:(2:Int)^(dstB t).2≤2^13:=pow_le hd.1
 generalize numB false B a2 (dstB t).2=y at*
 simp only at key
 obtain⟨rb,p,c,h1,h2,h3,hs'⟩:=flR_op hs
 have e5:(2:Int)^5=32:=by decide
 have e13:(2:Int)^13=8192:=by decide
 have w1:IntKind.wrap .i64 ((((dstB t).1:Nat):Int)+y)=((dstB t).1:Nat)+y:=wrap_id (by omega) (by omega)
 have w2:IntKind.wrap .i64 ((((lenB s).1:Nat):Int)+x)=((lenB s).1:Nat)+x:=wrap_id (by omega) (by omega)
 have w3:IntKind.wrap .i64 ((most:Int)-(out.length:Nat))=(most:Int)-(out.length:Nat):=wrap_id (by omega) (by omega)
 refine⟨_,rfl,_,rfl,_,flR_e hs,br_f rfl ⟨_,rfl,_,_,_,hs'.get 2 (j:=1) rfl rfl,?_⟩⟩
 rw[w1,w2]
 refine br_dec (fun hgt=>c60 hs fun H4 hs=>⟨rfl,?_⟩) (fun hgt=>⟨_,rfl,_,hs'.get 2 (j:=2) rfl rfl,_,rfl,_,_,_,hs'.get 2 (j:=1) rfl rfl,?_⟩)
 ·rw[if_pos hgt] at key
  exact hbad 22 (by decide) key.symm H4 _ hs
 rw[if_neg hgt] at key
 rw[w3]
 refine br_dec (fun hg2=>c60 hs fun H4 hs=>⟨rfl,?_⟩) (fun hg2=>?_)
 ·rw[if_pos hg2] at key
  exact hbad 24 (by decide) key.symm H4 _ hs
 rw[if_neg hg2] at key
 have hR:=hR _ _ key.symm
 clear key hbad w1 w2 w3 hs' p c rb
 obtain⟨D,hD⟩:=Int.eq_ofNat_of_zero_le (show 0≤(((dstB t).1:Nat):Int)+y by omega)
 obtain⟨N,hN⟩:=Int.eq_ofNat_of_zero_le (show 0≤(((lenB s).1:Nat):Int)+x by omega)
 rw[show(dstB t).1+y.toNat=D from by omega,show(lenB s).1+x.toNat=N from by omega] at hR
 rw[hD,hN]
 intro X hX
 have loop: ∀(m k:Nat) (out1:List Int) (H4:Heap),k+m=N→out1.length=out.length+k→copyM D m out1=copyM D N out→St H0 H4 (flR f B (a2+(dstB t).2) most out1 0::σ)→X [.int .i64 k] H4:=by
  intro m
  induction m with
  |zero=>
   intro k out1 H4 hk hl hc hs
   refine hX _ H4 (br_n (by omega) (hR H4 ?_))
   rw[←hc];exact hs
  |succ m ih=>
   intro k out1 H4 hk hl hc hs
   obtain⟨rb,p,c,h1,h2,h3,hs'⟩:=flR_op hs
   have w1:IntKind.wrap .i64 (((out1.length:Nat):Int)-(D:Int))=((out1.length-D:Nat):Int):=by rw[wrap_id (by omega) (by omega)];omega
   have wk:IntKind.wrap .i64 ((k:Int)+1)=((k+1:Nat):Int):=by rw[wrap_id (by omega) (by omega)];omega
   refine hX _ H4 (br_y (by omega) ⟨_,rfl,_,_,_,hs'.get 2 (j:=1) rfl rfl,_,rfl,_,_,_,hs'.get 2 (j:=1) rfl rfl,_,rfl,_,_,_,hs'.get 2 (j:=1) rfl rfl,?_⟩)
   rw[w1,wk]
   have hv:=get_gD out1 0 (i:=out1.length-D) (by omega)
   have hvr:=h3 _ (List.mem_of_getElem? hv)
   rw[copyM] at hc
   generalize out1.getD (out1.length-D) 0=v at hv hvr hc
   refine(hs'.is 1 rfl).rd (by omega) (by omega) (by rw[Int.toNat_natCast];exact hv) ?_
   refine hs'.alcE fun b H5 he hs5=>⟨.inl he,?_⟩
   refine hs5.appC 2 0 (el:=5) (k:=1) rfl rfl rfl (one1 rfl) (by decide) rfl (by omega) (by omega) fun p' c' H6 hs6=>⟨_,rfl,?_⟩
   refine hs6.put 3 (j:=1) rfl (by simp) rfl fun H7 hs7=>?_
   refine ih (k+1) (out1++[v]) H7 (by omega) (by simp;omega) hc ?_
   refine flR_mk (rb:=rb) (p:=p') (c:=c') (by simp;omega) h2 (fun z hz=>?_) ?_
   ·rcases List.mem_append.1 hz with hz|hz
    ·exact h3 z hz
    ·rw[List.mem_singleton.1 hz];exact hvr
   ·rw[kints_append,List.length_append,List.length_singleton]
    exact hs7.tail
 exact loop N 0 out H3 (by omega) (by omega) rfl hs
end
end Go.Proofs
namespace Go.Proofs
open Go.Sh
theorem wrap_id{n:Int}(h0: -9223372036854775808≤n)(h1:n≤9223372036854775807):IntKind.wrap .i64 n=n:=by simp[IntKind.wrap,IntKind.bits,IntKind.signed];omega
structure It where
 c:Int
 v:Value
 t:Nat
def It.cells(x:It):Array Value:=#[.int .i64 x.c,x.v]
def Lex(x y:It):Prop:=x.c<y.c∨(x.c=y.c∧x.t<y.t)
theorem Lex.trans{x y z:It}(h:Lex x y)(h':Lex y z):Lex x z:=by unfold Lex at*;omega
theorem Lex.le{x y:It}(h:Lex x y):x.c≤y.c:=by unfold Lex at*;omega
def Srt(a b:Nat)(f:Nat→It):Prop:= ∀p q,a≤p→p<q→q<b→Lex (f p) (f q)
def Tags(a b:Nat)(f:Nat→It):Prop:= ∀p q,a≤p→p<q→q<b→(f p).t<(f q).t
def Bnd(n:Nat)(f:Nat→It):Prop:= ∀i,i<n→0≤(f i).c∧(f i).c≤1152921504606846976
structure PermOn(a b:Nat)(f f':Nat→It):Prop where
 ex: ∃π:Nat→Nat,(∀i,a≤i→i<b→a≤π i∧π i<b)∧(∀i j,a≤i→i<b→a≤j→j<b→π i=π j→i=j)∧(∀i,a≤i→i<b→f' i=f (π i))
 out: ∀i,¬(a≤i∧i<b)→f' i=f i
theorem PermOn.refl(a b:Nat)(f:Nat→It):PermOn a b f f:=⟨⟨id,fun _ h h'=>⟨h,h'⟩,fun _ _ _ _ _ _ h=>h,fun _ _ _=>rfl⟩,fun _ _=>rfl⟩
theorem PermOn.trans{a b:Nat}{f g h:Nat→It}(h1:PermOn a b f g)(h2:PermOn a b g h):PermOn a b f h:=by
 obtain⟨p,p1,p2,p3⟩:=h1.ex
 obtain⟨q,q1,q2,q3⟩:=h2.ex
 refine⟨⟨fun i=>p (q i),fun i hi hj=>p1 _ (q1 i hi hj).1 (q1 i hi hj).2,fun i j a1 a2 a3 a4 he=>?_,fun i hi hj=>?_⟩,fun i hi=>?_⟩
 ·exact q2 i j a1 a2 a3 a4 (p2 _ _ (q1 i a1 a2).1 (q1 i a1 a2).2 (q1 j a3 a4).1 (q1 j a3 a4).2 he)
 ·rw[q3 i hi hj,p3 _ (q1 i hi hj).1 (q1 i hi hj).2]
 ·rw[h2.out i hi,h1.out i hi]
theorem PermOn.widen{a b a' b':Nat}{f g:Nat→It}(h:PermOn a b f g)(ha:a'≤a)(hb:b≤b'):PermOn a' b' f g:=by
 obtain⟨p,p1,p2,p3⟩:=h.ex
 have inn: ∀i,(¬(a≤i∧i<b))→True:=fun _ _=>trivial
 refine⟨⟨fun i=>if a≤i∧i<b then p i else i,fun i hi hj=>?_,fun i j a1 a2 a3 a4 he=>?_,fun i hi hj=>?_⟩,fun i hi=>h.out i (by omega)⟩
 ·show a'≤(if _ then _ else _)∧(if _ then _ else _)<b'
  split
  ·rename_i hh;have:=p1 i hh.1 hh.2;omega
  ·exact⟨hi,hj⟩
 ·simp only at he
  split at he
  ·rename_i h1
   split at he
   ·rename_i h2;exact p2 i j h1.1 h1.2 h2.1 h2.2 he
   ·rename_i h2;have:=p1 i h1.1 h1.2;omega
  ·rename_i h1
   split at he
   ·rename_i h2;have:=p1 j h2.1 h2.2;omega
   ·exact he
 ·show g i=f (if _ then _ else _)
  split
  ·rename_i hh;exact p3 i hh.1 hh.2
  ·rename_i hh;exact h.out i hh
theorem PermOn.all{a b:Nat}{f g:Nat→It}(h:PermOn a b f g){P:It→Prop}(hf: ∀i,a≤i→i<b→P (f i)): ∀i,a≤i→i<b→P (g i):=fun i hi hj=>by
 obtain⟨p,p1,_,p3⟩:=h.ex
 rw[p3 i hi hj]
 exact hf _ (p1 i hi hj).1 (p1 i hi hj).2
theorem PermOn.bnd{a b n:Nat}{f g:Nat→It}(h:PermOn a b f g)(hb:b≤n)(hf:Bnd n f):Bnd n g:=fun i hi=>by
 by_cases hh:a≤i∧i<b
 ·exact h.all (P:=fun x=>0≤x.c∧x.c≤1152921504606846976) (fun j _ hj=>hf j (by omega)) i hh.1 hh.2
 ·rw[h.out i hh];exact hf i hi
def upd(f:Nat→It)(i:Nat)(x:It):Nat→It:=fun j=>if j=i then x else f j
def swp(f:Nat→It)(p q:Nat):Nat→It:=fun j=>if j=p then f q else if j=q then f p else f j
theorem swp_perm{a b p q:Nat}(f:Nat→It)(hp:a≤p∧p<b)(hq:a≤q∧q<b):PermOn a b f (swp f p q):=by
 refine⟨⟨fun j=>if j=p then q else if j=q then p else j,fun i hi hj=>?_,fun i j _ _ _ _ he=>?_,fun i hi hj=>?_⟩,fun i hi=>?_⟩
 ·simp only;split<;>(try split)<;>omega
 ·simp only at he;repeat' split at he
  all_goals omega
 ·show(if i=p then f q else if i=q then f p else f i)=f (if i=p then q else if i=q then p else i)
  by_cases h1:i=p
  ·rw[if_pos h1,if_pos h1]
  ·by_cases h2:i=q
   ·rw[if_neg h1,if_neg h1,if_pos h2,if_pos h2]
   ·rw[if_neg h1,if_neg h1,if_neg h2,if_neg h2]
 ·unfold swp;rw[if_neg (by omega),if_neg (by omega)]
def DS(H:Heap)(blk n:Nat)(f:Nat→It):Prop:=
 ∃cs,H[blk]?=some (.cells cs 136)∧2*n≤cs.size∧ ∀i,i<n→cs[2*i]?=some (.int .i64 (f i).c)∧cs[2*i+1]?=some (f i).v∧(f i).v.oneCell'=true
def But(blk:Nat)(H H':Heap):Prop:= ∀(b:Nat) (o:Obj),H[b]?=some o→b≠blk→H'[b]?=some o
theorem But.refl(blk:Nat)(H:Heap):But blk H H:=fun _ _ h _=>h
theorem But.trans{blk:Nat}{A B C:Heap}(h:But blk A B)(h':But blk B C):But blk A C:=fun b o hb hn=>h' b o (h b o hb hn) hn
theorem But.ext{blk:Nat}{A B:Heap}(h:Ext A B):But blk A B:=fun b o hb _=>h b o hb
theorem DS.ext{H H':Heap}{blk n:Nat}{f:Nat→It}(h:DS H blk n f)(he:Ext H H'):DS H' blk n f:=by
 obtain⟨cs,h1,h2⟩:=h
 exact⟨cs,he _ _ h1,h2⟩
theorem DS.congr{H:Heap}{blk n:Nat}{f g:Nat→It}(h:DS H blk n f)(he: ∀i,i<n→g i=f i):DS H blk n g:=by
 obtain⟨cs,h1,h2,h3⟩:=h
 exact⟨cs,h1,h2,fun i hi=>by rw[he i hi];exact h3 i hi⟩
theorem DS.row{H:Heap}{blk n:Nat}{f:Nat→It}(h:DS H blk n f){i:Nat}(hi:i<n):rowIn H ⟨blk,i*2,none⟩ (f i).cells:=by
 obtain⟨cs,h1,h2,h3⟩:=h
 obtain⟨a,b,_⟩:=h3 i hi
 refine rowIn_block h1 fun j v hv=>?_
 match j,hv with
 |0,hv=>simp[It.cells] at hv;subst hv;rw[Nat.mul_comm] at a;exact a
 |1,hv=>simp[It.cells] at hv;subst hv;rw[Nat.mul_comm] at b;exact b
 |j+2,hv=>simp[It.cells] at hv
theorem DS.one{H:Heap}{blk n:Nat}{f:Nat→It}(h:DS H blk n f){i:Nat}(hi:i<n):(f i).v.oneCell'=true:=by
 obtain⟨cs,h1,h2,h3⟩:=h
 exact(h3 i hi).2.2
theorem setL_get{c vs:List Value}{i:Nat}(h:i+vs.length≤c.length)(j:Nat):(setL c i vs)[j]?=if i≤j∧j<i+vs.length then vs[j-i]? else c[j]?:=by
 unfold setL
 by_cases h1:j<i
 ·rw[if_neg (by omega),List.append_assoc,List.getElem?_append_left (by simp;omega),List.getElem?_take_of_lt h1]
 ·by_cases h2:j<i+vs.length
  ·rw[if_pos ⟨by omega,h2⟩,List.append_assoc,List.getElem?_append_right (by simp;omega),List.getElem?_append_left (by simp;omega)]
   congr 1
   simp;omega
  ·rw[if_neg (by omega),List.getElem?_append_right (by simp;omega),List.getElem?_drop]
   congr 1
   simp;omega
theorem setL_len{c vs:List Value}{i:Nat}(h:i+vs.length≤c.length):(setL c i vs).length=c.length:=by unfold setL;simp;omega
theorem stAt_some{H:Heap}{b i:Nat}{c:Array Value}{t:TypeId}{vs:List Value}{f:Heap→Prop}(h:H[b]?=some (.cells c t (0,0)))(hl:i+vs.length≤c.size)(ho: ∀v∈vs,v.oneCell'=true)
 (hf: ∀c':Array Value,c'.size=c.size→(∀j:Nat,c'[j]?=if i≤j∧j<i+vs.length then vs[j-i]? else c[j]?)→f (H.setIfInBounds b (.cells c' t (0,0)))):stAt H ⟨b,i,none⟩ vs f:=by
 have hl':i+vs.length≤c.toList.length:=by simpa using hl
 refine⟨c,t,h,rfl,hl,ho,?_⟩
 refine hf (setL c.toList i vs).toArray (by simp[setL_len hl']) fun j=>?_
 rw[List.getElem?_toArray,setL_get hl' j,Array.getElem?_toList (xs:=c)]
theorem DS.put{H:Heap}{blk n:Nat}{f:Nat→It}(h:DS H blk n f){i:Nat}(hi:i<n){x:It}(hx:x.v.oneCell'=true){K:Heap→Prop}(hK: ∀H',DS H' blk n (upd f i x)→But blk H H'→K H'):stAt H ⟨blk,i*2,none⟩ (Array.toList x.cells) K:=by
 obtain⟨cs,h1,h2,h3⟩:=h
 refine stAt_some h1 (by simp[It.cells];omega) (by intro v hv;simp[It.cells] at hv;rcases hv with rfl|rfl<;>first|rfl|exact hx) fun c' hc' hg=>hK _ ⟨c',get_set_self h1,by omega,fun j hj=>?_⟩ fun b o hb hn=>get_set_ne (Ne.symm hn) hb
 have hl:(Array.toList x.cells).length=2:=rfl
 rw[hl] at hg
 obtain⟨a,b,c⟩:=h3 j hj
 unfold upd
 by_cases hji:j=i
 ·rw[if_pos hji,hg,hg,if_pos (by omega),if_pos (by omega)]
  have e1:2*j-i*2=0:=by omega
  have e2:2*j+1-i*2=1:=by omega
  rw[e1,e2]
  exact⟨rfl,rfl,hx⟩
 ·rw[if_neg hji,hg,hg,if_neg (by omega),if_neg (by omega)]
  exact⟨a,b,c⟩
def Cmp(g:Nat):Prop:= ∀(x y:It) (H:Heap) (R:Value→Heap→Prop),(0≤x.c∧x.c≤1152921504606846976)→(0≤y.c∧y.c≤1152921504606846976)→(∀H',Ext H H'→R (.int .i64 (x.c-y.c)) H')→
 CallsH Try.prog g #[.agg x.cells,.agg y.cells] H R
theorem cmp23:Cmp 89:=fun x y H R hx hy h=>by
 refine Try.s89 ?_
 unfold Try.S89 alc
 have e1:Ext H (H.push (.cells x.cells 136)):=Ext.push _ _
 have h1:=get_push_self H (.cells x.cells 136)
 generalize H.push (.cells x.cells 136)=H1 at e1 h1
 have e2:Ext H1 (H1.push (.cells y.cells 136)):=Ext.push _ _
 have h2:=get_push_self H1 (.cells y.cells 136)
 refine⟨x.c,by rw[add_none];exact cell_get (e2 _ _ h1) rfl,y.c,by rw[add_none];exact cell_get h2 rfl,?_⟩
 rw[wrap_id (by omega) (by omega)]
 exact h _ (e1.trans e2)
theorem cmp29:Cmp 97:=fun x y H R hx hy h=>by
 refine Try.s97 ?_
 unfold Try.S97 alc
 have e1:Ext H (H.push (.cells x.cells 136)):=Ext.push _ _
 have h1:=get_push_self H (.cells x.cells 136)
 generalize H.push (.cells x.cells 136)=H1 at e1 h1
 have e2:Ext H1 (H1.push (.cells y.cells 136)):=Ext.push _ _
 have h2:=get_push_self H1 (.cells y.cells 136)
 refine⟨x.c,by rw[add_none];exact cell_get (e2 _ _ h1) rfl,y.c,by rw[add_none];exact cell_get h2 rfl,?_⟩
 rw[wrap_id (by omega) (by omega)]
 exact h _ (e1.trans e2)
theorem upd_swp(f:Nat→It){p q:Nat}(hpq:p≠q):upd (upd f q (f p)) p (f q)=swp f p q:=by
 funext j
 unfold upd swp
 by_cases h1:j=p
 ·rw[if_pos h1]
 ·rw[if_neg h1]
set_option maxHeartbeats 1000000 in
theorem c98{g:Nat}(hc:Cmp g){H:Heap}{blk n a b c:Nat}{f:Nat→It}(h:DS H blk n f)(hb:Bnd n f)(hab:a≤b)(hbn:b≤n)(hn:n≤1000000)(ht:Tags a b f){R:Value→Heap→Prop}
 (hR: ∀H' f',DS H' blk n f'→But blk H H'→PermOn a b f f'→Srt a b f'→R (.tuple #[]) H'):
 CallsH Try.prog 98 #[.slice (some ⟨blk,0,none⟩) n c,.int .i64 a,.int .i64 b,.func (.func g) #[] #[]] H R:=by
 refine Try.s98 ?_
 unfold Try.S98
 intro X hX
 have outer: ∀(m i:Nat) (H1:Heap) (f1:Nat→It),b-i=m→a+1≤i→(i≤b∨i=a+1)→DS H1 blk n f1→But blk H H1→PermOn a b f f1→Srt a i f1→(∀j,i≤j→f1 j=f j)→(∀p q,a≤p→p<i→i≤q→q<b→(f1 p).t<(f1 q).t)→X [.int .i64 i] H1:=by
  intro m
  induction m with
  |zero=>
   intro i H1 f1 hm hi hib d1 b1 p1 s1 _ _
   refine hX _ H1 (br_n (by omega) (hR H1 f1 d1 b1 p1 fun p q h1 h2 h3=>s1 p q h1 h2 (by omega)))
  |succ m ih=>
   intro i H1 f1 hm hi hib d1 b1 p1 s1 old cross
   have ewi:IntKind.wrap .i64 ((i:Int)+1)=((i+1:Nat):Int):=by rw[wrap_id (by omega) (by omega)];omega
   refine hX _ H1 (br_y (by omega) ?_)
   rw[ewi]
   intro Y hY
   have inner: ∀(j:Nat) (H2:Heap) (f2:Nat→It),a≤j→j≤i→DS H2 blk n f2→But blk H H2→PermOn a (i+1) f1 f2→f2 j=f1 i→
    (∀p q,a≤p→p<q→q≤i→p≠j→q≠j→Lex (f2 p) (f2 q))→(∀q,j<q→q≤i→(f2 j).c<(f2 q).c)→(∀p,a≤p→p≤i→p≠j→(f2 p).t<(f2 j).t)→Y [.int .i64 j] H2:=by
    intro j
    induction j with
    |zero=>
     intro H2 f2 haj hji d2 b2 p2 hx srt big tg
     refine hY _ H2 ?_
     intro J hJ
     refine br_n (by omega) ?_
     refine ih (i+1) H2 f2 (by omega) (by omega) (by omega) d2 b2 (p1.trans (p2.widen (Nat.le_refl _) (by omega))) (fun p q h1 h2 h3=>?_) (fun k hk=>by rw[p2.out k (by omega),old k (by omega)]) (fun p q h1 h2 h3 h4=>?_)
     ·by_cases hp:p=0
      ·subst hp;left;exact big q h2 (by omega)
      ·exact srt p q h1 h2 (by omega) hp (by omega)
     ·rw[p2.out q (by omega)]
      have:=p2.all (P:=fun x=>x.t<(f1 q).t) (fun k hk1 hk2=>?_) p h1 (by omega)
      ·exact this
      ·by_cases hki:k<i
       ·exact cross k q hk1 hki (by omega) h4
       ·have:k=i:=by omega
        subst this
        rw[old k (Nat.le_refl _),old q (by omega)]
        exact ht k q hk1 (by omega) h4
    |succ j ihj=>
     intro H2 f2 haj hji d2 b2 p2 hx srt big tg
     refine hY _ H2 ?_
     have ew:IntKind.wrap .i64 (((j+1:Nat):Int)-1)=(j:Int):=by rw[wrap_id (by omega) (by omega)];omega
     have done:Y [.int .i64 ((j+1:Nat):Int)] H2→True:=fun _=>trivial
     have bnd2:Bnd n f2:=p2.bnd (by omega) (p1.bnd hbn hb)
     have stop: ∀H3,Ext H2 H3→(a=j+1∨(a≤j∧(f2 j).c≤(f2 (j+1)).c))→X [.int .i64 ((i+1:Nat):Int)] H3:=fun H3 e3 hs=>by
      refine ih (i+1) H3 f2 (by omega) (by omega) (by omega) (d2.ext e3) (b2.trans (But.ext e3)) (p1.trans (p2.widen (Nat.le_refl _) (by omega))) (fun p q h1 h2 h3=>?_) (fun k hk=>by rw[p2.out k (by omega),old k (by omega)]) (fun p q h1 h2 h3 h4=>?_)
      ·by_cases hp:p=j+1
       ·subst hp;left;exact big q h2 (by omega)
       ·by_cases hq:q=j+1
        ·subst hq
         rcases hs with hs|⟨hs,hs'⟩
         ·omega
         ·have h5:Lex (f2 j) (f2 (j+1)):=by
           have:=tg j hs (by omega) (by omega)
           unfold Lex;omega
          by_cases hpj:p=j
          ·subst hpj;exact h5
          ·exact(srt p j h1 (by omega) (by omega) hp (by omega)).trans h5
        ·exact srt p q h1 h2 (by omega) hp hq
      ·rw[p2.out q (by omega)]
       refine p2.all (P:=fun x=>x.t<(f1 q).t) (fun k hk1 hk2=>?_) p h1 (by omega)
       by_cases hki:k<i
       ·exact cross k q hk1 hki (by omega) h4
       ·have:k=i:=by omega
        subst this
        rw[old k (Nat.le_refl _),old q (by omega)]
        exact ht k q hk1 (by omega) h4
     intro J hJ
     refine br_dec (fun hgt=>?_) (fun hle=>stop H2 (Ext.refl _) (.inl (by omega)))
     have haj':a≤j:=by omega
     refine⟨_,rfl,by omega,by omega,(f2 (j+1)).cells,rfl,by simpa using d2.row (i:=j+1) (by omega),_,rfl,by rw[ew];omega,by rw[ew];omega,(f2 j).cells,rfl,by rw[ew];simpa using d2.row (i:=j) (by omega),?_⟩
     refine hc (f2 (j+1)) (f2 j) H2 _ (bnd2 _ (by omega)) (bnd2 _ (by omega)) fun H3 e3=>⟨_,rfl,br_dec (fun hlt=>?_) (fun hge=>stop H3 e3 (.inr ⟨haj',by omega⟩))⟩
     refine hJ H3 ?_
     have d3:=d2.ext e3
     refine⟨_,rfl,by rw[ew];omega,by rw[ew];omega,(f2 j).cells,rfl,by rw[ew];simpa using d3.row (i:=j) (by omega),_,rfl,by omega,by omega,(f2 (j+1)).cells,rfl,by simpa using d3.row (i:=j+1) (by omega),_,rfl,by omega,by omega,rfl,?_⟩
     simp only[add_none,Nat.zero_add,Int.toNat_natCast]
     refine d3.put (i:=j+1) (by omega) (x:=f2 j) (d3.one (by omega)) fun H4 d4 b4=>⟨_,rfl,by rw[ew];omega,by rw[ew];omega,rfl,?_⟩
     rw[ew]
     simp only[add_none,Nat.zero_add,Int.toNat_natCast]
     refine d4.put (i:=j) (by omega) (x:=f2 (j+1)) (d3.one (by omega)) fun H5 d5 b5=>?_
     rw[upd_swp f2 (p:=j) (q:=j+1) (by omega)] at d5
     have sj:swp f2 j (j+1) j=f2 (j+1):=by simp[swp]
     have sj1:swp f2 j (j+1) (j+1)=f2 j:=by simp[swp]
     have so: ∀k,k≠j→k≠j+1→swp f2 j (j+1) k=f2 k:=fun k h1 h2=>by simp[swp,h1,h2]
     refine ihj H5 _ haj' (by omega) d5 (b2.trans ((But.ext e3).trans (b4.trans b5))) (p2.trans (swp_perm f2 ⟨haj',by omega⟩ ⟨by omega,by omega⟩)) (by rw[sj,hx]) (fun p q h1 h2 h3 h4 h5=>?_) (fun q h1 h2=>?_) (fun p h1 h2 h3=>?_)
     ·by_cases hq1:q=j+1
      ·subst hq1
       rw[sj1,so p h4 (by omega)]
       exact srt p j h1 (by omega) (by omega) (by omega) (by omega)
      ·by_cases hp1:p=j+1
       ·subst hp1
        rw[sj1,so q (by omega) (by omega)]
        exact srt j q haj' (by omega) h3 (by omega) (by omega)
       ·rw[so p h4 hp1,so q h5 hq1]
        exact srt p q h1 h2 h3 hp1 hq1
     ·rw[sj]
      by_cases hq1:q=j+1
      ·subst hq1;rw[sj1];omega
      ·rw[so q (by omega) hq1];exact big q (by omega) h2
     ·rw[sj]
      by_cases hp1:p=j+1
      ·subst hp1;rw[sj1];exact tg j haj' (by omega) (by omega)
      ·rw[so p h3 hp1];exact tg p h1 h2 hp1
   refine inner i H1 f1 (by omega) (Nat.le_refl _) d1 b1 (PermOn.refl _ _ _) rfl (fun p q h1 h2 h3 h4 h5=>s1 p q h1 h2 (by omega)) (fun q h1 h2=>by omega) (fun p h1 h2 h3=>?_)
   exact cross p i h1 (by omega) (Nat.le_refl _) (by omega)
 have ew:IntKind.wrap .i64 ((a:Int)+1)=((a+1:Nat):Int):=by rw[wrap_id (by omega) (by omega)];omega
 rw[ew]
 refine outer _ (a+1) H f rfl (Nat.le_refl _) (.inr rfl) h (But.refl _ _) (PermOn.refl _ _ _) (fun p q h1 h2 h3=>by omega) (fun _ _=>rfl) (fun p q h1 h2 h3 h4=>ht p q h1 (by omega) h4)
end Go.Proofs
namespace Go.Proofs
open Go.Sh
theorem mid_eq{x y:Nat}(h:x+y≤4000000):IntKind.wrap .i64 (shrI .u64 (IntKind.wrap .u64 (IntKind.wrap .i64 ((x:Int)+y))) (1:Int))=(((x+y)/2:Nat):Int):=by
 have h1:IntKind.wrap .i64 ((x:Int)+y)=(x:Int)+y:=wrap_id (by omega) (by omega)
 have h2:IntKind.wrap .u64 ((x:Int)+y)=(x:Int)+y:=by simp[IntKind.wrap,IntKind.bits,IntKind.signed];omega
 have h3:shrI .u64 ((x:Int)+y) (1:Int)=(((x+y)/2:Nat):Int):=by
  have:shrI .u64 ((x:Int)+y) (1:Int)=((x:Int)+y).fdiv 2:=by simp[shrI,IntKind.bits]
  rw[this,Int.fdiv_eq_ediv_of_nonneg _ (by omega)]
  omega
 rw[h1,h2,h3]
 exact wrap_id (by omega) (by omega)
def swr(f:Nat→It)(a b n:Nat):Nat→It:=fun i=>if a≤i∧i<a+n then f (b+(i-a)) else if b≤i∧i<b+n then f (a+(i-b)) else f i
theorem c102{H:Heap}{blk n c a b k:Nat}{cm:Value}{f:Nat→It}(h:DS H blk n f)(hab:a+k≤b)(hbn:b+k≤n)(hn:n≤1000000){gg:Nat}{R:Value→Heap→Prop}
 (hR: ∀H',DS H' blk n (swr f a b k)→But blk H H'→R (.tuple #[]) H'):
 CallsH Try.prog 102 #[.slice (some ⟨blk,0,none⟩) n c,.int .i64 a,.int .i64 b,.int .i64 k,.func (.func gg) #[] #[]] H R:=by
 refine Try.s102 ?_
 unfold Try.S102
 intro X hX
 have loop: ∀(m i:Nat) (H1:Heap),k-i=m→i≤k→DS H1 blk n (swr f a b i)→But blk H H1→X [.int .i64 i] H1:=by
  intro m
  induction m with
  |zero=>
   intro i H1 hm hi d1 b1
   have:i=k:=by omega
   subst this
   exact hX _ H1 (br_n (by omega) (hR H1 d1 b1))
  |succ m ih=>
   intro i H1 hm hi d1 b1
   have e1:IntKind.wrap .i64 ((b:Int)+i)=((b+i:Nat):Int):=by rw[wrap_id (by omega) (by omega)];omega
   have e2:IntKind.wrap .i64 ((a:Int)+i)=((a+i:Nat):Int):=by rw[wrap_id (by omega) (by omega)];omega
   have e3:IntKind.wrap .i64 ((i:Int)+1)=((i+1:Nat):Int):=by rw[wrap_id (by omega) (by omega)];omega
   refine hX _ H1 (br_y (by omega) ?_)
   rw[e1,e2,e3]
   have vb:swr f a b i (b+i)=f (b+i):=by unfold swr;rw[if_neg (by omega),if_neg (by omega)]
   have va:swr f a b i (a+i)=f (a+i):=by unfold swr;rw[if_neg (by omega),if_neg (by omega)]
   have rb:=d1.row (i:=b+i) (by omega)
   have ra:=d1.row (i:=a+i) (by omega)
   have ob:=d1.one (i:=b+i) (by omega)
   have oa:=d1.one (i:=a+i) (by omega)
   rw[vb] at rb ob
   rw[va] at ra oa
   refine⟨_,rfl,by omega,by omega,(f (b+i)).cells,rfl,by rw[Int.toNat_natCast];simpa using rb,_,rfl,by omega,by omega,(f (a+i)).cells,rfl,by rw[Int.toNat_natCast];simpa using ra,_,rfl,by omega,by omega,rfl,?_⟩
   simp only[add_none,Nat.zero_add,Int.toNat_natCast]
   refine d1.put (i:=a+i) (by omega) ob fun H2 d2 b2=>⟨_,rfl,by omega,by omega,rfl,?_⟩
   simp only[add_none,Nat.zero_add,Int.toNat_natCast]
   refine d2.put (i:=b+i) (by omega) oa fun H3 d3 b3=>?_
   refine ih (i+1) H3 (by omega) (by omega) (d3.congr fun j hj=>?_) (b1.trans (b2.trans b3))
   unfold upd swr
   by_cases h1:j=b+i
   ·rw[if_pos h1,if_neg (by omega),if_pos (by omega)];congr 1;omega
   ·rw[if_neg h1]
    by_cases h2:j=a+i
    ·rw[if_pos h2,if_pos (by omega)];congr 1;omega
    ·rw[if_neg h2]
     by_cases h3:a≤j∧j<a+i
     ·rw[if_pos h3,if_pos (by omega)]
     ·rw[if_neg h3,if_neg (by omega)]
      by_cases h4:b≤j∧j<b+i
      ·rw[if_pos h4,if_pos (by omega)]
      ·rw[if_neg h4,if_neg (by omega)]
 refine loop k 0 H (by omega) (by omega) (h.congr fun j hj=>?_) (But.refl _ _)
 unfold swr;rw[if_neg (by omega),if_neg (by omega)]
def rot(f:Nat→It)(a m b:Nat):Nat→It:=fun i=>if a≤i∧i<a+(b-m) then f (i+(m-a)) else if a+(b-m)≤i∧i<b then f (i-(b-m)) else f i
theorem rot_perm{f:Nat→It}{a m b:Nat}(h1:a≤m)(h2:m≤b):PermOn a b f (rot f a m b):=by
 refine⟨⟨fun i=>if i<a+(b-m) then i+(m-a) else i-(b-m),fun i hi hj=>?_,fun i j _ _ _ _ he=>?_,fun i hi hj=>?_⟩,fun i hi=>?_⟩
 ·simp only;split<;>omega
 ·simp only at he;split at he<;>split at he<;>omega
 ·show rot f a m b i=f (if _ then _ else _)
  unfold rot
  by_cases h:i<a+(b-m)
  ·rw[if_pos ⟨hi,h⟩,if_pos h]
  ·rw[if_neg (by omega),if_pos (by omega),if_neg h]
 ·unfold rot;rw[if_neg (by omega),if_neg (by omega)]
set_option maxHeartbeats 1000000 in
theorem c101{H:Heap}{blk n c a m b:Nat}{f:Nat→It}(h:DS H blk n f)(ham:a<m)(hmb:m<b)(hbn:b≤n)(hn:n≤1000000){gg:Nat}{R:Value→Heap→Prop}
 (hR: ∀H',DS H' blk n (rot f a m b)→But blk H H'→R (.tuple #[]) H'):
 CallsH Try.prog 101 #[.slice (some ⟨blk,0,none⟩) n c,.int .i64 a,.int .i64 m,.int .i64 b,.func (.func gg) #[] #[]] H R:=by
 refine Try.s101 ?_
 unfold Try.S101
 intro X hX
 have e1:IntKind.wrap .i64 ((m:Int)-a)=((m-a:Nat):Int):=by rw[wrap_id (by omega) (by omega)];omega
 have e2:IntKind.wrap .i64 ((b:Int)-m)=((b-m:Nat):Int):=by rw[wrap_id (by omega) (by omega)];omega
 rw[e1,e2]
 have loop: ∀(s i j:Nat) (H1:Heap) (g:Nat→It),i+j≤s→0<i→0<j→i≤m→a≤m-i→m+j≤b→DS H1 blk n g→But blk H H1→(∀k,rot g (m-i) m (m+j) k=rot f a m b k)→X [.int .i64 i,.int .i64 j] H1:=by
  intro s
  induction s with
  |zero=>intro i j H1 g hs hi hj;omega
  |succ s ih=>
   intro i j H1 g hs hi hj him hai hjb d1 b1 hg
   have w1:IntKind.wrap .i64 ((m:Int)-i)=((m-i:Nat):Int):=by rw[wrap_id (by omega) (by omega)];omega
   have w2:IntKind.wrap .i64 ((m:Int)+j)=((m+j:Nat):Int):=by rw[wrap_id (by omega) (by omega)];omega
   refine hX _ _ H1 (br_ne (fun hne=>br_dec (fun hgt=>?_) (fun hle=>?_)) (fun heq=>?_))
   ·have w3:IntKind.wrap .i64 ((i:Int)-j)=((i-j:Nat):Int):=by rw[wrap_id (by omega) (by omega)];omega
    rw[w1,w3]
    refine c102 (cm:= .nilFunc) d1 (a:=m-i) (b:=m) (k:=j) (by omega) (by omega) hn fun H2 d2 b2=>⟨rfl,?_⟩
    refine ih (i-j) j H2 _ (by omega) (by omega) hj (by omega) (by omega) hjb d2 (b1.trans b2) fun k=>?_
    rw[←hg k]
    unfold rot swr
    repeat' split
    all_goals first|omega|(congr 1;omega)|rfl
   ·have w3:IntKind.wrap .i64 ((j:Int)-i)=((j-i:Nat):Int):=by rw[wrap_id (by omega) (by omega)];omega
    have w4:IntKind.wrap .i64 (((m+j:Nat):Int)-i)=((m+j-i:Nat):Int):=by rw[wrap_id (by omega) (by omega)];omega
    rw[w1,w2,w3,w4]
    refine c102 (cm:= .nilFunc) d1 (a:=m-i) (b:=m+j-i) (k:=i) (by omega) (by omega) hn fun H2 d2 b2=>⟨rfl,?_⟩
    refine ih i (j-i) H2 _ (by omega) hi (by omega) him hai (by omega) d2 (b1.trans b2) fun k=>?_
    rw[←hg k]
    unfold rot swr
    repeat' split
    all_goals first|omega|(congr 1;omega)|rfl
   ·rw[w1]
    refine c102 (cm:= .nilFunc) d1 (a:=m-i) (b:=m) (k:=i) (by omega) (by omega) hn fun H2 d2 b2=>⟨rfl,hR H2 (d2.congr fun k hk=>?_) (b1.trans b2)⟩
    rw[←hg k]
    have:i=j:=by omega
    subst this
    unfold rot swr
    repeat' split
    all_goals first|omega|(congr 1;omega)|rfl
 refine loop (m-a+(b-m)) (m-a) (b-m) H f (Nat.le_refl _) (by omega) (by omega) (by omega) (by omega) (by omega) h (But.refl _ _) fun k=>?_
 have x1:m-(m-a)=a:=by omega
 have x2:m+(b-m)=b:=by omega
 rw[x1,x2]
end Go.Proofs
namespace Go.Proofs
open Go.Sh
set_option maxHeartbeats 4000000 in
theorem c99{g:Nat}(hc:Cmp g): ∀(s:Nat) {H:Heap} {blk n c a m b:Nat} {f:Nat→It},b-a≤s→DS H blk n f→Bnd n f→a<m→m<b→b≤n→n≤1000000→Srt a m f→Srt m b f→
 (∀p q,a≤p→p<m→m≤q→q<b→(f p).t<(f q).t)→ ∀{R:Value→Heap→Prop},(∀H' f',DS H' blk n f'→But blk H H'→PermOn a b f f'→Srt a b f'→R (.tuple #[]) H')→
 CallsH Try.prog 99 #[.slice (some ⟨blk,0,none⟩) n c,.int .i64 a,.int .i64 m,.int .i64 b,.func (.func g) #[] #[]] H R:=by
 intro s
 induction s with
 |zero=>intro H blk n c a m b f hs _ _ ham hmb;omega
 |succ s ihs=>
 intro H blk n c a m b f hs d bd ham hmb hbn hn sa sb tg R hR
 refine Try.s99 ?_
 unfold Try.S99
 have w1:IntKind.wrap .i64 ((m:Int)-a)=((m-a:Nat):Int):=by rw[wrap_id (by omega) (by omega)];omega
 have w2:IntKind.wrap .i64 ((b:Int)-m)=((b-m:Nat):Int):=by rw[wrap_id (by omega) (by omega)];omega
 rw[w1,w2]
 have inc: ∀{x:Nat},x≤4000000→IntKind.wrap .i64 ((x:Int)+1)=((x+1:Nat):Int):=fun{x} h=>by rw[wrap_id (by omega) (by omega)];omega
 refine br_eq (fun h1=>?_) (fun h1=>br_eq (fun h2=>?_) (fun h2=>?_))
 ·-- one item ahead
  have hm:m=a+1:=by omega
  intro X hX
  have search: ∀(k i j:Nat) (H1:Heap),j-i≤k→m≤i→i≤j→j≤b→Ext H H1→(∀q,m≤q→q<i→(f q).c<(f a).c)→(∀q,j≤q→q<b→(f a).c≤(f q).c)→X [.int .i64 i,.int .i64 j] H1:=by
   intro k
   induction k with
   |zero=>
    intro i j H1 hk hi hij hjb e1 lo hi2
    have:i=j:=by omega
    subst this
    have w3:IntKind.wrap .i64 ((i:Int)-1)=((i-1:Nat):Int):=by rw[wrap_id (by omega) (by omega)];omega
    refine hX _ _ H1 (br_n (by omega) ?_)
    rw[w3]
    intro Y hY
    have shift: ∀(r k:Nat) (H2:Heap),i-1-k=r→a≤k→k≤i-1→DS H2 blk n (rot f a (a+1) (k+1))→But blk H H2→Y [.int .i64 k] H2:=by
     intro r
     induction r with
     |zero=>
      intro k H2 hr hak hki d2 b2
      have hk1:k+1=i:=by omega
      rw[hk1] at d2
      refine hY _ H2 (br_n (by omega) (hR H2 _ d2 b2 ((rot_perm (by omega) (by omega)).widen (Nat.le_refl _) (by omega)) fun p q p1 p2 p3=>?_))
      unfold rot
      by_cases hp:p<i-1
      ·rw[if_pos (by omega)]
       by_cases hq:q<i-1
       ·rw[if_pos (by omega)];exact sb _ _ (by omega) (by omega) (by omega)
       ·rw[if_neg (by omega)]
        by_cases hq2:q<i
        ·rw[if_pos (by omega)]
         have:q-(i-(a+1))=a:=by omega
         rw[this];left;exact lo _ (by omega) (by omega)
        ·rw[if_neg (by omega)];exact sb _ _ (by omega) (by omega) (by omega)
      ·rw[if_neg (by omega)]
       by_cases hp2:p<i
       ·rw[if_pos (by omega),if_neg (by omega),if_neg (by omega)]
        have:p-(i-(a+1))=a:=by omega
        rw[this]
        have:=hi2 q (by omega) p3
        have:=tg a q (Nat.le_refl _) ham (by omega) p3
        unfold Lex;omega
       ·rw[if_neg (by omega),if_neg (by omega),if_neg (by omega)];exact sb _ _ (by omega) p2 p3
     |succ r ihr=>
      intro k H2 hr hak hki d2 b2
      have e1:=inc (x:=k) (by omega)
      refine hY _ H2 (br_y (by omega) ?_)
      rw[e1]
      have v1:rot f a (a+1) (k+1) (k+1)=f (k+1):=by unfold rot;rw[if_neg (by omega),if_neg (by omega)]
      have v0:rot f a (a+1) (k+1) k=f a:=by unfold rot;rw[if_neg (by omega),if_pos (by omega)];congr 1;omega
      have r1:=d2.row (i:=k+1) (by omega)
      have r0:=d2.row (i:=k) (by omega)
      have o1:=d2.one (i:=k+1) (by omega)
      have o0:=d2.one (i:=k) (by omega)
      rw[v1] at r1 o1
      rw[v0] at r0 o0
      refine⟨_,rfl,by omega,by omega,(f (k+1)).cells,rfl,by rw[Int.toNat_natCast];simpa using r1,_,rfl,by omega,by omega,(f a).cells,rfl,by rw[Int.toNat_natCast];simpa using r0,_,rfl,by omega,by omega,rfl,?_⟩
      simp only[add_none,Nat.zero_add,Int.toNat_natCast]
      refine d2.put (i:=k) (by omega) o1 fun H3 d3 b3=>⟨_,rfl,by omega,by omega,rfl,?_⟩
      simp only[add_none,Nat.zero_add,Int.toNat_natCast]
      refine d3.put (i:=k+1) (by omega) o0 fun H4 d4 b4=>?_
      refine ihr (k+1) H4 (by omega) (by omega) (by omega) (d4.congr fun j hj=>?_) (b2.trans (b3.trans b4))
      unfold upd rot
      by_cases h1:j=k+1
      ·rw[if_pos h1,if_neg (by omega),if_pos (by omega)];congr 1;omega
      ·rw[if_neg h1]
       by_cases h2:j=k
       ·rw[if_pos h2,if_pos (by omega)];congr 1;omega
       ·rw[if_neg h2]
        by_cases h3:a≤j∧j<k
        ·rw[if_pos (by omega),if_pos (by omega)]
        ·rw[if_neg (by omega),if_neg (by omega),if_neg (by omega),if_neg (by omega)]
    refine shift _ a H1 rfl (Nat.le_refl _) (by omega) ((d.ext e1).congr fun j hj=>?_) (But.ext e1)
    unfold rot
    by_cases h1:j=a
    ·rw[if_neg (by omega),if_pos (by omega)];congr 1;omega
    ·rw[if_neg (by omega),if_neg (by omega)]
   |succ k ihk=>
    intro i j H1 hk hi hij hjb e1 lo hi2
    by_cases hlt:i<j
    ·have hmid:=mid_eq (x:=i) (y:=j) (by omega)
     refine hX _ _ H1 (br_y (by omega) ?_)
     rw[hmid]
     have d1:=d.ext e1
     generalize hq:(i+j)/2=h
     have g1:i≤h:=by omega
     have g2:h<j:=by omega
     refine⟨by omega,_,rfl,by omega,by omega,(f h).cells,rfl,by rw[Int.toNat_natCast];simpa using d1.row (i:=h) (by omega),_,rfl,by omega,by omega,(f a).cells,rfl,by rw[Int.toNat_natCast];simpa using d1.row (i:=a) (by omega),?_⟩
     refine hc (f h) (f a) H1 _ (bd _ (by omega)) (bd _ (by omega)) fun H2 e2=>⟨_,rfl,br_dec (fun hl=>?_) (fun hl=>?_)⟩
     ·rw[inc (by omega)]
      refine ihk (h+1) j H2 (by omega) (by omega) (by omega) hjb (e1.trans e2) (fun q q1 q2=>?_) hi2
      by_cases hqh:q=h
      ·subst hqh;omega
      ·have:=(sb q h q1 (by omega) (by omega)).le;omega
     ·refine ihk i h H2 (by omega) hi (by omega) (by omega) (e1.trans e2) lo (fun q q1 q2=>?_)
      by_cases hqh:q=h
      ·subst hqh;omega
      ·have:=(sb h q (by omega) (by omega) q2).le;omega
    ·exact ihk i j H1 (by omega) hi hij hjb e1 lo hi2
  exact search _ m b H (Nat.le_refl _) (Nat.le_refl _) (by omega) (Nat.le_refl _) (Ext.refl _) (fun q q1 q2=>by omega) (fun q q1 q2=>by omega)
 ·-- one item behind
  have hb:b=m+1:=by omega
  intro X hX
  have search: ∀(k i j:Nat) (H1:Heap),j-i≤k→a≤i→i≤j→j≤m→Ext H H1→(∀q,a≤q→q<i→(f q).c≤(f m).c)→(∀q,j≤q→q<m→(f m).c<(f q).c)→X [.int .i64 i,.int .i64 j] H1:=by
   intro k
   induction k with
   |zero=>
    intro i j H1 hk hi hij hjb e1 lo hi2
    have:i=j:=by omega
    subst this
    refine hX _ _ H1 (br_n (by omega) ?_)
    intro Y hY
    have shift: ∀(r k:Nat) (H2:Heap),k-i=r→i≤k→k≤m→DS H2 blk n (rot f k m (m+1))→But blk H H2→Y [.int .i64 k] H2:=by
     intro r
     induction r with
     |zero=>
      intro k H2 hr hak hki d2 b2
      have hk1:k=i:=by omega
      subst hk1
      refine hY _ H2 (br_n (by omega) (hR H2 _ d2 b2 ((rot_perm (by omega) (by omega)).widen (by omega) (by omega)) fun p q p1 p2 p3=>?_))
      unfold rot
      by_cases hp:p<k
      ·rw[if_neg (by omega),if_neg (by omega)]
       by_cases hq:q<k
       ·rw[if_neg (by omega),if_neg (by omega)];exact sa _ _ (by omega) (by omega) (by omega)
       ·by_cases hq2:q=k
        ·rw[if_pos (by omega)]
         have:q+(m-k)=m:=by omega
         rw[this]
         have:=lo p p1 hp
         have:=tg p m p1 (by omega) (Nat.le_refl _) hmb
         unfold Lex;omega
        ·rw[if_neg (by omega),if_pos (by omega)];exact sa _ _ (by omega) (by omega) (by omega)
      ·by_cases hp2:p=k
       ·rw[if_pos (by omega),if_neg (by omega),if_pos (by omega)]
        have:p+(m-k)=m:=by omega
        rw[this]
        left;exact hi2 _ (by omega) (by omega)
       ·rw[if_neg (by omega),if_pos (by omega),if_neg (by omega),if_pos (by omega)];exact sa _ _ (by omega) (by omega) (by omega)
     |succ r ihr=>
      intro k H2 hr hak hki d2 b2
      have e1:IntKind.wrap .i64 ((k:Int)-1)=((k-1:Nat):Int):=by rw[wrap_id (by omega) (by omega)];omega
      refine hY _ H2 (br_y (by omega) ?_)
      rw[e1]
      have v1:rot f k m (m+1) (k-1)=f (k-1):=by unfold rot;rw[if_neg (by omega),if_neg (by omega)]
      have v0:rot f k m (m+1) k=f m:=by unfold rot;rw[if_pos (by omega)];congr 1;omega
      have r1:=d2.row (i:=k-1) (by omega)
      have r0:=d2.row (i:=k) (by omega)
      have o1:=d2.one (i:=k-1) (by omega)
      have o0:=d2.one (i:=k) (by omega)
      rw[v1] at r1 o1
      rw[v0] at r0 o0
      refine⟨_,rfl,by omega,by omega,(f (k-1)).cells,rfl,by rw[Int.toNat_natCast];simpa using r1,_,rfl,by omega,by omega,(f m).cells,rfl,by rw[Int.toNat_natCast];simpa using r0,_,rfl,by omega,by omega,rfl,?_⟩
      simp only[add_none,Nat.zero_add,Int.toNat_natCast]
      refine d2.put (i:=k) (by omega) o1 fun H3 d3 b3=>⟨_,rfl,by omega,by omega,rfl,?_⟩
      simp only[add_none,Nat.zero_add,Int.toNat_natCast]
      refine d3.put (i:=k-1) (by omega) o0 fun H4 d4 b4=>?_
      refine ihr (k-1) H4 (by omega) (by omega) (by omega) (d4.congr fun j hj=>?_) (b2.trans (b3.trans b4))
      unfold upd rot
      by_cases h1:j=k-1
      ·rw[if_pos h1,if_pos (by omega)];congr 1;omega
      ·rw[if_neg h1]
       by_cases h2:j=k
       ·rw[if_pos h2,if_neg (by omega),if_pos (by omega)];congr 1;omega
       ·rw[if_neg h2]
        by_cases h3:k+1≤j∧j<m+1
        ·rw[if_neg (by omega),if_pos (by omega),if_neg (by omega),if_pos (by omega)]
        ·rw[if_neg (by omega),if_neg (by omega),if_neg (by omega),if_neg (by omega)]
    refine shift _ m H1 rfl (by omega) (Nat.le_refl _) ((d.ext e1).congr fun j hj=>?_) (But.ext e1)
    unfold rot
    by_cases h1:j=m
    ·rw[if_pos (by omega)];congr 1;omega
    ·rw[if_neg (by omega),if_neg (by omega)]
   |succ k ihk=>
    intro i j H1 hk hi hij hjb e1 lo hi2
    by_cases hlt:i<j
    ·have hmid:=mid_eq (x:=i) (y:=j) (by omega)
     refine hX _ _ H1 (br_y (by omega) ?_)
     rw[hmid]
     have d1:=d.ext e1
     generalize hq:(i+j)/2=h
     have g1:i≤h:=by omega
     have g2:h<j:=by omega
     refine⟨by omega,_,rfl,by omega,by omega,(f m).cells,rfl,by rw[Int.toNat_natCast];simpa using d1.row (i:=m) (by omega),_,rfl,by omega,by omega,(f h).cells,rfl,by rw[Int.toNat_natCast];simpa using d1.row (i:=h) (by omega),?_⟩
     refine hc (f m) (f h) H1 _ (bd _ (by omega)) (bd _ (by omega)) fun H2 e2=>⟨_,rfl,br_not (fun hl=>?_) (fun hl=>?_)⟩
     ·have hl:=of_decide_eq_false hl
      rw[inc (by omega)]
      refine ihk (h+1) j H2 (by omega) (by omega) (by omega) hjb (e1.trans e2) (fun q q1 q2=>?_) hi2
      by_cases hqh:q=h
      ·subst hqh;omega
      ·have:=(sa q h q1 (by omega) (by omega)).le;omega
     ·have hl:=of_decide_eq_true hl
      refine ihk i h H2 (by omega) hi (by omega) (by omega) (e1.trans e2) lo (fun q q1 q2=>?_)
      by_cases hqh:q=h
      ·subst hqh;omega
      ·have:=(sa h q (by omega) (by omega) q2).le;omega
    ·exact ihk i j H1 (by omega) hi hij hjb e1 lo hi2
  exact search _ a m H (Nat.le_refl _) (Nat.le_refl _) (by omega) (Nat.le_refl _) (Ext.refl _) (fun q q1 q2=>by omega) (fun q q1 q2=>by omega)
 ·-- the general way
  have hmid:=mid_eq (x:=a) (y:=b) (by omega)
  rw[hmid]
  generalize hmd:(a+b)/2=mid
  have w3:IntKind.wrap .i64 ((mid:Int)+m)=((mid+m:Nat):Int):=by rw[wrap_id (by omega) (by omega)];omega
  have w4:IntKind.wrap .i64 (((mid+m:Nat):Int)-1)=((mid+m-1:Nat):Int):=by rw[wrap_id (by omega) (by omega)];omega
  rw[w3,w4]
  refine⟨by omega,?_⟩
  intro J hJ
  have go: ∀lo hi:Nat,a≤lo→lo≤hi→hi≤m→hi≤mid→(∀c,lo≤c→c<hi→m+c+1≤mid+m∧mid+m<b+c+1)→(lo=a∨mid+m=lo+b)→(hi=m∨hi=mid)→mid+m≤lo+b→J [.int .i64 lo,.int .i64 hi] H:=by
   intro lo hi F1 F1' F1'' F5 F2 F3 F4 F6
   refine hJ _ _ H ?_
   intro X hX
   have search: ∀(k i j:Nat) (H1:Heap),j-i≤k→lo≤i→i≤j→j≤hi→Ext H H1→(∀q,lo≤q→q<i→(f q).c≤(f (mid+m-1-q)).c)→(∀q,j≤q→q<hi→(f (mid+m-1-q)).c<(f q).c)→X [.int .i64 i,.int .i64 j] H1:=by
    intro k
    induction k with
    |zero=>
     intro st j H1 hk hlo hij hjb e1 pl ph
     have:st=j:=by omega
     subst this
     have w5:IntKind.wrap .i64 (((mid+m:Nat):Int)-st)=((mid+m-st:Nat):Int):=by rw[wrap_id (by omega) (by omega)];omega
     refine hX _ _ H1 (br_n (by omega) ?_)
     rw[w5]
     generalize hE:mid+m-st=E
     have E1:m≤E:=by omega
     have E2:E≤b:=by omega
     have E3:st≤m:=by omega
     have d1:=d.ext e1
     -- what stands there when the middle has been turned
     have cross: ∀p q,a≤p→p<mid→mid≤q→q<b→Lex (rot f st m E p) (rot f st m E q):=by
      intro p q p1 p2 q1 q2
      unfold rot
      by_cases hp:p<st
      ·rw[if_neg (by omega),if_neg (by omega),if_neg (by omega)]
       by_cases hq:q<E
       ·rw[if_pos (by omega)];exact sa _ _ p1 (by omega) (by omega)
       ·rw[if_neg (by omega)]
        have hsl:lo<st:=by rcases F3 with h|h<;>omega
        have z1:=pl (st-1) (by omega) (by omega)
        have z2:mid+m-1-(st-1)=E:=by omega
        rw[z2] at z1
        have z3:(f p).c≤(f (st-1)).c:=by
         by_cases h:p=st-1
         ·rw[h];exact Int.le_refl _
         ·exact(sa p (st-1) p1 (by omega) (by omega)).le
        have z4:(f E).c≤(f q).c:=by
         by_cases h:E=q
         ·rw[h];exact Int.le_refl _
         ·exact(sb E q E1 (by omega) q2).le
        have z5:=tg p q p1 (by omega) (by omega) q2
        unfold Lex;omega
      ·rw[if_pos (by omega),if_neg (by omega)]
       by_cases hq:q<E
       ·rw[if_pos (by omega)]
        have hsh:st<hi:=by rcases F4 with h|h<;>omega
        have z1:=ph st (Nat.le_refl _) hsh
        have z2:mid+m-1-st=E-1:=by omega
        rw[z2] at z1
        left
        have z3:(f (p+(m-st))).c≤(f (E-1)).c:=by
         by_cases h:p+(m-st)=E-1
         ·rw[h];exact Int.le_refl _
         ·exact(sb _ _ (by omega) (by omega) (by omega)).le
        have z4:(f st).c≤(f (q-(E-m))).c:=by
         by_cases h:st=q-(E-m)
         ·rw[←h];exact Int.le_refl _
         ·exact(sa _ _ (by omega) (by omega) (by omega)).le
        omega
       ·rw[if_neg (by omega)];exact sb _ _ (by omega) (by omega) q2
     have sl:Srt a st (rot f st m E):=fun p q p1 p2 p3=>by unfold rot;rw[if_neg (by omega),if_neg (by omega),if_neg (by omega),if_neg (by omega)];exact sa p q p1 p2 (by omega)
     have sm:Srt st mid (rot f st m E):=fun p q p1 p2 p3=>by unfold rot;rw[if_pos (by omega),if_pos (by omega)];exact sb _ _ (by omega) (by omega) (by omega)
     have sm2:Srt mid E (rot f st m E):=fun p q p1 p2 p3=>by unfold rot;rw[if_neg (by omega),if_pos (by omega),if_neg (by omega),if_pos (by omega)];exact sa _ _ (by omega) (by omega) (by omega)
     have sr:Srt E b (rot f st m E):=fun p q p1 p2 p3=>by unfold rot;rw[if_neg (by omega),if_neg (by omega),if_neg (by omega),if_neg (by omega)];exact sb _ _ (by omega) p2 p3
     have tl: ∀p q,a≤p→p<st→st≤q→q<mid→(rot f st m E p).t<(rot f st m E q).t:=fun p q p1 p2 q1 q2=>by
      unfold rot;rw[if_neg (by omega),if_neg (by omega),if_pos (by omega)];exact tg _ _ p1 (by omega) (by omega) (by omega)
     have tr: ∀p q,mid≤p→p<E→E≤q→q<b→(rot f st m E p).t<(rot f st m E q).t:=fun p q p1 p2 q1 q2=>by
      unfold rot;rw[if_neg (by omega),if_pos (by omega),if_neg (by omega),if_neg (by omega)];exact tg _ _ (by omega) (by omega) (by omega) q2
     have pr:PermOn a b f (rot f st m E):=(rot_perm E3 E1).widen (by omega) E2
     have bg:=pr.bnd hbn bd
     intro J1 hJ1
     have after: ∀H2,DS H2 blk n (rot f st m E)→But blk H H2→J1 [] H2:=by
      intro H2 d2 b2
      generalize rot f st m E=g at d2 cross sl sm sm2 sr tl tr pr bg
      refine hJ1 H2 ?_
      intro J2 hJ2
      have right: ∀(H3:Heap) (g2:Nat→It),DS H3 blk n g2→But blk H H3→PermOn a mid g g2→Srt a mid g2→J2 [] H3:=by
       intro H3 g2 d3 b3 p3 s3
       refine hJ2 H3 ?_
       have gr: ∀i,mid≤i→g2 i=g i:=fun i hi=>p3.out i (by omega)
       have fin: ∀(H4:Heap) (g3:Nat→It),DS H4 blk n g3→But blk H H4→PermOn mid b g2 g3→Srt mid b g3→R (.tuple #[]) H4:=by
        intro H4 g3 d4 b4 p4 s4
        refine hR H4 g3 d4 b4 (pr.trans ((p3.widen (Nat.le_refl _) (by omega)).trans (p4.widen (by omega) (Nat.le_refl _)))) fun p q p1 p2 q2=>?_
        by_cases hp:p<mid
        ·rw[p4.out p (by omega)]
         by_cases hq:q<mid
         ·rw[p4.out q (by omega)];exact s3 p q p1 p2 hq
         ·refine p4.all (P:=fun y=>Lex (g2 p) y) (fun i i1 i2=>?_) q (by omega) q2
          rw[gr i i1]
          exact p3.all (P:=fun x=>Lex x (g i)) (fun k k1 k2=>cross k i k1 k2 i1 i2) p p1 hp
        ·exact s4 p q (by omega) p2 q2
       refine br_dec (fun hme=>br_dec (fun heb=>?_) (fun heb=>?_)) (fun hme=>?_)
       ·refine ihs (by omega) d3 (p3.bnd (by omega) bg) (by omega) (by omega) hbn hn (fun p q p1 p2 q2=>?_) (fun p q p1 p2 q2=>?_) (fun p q p1 p2 q1 q2=>?_) (fun H4 g3 d4 b4 p4 s4=>⟨rfl,fin H4 g3 d4 (b3.trans b4) p4 s4⟩)
        ·rw[gr p p1,gr q (by omega)];exact sm2 p q p1 p2 q2
        ·rw[gr p (by omega),gr q (by omega)];exact sr p q p1 p2 q2
        ·rw[gr p p1,gr q (by omega)];exact tr p q p1 p2 q1 q2
       ·refine fin H3 g2 d3 b3 (PermOn.refl _ _ _) fun p q p1 p2 q2=>?_
        rw[gr p p1,gr q (by omega)];exact sm2 p q p1 p2 (by omega)
       ·refine fin H3 g2 d3 b3 (PermOn.refl _ _ _) fun p q p1 p2 q2=>?_
        rw[gr p p1,gr q (by omega)];exact sr p q (by omega) p2 q2
      refine br_dec (fun has=>br_dec (fun hsm=>?_) (fun hsm=>?_)) (fun has=>?_)
      ·refine ihs (by omega) d2 bg (by omega) (by omega) (by omega) hn sl sm tl (fun H3 g2 d3 b3 p3 s3=>⟨rfl,right H3 g2 d3 (b2.trans b3) p3 s3⟩)
      ·exact right H2 g d2 b2 (PermOn.refl _ _ _) fun p q p1 p2 q2=>sl p q p1 p2 (by omega)
      ·exact right H2 g d2 b2 (PermOn.refl _ _ _) fun p q p1 p2 q2=>sm p q (by omega) p2 q2
     have idn: ¬(st<m∧m<E)→ ∀i,i<n→rot f st m E i=f i:=fun hn i hi=>by
      unfold rot
      by_cases h1:st≤i∧i<st+(E-m)
      ·rw[if_pos h1];congr 1;omega
      ·rw[if_neg h1]
       by_cases h2:st+(E-m)≤i∧i<E
       ·rw[if_pos h2];congr 1;omega
       ·rw[if_neg h2]
     refine br_dec (fun hsm=>br_dec (fun hmE=>?_) (fun hmE=>?_)) (fun hsm=>?_)
     ·refine c101 d1 (by omega) (by omega) (by omega) hn fun H2 d2 b2=>⟨rfl,after H2 d2 ((But.ext e1).trans b2)⟩
     ·exact after H1 (d1.congr (idn (by omega))) (But.ext e1)
     ·exact after H1 (d1.congr (idn (by omega))) (But.ext e1)
    |succ k ihk=>
     intro i j H1 hk hi' hij hjb e1 pl ph
     by_cases hlt:i<j
     ·have hmid:=mid_eq (x:=i) (y:=j) (by omega)
      refine hX _ _ H1 (br_y (by omega) ?_)
      rw[hmid]
      have d1:=d.ext e1
      generalize hq:(i+j)/2=h
      have g1:i≤h:=by omega
      have g2:h<j:=by omega
      have f2:=F2 h (by omega) (by omega)
      have w6:IntKind.wrap .i64 (((mid+m-1:Nat):Int)-(h:Nat))=((mid+m-1-h:Nat):Int):=by rw[wrap_id (by omega) (by omega)];omega
      rw[w6]
      refine⟨by omega,_,rfl,by omega,by omega,(f (mid+m-1-h)).cells,rfl,by rw[Int.toNat_natCast];simpa using d1.row (i:=mid+m-1-h) (by omega),_,rfl,by omega,by omega,(f h).cells,rfl,by rw[Int.toNat_natCast];simpa using d1.row (i:=h) (by omega),?_⟩
      refine hc (f (mid+m-1-h)) (f h) H1 _ (bd _ (by omega)) (bd _ (by omega)) fun H2 e2=>⟨_,rfl,br_not (fun hl=>?_) (fun hl=>?_)⟩
      ·have hl:=of_decide_eq_false hl
       rw[inc (by omega)]
       refine ihk (h+1) j H2 (by omega) (by omega) (by omega) hjb (e1.trans e2) (fun q q1 q2=>?_) ph
       by_cases hqh:q=h
       ·subst hqh;omega
       ·have z1:=(sa q h (by omega) (by omega) (by omega)).le
        have z2:=(sb (mid+m-1-h) (mid+m-1-q) (by omega) (by omega) (by have:=F2 q (by omega) (by omega);omega)).le
        omega
      ·have hl:=of_decide_eq_true hl
       refine ihk i h H2 (by omega) hi' (by omega) (by omega) (e1.trans e2) pl (fun q q1 q2=>?_)
       by_cases hqh:q=h
       ·subst hqh;omega
       ·have z1:=(sa h q (by omega) (by omega) (by omega)).le
        have z2:=(sb (mid+m-1-q) (mid+m-1-h) (by have:=F2 q (by omega) (by omega);omega) (by have:=F2 q (by omega) (by omega);omega) (by omega)).le
        omega
     ·exact ihk i j H1 (by omega) hi' hij hjb e1 pl ph
   exact search _ lo hi H (Nat.le_refl _) (Nat.le_refl _) F1' (Nat.le_refl _) (Ext.refl _) (fun q q1 q2=>by omega) (fun q q1 q2=>by omega)
  refine br_dec (fun hgt=>?_) (fun hle=>?_)
  ·have w5:IntKind.wrap .i64 (((mid+m:Nat):Int)-b)=((mid+m-b:Nat):Int):=by rw[wrap_id (by omega) (by omega)];omega
   rw[w5]
   exact go _ _ (by omega) (by omega) (by omega) (by omega) (fun c c1 c2=>by omega) (.inr (by omega)) (.inr rfl) (by omega)
  ·exact go _ _ (by omega) (by omega) (by omega) (by omega) (fun c c1 c2=>by omega) (.inl rfl) (.inl rfl) (by omega)
end Go.Proofs
namespace Go.Proofs
open Go.Sh
structure Cut(n:Nat)(f:Nat→It)(bd:Nat→Prop)(f1:Nat→It):Prop where
 perm:PermOn 0 n f f1
 lex: ∀p q,p<q→q<n→(∀r,p<r→r≤q→ ¬bd r)→Lex (f1 p) (f1 q)
 tag: ∀p q r,p<r→r≤q→q<n→bd r→(f1 p).t<(f1 q).t
theorem Cut.congr{n:Nat}{f f1:Nat→It}{bd bd':Nat→Prop}(h:Cut n f bd f1)(hb: ∀r,0<r→r<n→(bd r↔bd' r)):Cut n f bd' f1:=
 ⟨h.perm,fun p q hpq hq hn=>h.lex p q hpq hq fun r r1 r2 hr=>hn r r1 r2 ((hb r (by omega) (by omega)).1 hr),fun p q r r1 r2 hq hr=>h.tag p q r r1 r2 hq ((hb r (by omega) (by omega)).2 hr)⟩
theorem Cut.step{n:Nat}{f f1 f2:Nat→It}{bd:Nat→Prop}(h:Cut n f bd f1){a b:Nat}(ha:a=0∨bd a)(hb:b=n∨bd b)(hbn:b≤n)(hp:PermOn a b f1 f2)(hs:Srt a b f2):Cut n f (fun r=>bd r∧ ¬(a<r∧r<b)) f2:=by
 refine⟨h.perm.trans (hp.widen (by omega) hbn),fun p q hpq hq hn=>?_,fun p q r r1 r2 hq hr=>?_⟩
 ·by_cases h1:a≤p
  ·by_cases h2:q<b
   ·exact hs p q h1 hpq h2
   ·by_cases h3:b≤p
    ·rw[hp.out p (by omega),hp.out q (by omega)]
     exact h.lex p q hpq hq fun r r1 r2 hr=>hn r r1 r2 ⟨hr,by omega⟩
    ·rcases hb with hb|hb
     ·omega
     ·exact absurd ⟨hb,by omega⟩ (hn b (by omega) (by omega))
  ·by_cases h2:a≤q
   ·rcases ha with ha|ha
    ·omega
    ·exact absurd ⟨ha,by omega⟩ (hn a (by omega) h2)
   ·rw[hp.out p (by omega),hp.out q (by omega)]
    exact h.lex p q hpq hq fun r r1 r2 hr=>hn r r1 r2 ⟨hr,by omega⟩
 ·obtain⟨hr,hrn⟩:=hr
  by_cases h1:r≤a
  ·rw[hp.out p (by omega)]
   by_cases h2:a≤q∧q<b
   ·exact hp.all (P:=fun y=>(f1 p).t<y.t) (fun i i1 i2=>h.tag p i r r1 (by omega) (by omega) hr) q h2.1 h2.2
   ·rw[hp.out q h2];exact h.tag p q r r1 r2 hq hr
  ·rw[hp.out q (by omega)]
   by_cases h2:a≤p∧p<b
   ·exact hp.all (P:=fun y=>y.t<(f1 q).t) (fun i i1 i2=>h.tag i q r (by omega) r2 hq hr) p h2.1 h2.2
   ·rw[hp.out p h2];exact h.tag p q r r1 r2 hq hr
theorem dvd_gap{d a r:Nat}(h1:d∣a)(h2:d∣r)(h:a<r):a+d≤r:=by
 have:=Nat.le_of_dvd (by omega) (Nat.dvd_sub h2 h1)
 omega
set_option maxHeartbeats 2000000 in
theorem c95{g:Nat}(hc:Cmp g){H:Heap}{blk n c:Nat}{f:Nat→It}(h:DS H blk n f)(hb:Bnd n f)(hn:n≤1000000)(ht:Tags 0 n f){R:Value→Heap→Prop}
 (hR: ∀H' f',DS H' blk n f'→But blk H H'→PermOn 0 n f f'→Srt 0 n f'→R (.tuple #[]) H'):
 CallsH Try.prog 95 #[.slice (some ⟨blk,0,none⟩) n c,.int .i64 n,.func (.func g) #[] #[]] H R:=by
 refine Try.s95 ?_
 unfold Try.S95
 intro X hX
 -- the merges
 have merges: ∀(H1:Heap) (f1:Nat→It),DS H1 blk n f1→But blk H H1→Cut n f (fun r=>20∣r) f1→ ∀Y:List Value→Heap→Prop,(∀blockSize13:Int,∀H_14:Heap,(br (decide ((blockSize13:Int)<(n:Int))) (∀X_15:List Value→Heap→Prop,(∀a16:Int,∀b17:Int,∀H_18:Heap,(br (decide ((b17:Int)≤(n:Int))) (CallsH Try.prog 99 #[Value.slice (some ⟨blk,0,none⟩) n c,Value.int .i64 a16,Value.int .i64 (IntKind.wrap .i64 (a16+blockSize13)),Value.int .i64 b17,Value.func (.func g) #[] #[]] H_18 fun r19 H_20=>r19=Value.tuple #[]∧X_15 [Value.int .i64 b17,Value.int .i64 (IntKind.wrap .i64 (b17+(IntKind.wrap .i64 ((2:Int)*blockSize13))))] H_20) (br (decide (((IntKind.wrap .i64 (a16+blockSize13)):Int)<(n:Int))) (CallsH Try.prog 99 #[Value.slice (some ⟨blk,0,none⟩) n c,Value.int .i64 a16,Value.int .i64 (IntKind.wrap .i64 (a16+blockSize13)),Value.int .i64 (n:Int),Value.func (.func g) #[] #[]] H_18 fun r21 H_22=>r21=Value.tuple #[]∧Y [Value.int .i64 (IntKind.wrap .i64 (blockSize13*(2:Int)))] H_22) (Y [Value.int .i64 (IntKind.wrap .i64 (blockSize13*(2:Int)))] H_18)))→X_15 [Value.int .i64 a16,Value.int .i64 b17] H_18)→X_15 [Value.int .i64 (0:Int),Value.int .i64 (IntKind.wrap .i64 ((2:Int)*blockSize13))] H_14) (R (Value.tuple #[]) H_14))→Y [Value.int .i64 blockSize13] H_14)→Y [Value.int .i64 (20:Int)] H1:=by
  intro H1 f1 d1 b1 k1 Y hY
  have rounds: ∀(m bs:Nat) (H2:Heap) (f2:Nat→It),n-bs≤m→0<bs→DS H2 blk n f2→But blk H H2→Cut n f (fun r=>bs∣r) f2→Y [.int .i64 bs] H2:=by
   intro m
   induction m with
   |zero=>
    intro bs H2 f2 hm hbs d2 b2 k2
    refine hY _ H2 (br_n (by omega) (hR H2 f2 d2 b2 k2.perm fun p q p1 p2 p3=>k2.lex p q p2 p3 fun r r1 r2 hr=>?_))
    have:=Nat.le_of_dvd (by omega) hr
    omega
   |succ m ih=>
    intro bs H2 f2 hm hbs d2 b2 k2
    by_cases hlt:bs<n
    ·have w1:IntKind.wrap .i64 ((2:Int)*bs)=((2*bs:Nat):Int):=by rw[wrap_id (by omega) (by omega)];omega
     have w2:IntKind.wrap .i64 ((bs:Int)*2)=((2*bs:Nat):Int):=by rw[wrap_id (by omega) (by omega)];omega
     refine hY _ H2 (br_y (by omega) ?_)
     rw[w1,w2]
     intro Z hZ
     have h2bs: ∀r,2*bs∣r→bs∣r:=fun r hr=>Nat.dvd_trans (Nat.dvd_mul_left _ _) hr
     have inner: ∀(m2 a:Nat) (H3:Heap) (f3:Nat→It),n-a≤m2→2*bs∣a→a≤n→DS H3 blk n f3→But blk H H3→Cut n f (fun r=>bs∣r∧(r≤a→2*bs∣r)) f3→Z [.int .i64 a,.int .i64 ((a+2*bs:Nat):Int)] H3:=by
      intro m2
      induction m2 with
      |zero=>
       intro a H3 f3 hm2 hda han d3 b3 k3
       have w3:IntKind.wrap .i64 ((a:Int)+bs)=((a+bs:Nat):Int):=by rw[wrap_id (by omega) (by omega)];omega
       refine hZ _ _ H3 (br_n (by omega) ?_)
       rw[w3]
       refine br_n (by omega) (ih (2*bs) H3 f3 (by omega) (by omega) d3 b3 (k3.congr fun r r0 rn=>⟨fun hh=>hh.2 (by omega),fun hh=>⟨h2bs r hh,fun _=>hh⟩⟩))
      |succ m2 ih2=>
       intro a H3 f3 hm2 hda han d3 b3 k3
       have w3:IntKind.wrap .i64 ((a:Int)+bs)=((a+bs:Nat):Int):=by rw[wrap_id (by omega) (by omega)];omega
       have bnd3:Bnd n f3:=k3.perm.bnd (Nat.le_refl _) hb
       have hab:bs∣a:=h2bs a hda
       have hs1: ∀e,e≤a+bs→e≤n→Srt a e f3:=fun e he hen p q p1 p2 p3=>k3.lex p q p2 (by omega) fun r r1 r2 hr=>by
        have:=dvd_gap hab hr.1 (by omega);omega
       have hs2: ∀e,e≤a+2*bs→e≤n→Srt (a+bs) e f3:=fun e he hen p q p1 p2 p3=>k3.lex p q p2 (by omega) fun r r1 r2 hr=>by
        have:=dvd_gap (Nat.dvd_add hab (Nat.dvd_refl bs)) hr.1 (by omega);omega
       have htg: ∀e,e≤n→ ∀p q,a≤p→p<a+bs→a+bs≤q→q<e→(f3 p).t<(f3 q).t:=fun e hen p q p1 p2 q1 q2=>k3.tag p q (a+bs) p2 q1 (by omega) ⟨Nat.dvd_add hab (Nat.dvd_refl bs),fun hh=>by omega⟩
       refine hZ _ _ H3 (br_dec (fun hle=>?_) (fun hgt=>?_))
       ·rw[w3]
        have w4:IntKind.wrap .i64 (((a+2*bs:Nat):Int)+((2*bs:Nat):Int))=((a+2*bs+2*bs:Nat):Int):=by rw[wrap_id (by omega) (by omega)];omega
        rw[w4]
        refine c99 hc _ (Nat.le_refl _) d3 bnd3 (by omega) (by omega) (by omega) hn (hs1 _ (Nat.le_refl _) (by omega)) (hs2 _ (Nat.le_refl _) (by omega)) (htg _ (by omega)) (fun H4 f4 d4 b4 p4 s4=>⟨rfl,?_⟩)
        have hd2:2*bs∣a+2*bs:=Nat.dvd_add hda (Nat.dvd_refl _)
        refine ih2 (a+2*bs) H4 f4 (by omega) hd2 (by omega) d4 (b3.trans b4) ((k3.step (.inr ⟨hab,fun _=>hda⟩) (.inr ⟨h2bs _ hd2,fun _=>hd2⟩) (by omega) p4 s4).congr fun r r0 rn=>⟨fun hh=>⟨hh.1.1,fun hle2=>?_⟩,fun hh=>⟨⟨hh.1,fun hra=>hh.2 (by omega)⟩,fun hc=>?_⟩⟩)
        ·by_cases hra:r≤a
         ·exact hh.1.2 hra
         ·have:r=a+2*bs:=by
           have:=hh.2;omega
          rw[this];exact hd2
        ·have:=dvd_gap hda (hh.2 (by omega)) hc.1;omega
       ·rw[w3]
        refine br_dec (fun hlt2=>?_) (fun hge=>?_)
        ·refine c99 hc _ (Nat.le_refl _) d3 bnd3 (by omega) (by omega) (Nat.le_refl _) hn (hs1 _ (Nat.le_refl _) (by omega)) (hs2 _ (by omega) (Nat.le_refl _)) (htg _ (Nat.le_refl _)) (fun H4 f4 d4 b4 p4 s4=>⟨rfl,?_⟩)
         refine ih (2*bs) H4 f4 (by omega) (by omega) d4 (b3.trans b4) ((k3.step (.inr ⟨hab,fun _=>hda⟩) (.inl rfl) (Nat.le_refl _) p4 s4).congr fun r r0 rn=>⟨fun hh=>hh.1.2 (by have:=hh.2;omega),fun hh=>⟨⟨h2bs r hh,fun _=>hh⟩,fun hc=>?_⟩⟩)
         have:=dvd_gap hda hh hc.1;omega
        ·refine ih (2*bs) H3 f3 (by omega) (by omega) d3 b3 (k3.congr fun r r0 rn=>⟨fun hh=>?_,fun hh=>⟨h2bs r hh,fun _=>hh⟩⟩)
         by_cases hra:r≤a
         ·exact hh.2 hra
         ·have:=dvd_gap hab hh.1 (by omega);omega
     have:=inner n 0 H2 f2 (by omega) ⟨0,rfl⟩ (by omega) d2 b2 (k2.congr fun r r0 rn=>⟨fun hh=>⟨hh,fun h0=>by omega⟩,fun hh=>hh.1⟩)
     simpa using this
    ·exact ih bs H2 f2 (by omega) hbs d2 b2 k2
  exact rounds n 20 H1 f1 (by omega) (by omega) d1 b1 k1
 have blocks: ∀(m a:Nat) (H1:Heap) (f1:Nat→It),n-a≤m→20∣a→a≤n→DS H1 blk n f1→But blk H H1→(∀i,a≤i→f1 i=f i)→Cut n f (fun r=>0<r∧(r≤a→20∣r)) f1→X [.int .i64 a,.int .i64 ((a+20:Nat):Int)] H1:=by
  have last: ∀(a:Nat) (H1:Heap) (f1:Nat→It),n<a+20→20∣a→a≤n→DS H1 blk n f1→But blk H H1→(∀i,a≤i→f1 i=f i)→Cut n f (fun r=>0<r∧(r≤a→20∣r)) f1→X [.int .i64 a,.int .i64 ((a+20:Nat):Int)] H1:=by
   intro a H1 f1 hlt hda han d1 b1 old k1
   refine hX _ _ H1 (br_n (by omega) ?_)
   refine c98 hc d1 (k1.perm.bnd (Nat.le_refl _) hb) han (Nat.le_refl _) hn (fun p q p1 p2 p3=>by rw[old p p1,old q (by omega)];exact ht p q (by omega) p2 p3) fun H2 f2 d2 b2 p2 s2=>⟨rfl,?_⟩
   intro Y hY
   refine merges H2 f2 d2 (b1.trans b2) ((k1.step (a:=a) (b:=n) ?_ (.inl rfl) (Nat.le_refl _) p2 s2).congr fun r r0 rn=>⟨fun hh=>hh.1.2 (by have:=hh.2;omega),fun hh=>⟨⟨r0,fun _=>hh⟩,fun hc=>?_⟩⟩) Y hY
   ·by_cases h0:a=0
    ·exact .inl h0
    ·exact .inr ⟨by omega,fun _=>hda⟩
   ·have:=dvd_gap hda hh hc.1;omega
  intro m
  induction m with
  |zero=>
   intro a H1 f1 hm hda han
   exact last a H1 f1 (by omega) hda han
  |succ m ih=>
   intro a H1 f1 hm hda han d1 b1 old k1
   by_cases hle:a+20≤n
   ·have w:IntKind.wrap .i64 (((a+20:Nat):Int)+(20:Int))=((a+20+20:Nat):Int):=by rw[wrap_id (by omega) (by omega)];omega
    refine hX _ _ H1 (br_y (by omega) ?_)
    rw[w]
    refine c98 hc d1 (k1.perm.bnd (Nat.le_refl _) hb) (by omega) hle hn (fun p q p1 p2 p3=>by rw[old p p1,old q (by omega)];exact ht p q (by omega) p2 (by omega)) fun H2 f2 d2 b2 p2 s2=>⟨rfl,?_⟩
    refine ih (a+20) H2 f2 (by omega) (by omega) hle d2 (b1.trans b2) (fun i hi=>by rw[p2.out i (by omega),old i (by omega)]) ((k1.step (a:=a) (b:=a+20) ?_ (.inr ⟨by omega,fun h=>by omega⟩) hle p2 s2).congr fun r r0 rn=>⟨fun hh=>⟨r0,fun h20=>?_⟩,fun hh=>⟨⟨r0,fun h=>hh.2 (by omega)⟩,fun hc=>?_⟩⟩)
    ·by_cases h0:a=0
     ·exact .inl h0
     ·exact .inr ⟨by omega,fun _=>hda⟩
    ·have:=hh.2
     have:=hh.1.2
     omega
    ·have:=hh.2 (by omega)
     omega
   ·exact last a H1 f1 (by omega) hda han d1 b1 old k1
 have:=blocks n 0 H f (by omega) ⟨0,rfl⟩ (by omega) h (But.refl _ _) (fun _ _=>rfl) ⟨PermOn.refl _ _ _,fun p q p1 p2 hn=>absurd ⟨by omega,fun h=>by omega⟩ (hn q p1 (Nat.le_refl _)),fun p q r r1 r2 hq hr=>ht p q (by omega) (by omega) hq⟩
 simpa using this
theorem c88{g:Nat}(hc:Cmp g){H:Heap}{blk n c:Nat}{f:Nat→It}(h:DS H blk n f)(hb:Bnd n f)(hn:n≤1000000)(ht:Tags 0 n f){R:Value→Heap→Prop}
 (hR: ∀H' f',DS H' blk n f'→But blk H H'→PermOn 0 n f f'→Srt 0 n f'→R (.tuple #[]) H'):
 CallsH Try.prog 88 #[.slice (some ⟨blk,0,none⟩) n c,.func (.func g) #[] #[]] H R:=by
 refine Try.s88 ?_
 unfold Try.S88
 exact c95 hc h hb hn ht fun H' f' d b p s=>⟨rfl,hR H' f' d b p s⟩
end Go.Proofs
namespace Go.Proofs
open Go.Sh
theorem c100{H:Heap}{n:Nat}(hn:n≤1000000){R:Value→Heap→Prop}(hR: ∀H' p' c',FS H.size H' p' 0 c' 136 2 []→Ext H H'→R (.slice p' 0 c') H'):
 CallsH Try.prog 100 #[.slice none 0 0,.int .i64 n] H R:=by
 refine Try.s100 ?_
 unfold Try.S100
 intro J hJ
 refine br_n (by omega) (hJ H ?_)
 have w1:IntKind.wrap .i64 (((0:Nat):Int)-((0:Nat):Int))=0:=by decide
 have w2:IntKind.wrap .i64 ((n:Int)-0)=(n:Int):=by rw[wrap_id (by omega) (by omega)];omega
 rw[w1,w2]
 refine br_dec (fun hp=>⟨by omega,by omega,by omega,by omega,?_,by omega,fun h0=>by omega,fun _=>⟨#[],rfl,fun c' hc'=>⟨by omega,by omega,?_⟩⟩⟩) (fun h0=>hR H none 0 (FS.nil _ _ _ _) (Ext.refl _))
 ·simp;omega
 ·have hc0:c'≠0:=by simp at hc';omega
  simp only[hc0,if_false,Option.map_some,Nat.sub_zero,Int.toNat_natCast,Nat.zero_mul,add_none,Nat.zero_add]
  refine hR _ _ c' ⟨rfl,Nat.zero_le _,by simp,.inr ⟨H.size,_,rfl,Nat.le_refl _,get_push_self _ _,?_,fun i v hv=>by simp at hv⟩⟩ (Ext.push _ _)
  rw[zeroCells_eq _ _ (by simp)]
  simp[reps_length] at hc' ⊢
  omega
theorem c96{H:Heap}{b:Nat}{p1 p2:Option Addr}{l1 c1 l2 c2:Nat}{tt:TypeId}{A B:List Value}(hb:H[b]?=some (.cells #[.slice p1 l1 c1,.slice p2 l2 c2] tt))(hA:RS H p1 l1 136 2 A)(hB:RS H p2 l2 136 2 B)(hl:l1+l2≤1000000){R:Value→Heap→Prop}
 (hR: ∀H' p' c',FS H.size H' p' (l1+l2) c' 136 2 (A++B)→Ext H H'→R (.slice p' (l1+l2) c') H'):CallsH Try.prog 96 #[.slice (some ⟨b,0,none⟩) 2 2] H R:=by
 refine Try.s96 ?_
 unfold Try.S96
 intro X hX
 have g0: ∀{H':Heap},Ext H H'→cell H' ⟨b,0,none⟩=some (.slice p1 l1 c1):=fun e=>cell_get (e _ _ hb) rfl
 have g1: ∀{H':Heap},Ext H H'→cell H' ⟨b,1,none⟩=some (.slice p2 l2 c2):=fun e=>cell_get (e _ _ hb) rfl
 have w0:IntKind.wrap .i64 ((0:Int)+((l1:Nat):Int))=(l1:Int):=by rw[wrap_id (by omega) (by omega)];omega
 have w1:IntKind.wrap .i64 ((l1:Int)+((l2:Nat):Int))=((l1+l2:Nat):Int):=by rw[wrap_id (by omega) (by omega)];omega
 have i1:IntKind.wrap .i64 ((0:Int)+1)=1:=by decide
 have i2:IntKind.wrap .i64 ((1:Int)+1)=2:=by decide
 refine hX _ _ H (br_y (by omega) ⟨_,rfl,by omega,by omega,p1,l1,c1,by simpa using g0 (Ext.refl _),?_⟩)
 rw[w0,i1]
 refine br_n (by omega) (hX _ _ H (br_y (by omega) ⟨_,rfl,by omega,by omega,p2,l2,c2,by simpa using g1 (Ext.refl _),?_⟩))
 rw[w1,i2]
 refine br_n (by omega) (hX _ _ H (br_n (by omega) ?_))
 refine c100 hl fun H1 q0 k0 f0 e1=>⟨q0,0,k0,rfl,?_⟩
 intro Y hY
 have sz1:=e1.size
 refine hY _ _ _ _ H1 (br_y (by omega) ⟨_,rfl,by omega,by omega,p1,l1,c1,by simpa using g0 e1,?_⟩)
 rw[i1]
 have stay: ∀{Hx Hy:Heap} {q:Option Addr} {l c:Nat} {fs:List Value},Ext H Hx→FS H.size Hx q l c 136 2 fs→(∀(b:Nat) (o:Obj),Hx[b]?=some o→q≠some ⟨b,0,none⟩→Hy[b]?=some o)→Ext H Hy:=fun{Hx Hy q l c fs} ex hf hk b o hb=>by
  refine hk b o (ex b o hb) fun hq=>?_
  have hlt:=lt_of_get hb
  rcases hf.at_ with ⟨h1,_⟩|⟨blk,cs,h1,h2,_⟩
  ·rw[h1] at hq;cases hq
  ·rw[h1] at hq;cases hq;omega
 refine f0.app (hA.ext e1) (by decide) sz1 rfl (by omega) (by omega) fun q1 k1 H2 f1 hk1 hs1=>?_
 have e2:=stay e1 f0 hk1
 refine hY _ _ _ _ H2 (br_y (by omega) ⟨_,rfl,by omega,by omega,p2,l2,c2,by simpa using g1 e2,?_⟩)
 rw[i2]
 refine f1.app (hB.ext e2) (by decide) e2.size rfl (by omega) (by omega) fun q2 k2 H3 f2 hk2 hs2=>?_
 have e3:=stay e2 f1 hk2
 refine hY _ _ _ _ H3 (br_n (by omega) ?_)
 have e0:0+l1+l2=l1+l2:=by omega
 rw[e0] at f2 ⊢
 exact hR H3 q2 k2 (by simpa using f2) e3
theorem c87{H:Heap}{n:Nat}(hn:n≤1000000){R:Value→Heap→Prop}(hR: ∀H' p' c',FS H.size H' p' 0 c' 3 1 []→Ext H H'→R (.slice p' 0 c') H'):
 CallsH Try.prog 87 #[.slice none 0 0,.int .i64 n] H R:=by
 refine Try.s87 ?_
 unfold Try.S87
 intro J hJ
 refine br_n (by omega) (hJ H ?_)
 have w1:IntKind.wrap .i64 (((0:Nat):Int)-((0:Nat):Int))=0:=by decide
 have w2:IntKind.wrap .i64 ((n:Int)-0)=(n:Int):=by rw[wrap_id (by omega) (by omega)];omega
 rw[w1,w2]
 refine br_dec (fun hp=>⟨by omega,by omega,by omega,by omega,?_,by omega,fun h0=>by omega,fun _=>⟨#[],rfl,fun c' hc'=>⟨by omega,by omega,?_⟩⟩⟩) (fun h0=>hR H none 0 (FS.nil _ _ _ _) (Ext.refl _))
 ·simp;omega
 ·have hc0:c'≠0:=by simp at hc';omega
  simp only[hc0,if_false,Option.map_some,Nat.sub_zero,Int.toNat_natCast,Nat.zero_mul,add_none,Nat.zero_add]
  refine hR _ _ c' ⟨rfl,Nat.zero_le _,by simp,.inr ⟨H.size,_,rfl,Nat.le_refl _,get_push_self _ _,?_,fun i v hv=>by simp at hv⟩⟩ (Ext.push _ _)
  rw[zeroCells_eq _ _ (by simp)]
  simp[reps_length] at hc' ⊢
  omega
theorem c72{H:Heap}{b:Nat}{p1 p2:Option Addr}{l1 c1 l2 c2:Nat}{tt:TypeId}{A B:List Value}(hb:H[b]?=some (.cells #[.slice p1 l1 c1,.slice p2 l2 c2] tt))(hA:RS H p1 l1 3 1 A)(hB:RS H p2 l2 3 1 B)(hl:l1+l2≤1000000){R:Value→Heap→Prop}
 (hR: ∀H' p' c',FS H.size H' p' (l1+l2) c' 3 1 (A++B)→Ext H H'→R (.slice p' (l1+l2) c') H'):CallsH Try.prog 72 #[.slice (some ⟨b,0,none⟩) 2 2] H R:=by
 refine Try.s72 ?_
 unfold Try.S72
 intro X hX
 have g0: ∀{H':Heap},Ext H H'→cell H' ⟨b,0,none⟩=some (.slice p1 l1 c1):=fun e=>cell_get (e _ _ hb) rfl
 have g1: ∀{H':Heap},Ext H H'→cell H' ⟨b,1,none⟩=some (.slice p2 l2 c2):=fun e=>cell_get (e _ _ hb) rfl
 have w0:IntKind.wrap .i64 ((0:Int)+((l1:Nat):Int))=(l1:Int):=by rw[wrap_id (by omega) (by omega)];omega
 have w1:IntKind.wrap .i64 ((l1:Int)+((l2:Nat):Int))=((l1+l2:Nat):Int):=by rw[wrap_id (by omega) (by omega)];omega
 have i1:IntKind.wrap .i64 ((0:Int)+1)=1:=by decide
 have i2:IntKind.wrap .i64 ((1:Int)+1)=2:=by decide
 refine hX _ _ H (br_y (by omega) ⟨_,rfl,by omega,by omega,p1,l1,c1,by simpa using g0 (Ext.refl _),?_⟩)
 rw[w0,i1]
 refine br_n (by omega) (hX _ _ H (br_y (by omega) ⟨_,rfl,by omega,by omega,p2,l2,c2,by simpa using g1 (Ext.refl _),?_⟩))
 rw[w1,i2]
 refine br_n (by omega) (hX _ _ H (br_n (by omega) ?_))
 refine c87 hl fun H1 q0 k0 f0 e1=>⟨q0,0,k0,rfl,?_⟩
 intro Y hY
 have sz1:=e1.size
 refine hY _ _ _ _ H1 (br_y (by omega) ⟨_,rfl,by omega,by omega,p1,l1,c1,by simpa using g0 e1,?_⟩)
 rw[i1]
 have stay: ∀{Hx Hy:Heap} {q:Option Addr} {l c:Nat} {fs:List Value},Ext H Hx→FS H.size Hx q l c 3 1 fs→(∀(b:Nat) (o:Obj),Hx[b]?=some o→q≠some ⟨b,0,none⟩→Hy[b]?=some o)→Ext H Hy:=fun{Hx Hy q l c fs} ex hf hk b o hb=>by
  refine hk b o (ex b o hb) fun hq=>?_
  have hlt:=lt_of_get hb
  rcases hf.at_ with ⟨h1,_⟩|⟨blk,cs,h1,h2,_⟩
  ·rw[h1] at hq;cases hq
  ·rw[h1] at hq;cases hq;omega
 refine f0.app (hA.ext e1) (by decide) sz1 rfl (by omega) (by omega) fun q1 k1 H2 f1 hk1 hs1=>?_
 have e2:=stay e1 f0 hk1
 refine hY _ _ _ _ H2 (br_y (by omega) ⟨_,rfl,by omega,by omega,p2,l2,c2,by simpa using g1 e2,?_⟩)
 rw[i2]
 refine f1.app (hB.ext e2) (by decide) e2.size rfl (by omega) (by omega) fun q2 k2 H3 f2 hk2 hs2=>?_
 have e3:=stay e2 f1 hk2
 refine hY _ _ _ _ H3 (br_n (by omega) ?_)
 have e0:0+l1+l2=l1+l2:=by omega
 rw[e0] at f2 ⊢
 exact hR H3 q2 k2 (by simpa using f2) e3
end Go.Proofs
namespace Go.Proofs
open Go.Sh
structure Pk where
 c:Int
 s:List Int
 deriving DecidableEq,Inhabited
def insT(x:Pk×Nat):List (Pk×Nat)→List (Pk×Nat)
 |[]=>[x]
 |y::r=>if x.1.c≤y.1.c then x::y::r else y::insT x r
def sortT(l:List (Pk×Nat)):List (Pk×Nat):=l.foldr insT []
def ssort(l:List Pk):List Pk:=(sortT l.zipIdx).map (·.1)
def LexT(x y:Pk×Nat):Prop:=x.1.c<y.1.c∨(x.1.c=y.1.c∧x.2<y.2)
theorem insT_perm(x:Pk×Nat): ∀l,(insT x l).Perm (x::l)
 |[]=>List.Perm.refl _
 |y::r=>by
  unfold insT
  split
  ·exact List.Perm.refl _
  ·exact((insT_perm x r).cons y).trans (List.Perm.swap x y r)
theorem sortT_perm: ∀l,(sortT l).Perm l
 |[]=>List.Perm.refl _
 |x::r=>(insT_perm x (sortT r)).trans ((sortT_perm r).cons x)
theorem insT_sorted{x:Pk×Nat}: ∀{l:List (Pk×Nat)},(∀y∈l,x.2<y.2)→l.Pairwise LexT→(insT x l).Pairwise LexT
 |[],_,_=>by simp[insT]
 |y::r,hx,hs=>by
  unfold insT
  have hs':=List.pairwise_cons.1 hs
  split
  ·rename_i hle
   refine List.pairwise_cons.2 ⟨fun z hz=>?_,hs⟩
   have h1:=hx y List.mem_cons_self
   have hz':LexT x y:=by unfold LexT;omega
   rcases List.mem_cons.1 hz with rfl|hz
   ·exact hz'
   ·have:=hs'.1 z hz
    unfold LexT at*;omega
  ·rename_i hle
   refine List.pairwise_cons.2 ⟨fun z hz=>?_,insT_sorted (fun z hz=>hx z (List.mem_cons_of_mem _ hz)) hs'.2⟩
   rcases List.mem_cons.1 ((insT_perm x r).mem_iff.1 hz) with rfl|hz
   ·left;omega
   ·exact hs'.1 z hz
theorem sortT_sorted: ∀{l:List (Pk×Nat)},l.Pairwise (fun x y=>x.2<y.2)→(sortT l).Pairwise LexT
 |[],_=>List.Pairwise.nil
 |x::r,h=>by
  have h':=List.pairwise_cons.1 h
  exact insT_sorted (fun y hy=>h'.1 y ((sortT_perm r).mem_iff.1 hy)) (sortT_sorted h'.2)
theorem perm_unique{α:Type}{r:α→α→Prop}(asym: ∀a b,r a b→ ¬r b a): ∀{l m:List α},l.Perm m→l.Pairwise r→m.Pairwise r→l=m
 |[],m,hp,_,_=>(List.nil_perm.1 hp).symm
 |a::l,[],hp,_,_=>absurd hp.symm (by simp)
 |a::l,b::m,hp,hl,hm=>by
  have hl':=List.pairwise_cons.1 hl
  have hm':=List.pairwise_cons.1 hm
  have hab:a=b:=by
   rcases List.mem_cons.1 (hp.mem_iff.1 List.mem_cons_self) with h|h
   ·exact h
   ·rcases List.mem_cons.1 (hp.mem_iff.2 (List.mem_cons_self (a:=b))) with h'|h'
    ·exact h'.symm
    ·exact absurd (hl'.1 b h') (asym _ _ (hm'.1 a h))
  subst hab
  rw[perm_unique asym (List.Perm.cons_inv hp) hl'.2 hm'.2]
theorem LexT.asymm(a b:Pk×Nat)(h:LexT a b): ¬LexT b a:=by unfold LexT at*;omega
theorem zipIdx_tags(l:List Pk):l.zipIdx.Pairwise (fun x y=>x.2<y.2):=by
 have:(l.zipIdx.map (·.2)).Pairwise (· < ·):=by
  rw[List.zipIdx_map_snd]
  exact List.pairwise_lt_range'
 exact List.pairwise_map.1 this
theorem ssort_perm(l:List Pk):(ssort l).Perm l:=by
 unfold ssort
 have:=(sortT_perm l.zipIdx).map (·.1)
 rwa [List.zipIdx_map_fst] at this
theorem ssort_len(l:List Pk):(ssort l).length=l.length:=(ssort_perm l).length_eq
theorem nodup_le{α:Type}[DecidableEq α]: ∀{l m:List α},l.Nodup→(∀a∈l,a∈m)→l.length≤m.length
 |[],m,_,_=>Nat.zero_le _
 |a::l,m,hn,h=>by
  rw[List.nodup_cons] at hn
  have hm:=h a List.mem_cons_self
  have:=nodup_le (m:=m.erase a) hn.2 fun b hb=>(List.mem_erase_of_ne (fun hh=>hn.1 (by rw[←hh];exact hb))).2 (h b (List.mem_cons_of_mem _ hb))
  have hl:=List.length_erase_of_mem hm
  have hp:0<m.length:=List.length_pos_of_mem hm
  rw[List.length_cons]
  omega
theorem ssort_of{L:List Pk}{n:Nat}(hn:L.length=n){π:Nat→Nat}(h1: ∀i,i<n→π i<n)(h2: ∀i j,i<n→j<n→π i=π j→i=j)
 (h3: ∀i j,i<j→j<n→(L.getD (π i) default).c<(L.getD (π j) default).c∨((L.getD (π i) default).c=(L.getD (π j) default).c∧π i<π j)):(List.range n).map (fun i=>L.getD (π i) default)=ssort L:=by
 have hnd:((List.range n).map π).Nodup:=by
  rw[List.nodup_iff_pairwise_ne,List.pairwise_map]
  exact List.Pairwise.imp_of_mem (fun ha hb hab he=>hab (h2 _ _ (List.mem_range.1 ha) (List.mem_range.1 hb) he)) List.nodup_range
 have hperm:((List.range n).map π).Perm (List.range n):=by
  have hsub: ∀x∈(List.range n).map π,x∈List.range n:=fun x hx=>by
   obtain⟨i,hi,rfl⟩:=List.mem_map.1 hx
   exact List.mem_range.2 (h1 i (List.mem_range.1 hi))
  refine(List.perm_ext_iff_of_nodup hnd List.nodup_range).2 fun x=>⟨hsub x,fun hx=>Classical.byContradiction fun hn=>?_⟩
  have:=nodup_le (l:=x::(List.range n).map π) (m:=List.range n) (List.nodup_cons.2 ⟨hn,hnd⟩) (fun a ha=>by
   rcases List.mem_cons.1 ha with rfl|ha
   ·exact hx
   ·exact hsub a ha)
  simp at this
  omega
 have hmap:(List.range n).map (fun i=>L.getD (π i) default)=(((List.range n).map π).map fun t=>(L.getD t default,t)).map (·.1):=by
  simp[List.map_map,Function.comp_def]
 have hz:L.zipIdx=(List.range n).map fun t=>(L.getD t default,t):=by
  apply List.ext_getElem?
  intro i
  rw[List.getElem?_zipIdx,List.getElem?_map]
  by_cases hi:i<n
  ·have hl:i<L.length:=by omega
   rw[List.getElem?_range hi]
   simp[hl]
  ·have hl: ¬i<L.length:=by omega
   rw[List.getElem?_eq_none_iff.2 (by omega),List.getElem?_eq_none_iff.2 (by simp;omega)]
   rfl
 rw[hmap]
 unfold ssort
 congr 1
 refine perm_unique LexT.asymm ?_ ?_ (sortT_sorted (zipIdx_tags L))
 ·refine List.Perm.trans (hperm.map _) ?_
  rw[←hz]
  exact(sortT_perm _).symm
 ·rw[List.pairwise_map,List.pairwise_map]
  exact List.Pairwise.imp_of_mem (fun ha hb hab=>h3 _ _ hab (List.mem_range.1 hb)) List.pairwise_lt_range
def pairsM:List Pk→List Pk
 |x::y::r=>⟨x.c+y.c,x.s++y.s⟩::pairsM r
 |_=>[]
theorem pairsM_two{L:List Pk}{j:Nat}{x y:Pk}(hx:L[2*j]?=some x)(hy:L[2*j+1]?=some y):pairsM (L.take (2*(j+1)))=pairsM (L.take (2*j))++[⟨x.c+y.c,x.s++y.s⟩]:=by
 induction j generalizing L with
 |zero=>
  match L,hx,hy with
  |a::b::r,hx,hy=>simp at hx hy;subst hx hy;simp[pairsM]
  |[a],hx,hy=>simp at hy
 |succ j ih=>
  match L,hx,hy with
  |a::b::r,hx,hy=>
   have e1:2*(j+1)=2*j+1+1:=by omega
   have e2:2*(j+1+1)=2*(j+1)+1+1:=by omega
   rw[e1] at hx hy
   simp only[List.getElem?_cons_succ] at hx
   have hy':r[2*j+1]?=some y:=by simpa[Nat.add_assoc] using hy
   rw[e2,List.take_succ_cons,List.take_succ_cons,e1,List.take_succ_cons,List.take_succ_cons]
   simp only[pairsM]
   rw[←e1,ih hx hy']
   rfl
  |[a],hx,hy=>simp at hy
  |[],hx,hy=>simp at hy
theorem pairsM_all{L:List Pk}{j:Nat}(h:L.length≤2*j+1):pairsM (L.take (2*j))=pairsM L:=by
 induction j generalizing L with
 |zero=>
  match L,h with
  |[],_=>rfl
  |[a],_=>rfl
  |a::b::r,h=>simp at h
 |succ j ih=>
  match L,h with
  |[],_=>simp
  |[a],_=>
   have e1:2*(j+1)=2*j+1+1:=by omega
   rw[e1,List.take_succ_cons];simp
  |a::b::r,h=>
   have e1:2*(j+1)=2*j+1+1:=by omega
   rw[e1,List.take_succ_cons,List.take_succ_cons]
   simp only[pairsM]
   rw[ih (by simp at h;omega)]
def flat(xs:List It):List Value:=xs.flatMap fun x=>[.int .i64 x.c,x.v]
theorem flat_len(xs:List It):(flat xs).length=xs.length*2:=by
 induction xs with
 |nil=>rfl
 |cons x r ih=>unfold flat at*;simp[List.flatMap_cons,ih];omega
theorem flat_append(a b:List It):flat (a++b)=flat a++flat b:=by simp[flat]
theorem flat_get{xs:List It}{i:Nat}{x:It}(h:xs[i]?=some x):(flat xs)[i*2]?=some (.int .i64 x.c)∧(flat xs)[i*2+1]?=some x.v:=by
 induction xs generalizing i with
 |nil=>simp at h
 |cons y r ih=>
  cases i with
  |zero=>simp at h;subst h;simp[flat]
  |succ i=>
   simp only[List.getElem?_cons_succ] at h
   obtain⟨h1,h2⟩:=ih h
   have e1:(i+1)*2=i*2+1+1:=by omega
   have e2:(i+1)*2+1=i*2+1+1+1:=by omega
   rw[e1]
   unfold flat at*
   simp only[List.flatMap_cons,List.cons_append,List.nil_append,List.getElem?_cons_succ]
   exact⟨h1,h2⟩
def SYM(av:Nat→Prop)(H:Heap)(v:Value)(s:List Int):Prop:= ∃q l c,v= .slice q l c∧RS H q l 3 1 (ints s)∧ ∀b,q=some ⟨b,0,none⟩→ ¬av b
def All(av:Nat→Prop)(H:Heap)(xs:List It)(L:List Pk):Prop:=xs.length=L.length∧ ∀(i:Nat) x y,xs[i]?=some x→L[i]?=some y→x.c=y.c∧SYM av H x.v y.s
variable {av:Nat→Prop}
theorem SYM.keep{H H':Heap}{v:Value}{s:List Int}(h:SYM av H v s)(hk: ∀(b:Nat) cs,¬av b→H[b]?=some (.cells cs 3)→H'[b]?=some (.cells cs 3)):SYM av H' v s:=by
 obtain⟨q,l,c,h1,h2,h3⟩:=h
 exact⟨q,l,c,h1,h2.keep fun b cs hq hb=>hk b cs (h3 b hq) hb,h3⟩
theorem All.keep{H H':Heap}{xs:List It}{L:List Pk}(h:All av H xs L)(hk: ∀(b:Nat) cs,¬av b→H[b]?=some (.cells cs 3)→H'[b]?=some (.cells cs 3)):All av H' xs L:=
 ⟨h.1,fun i x y hx hy=>let ⟨a,b⟩:=h.2 i x y hx hy;⟨a,b.keep hk⟩⟩
theorem All.ext{H H':Heap}{xs:List It}{L:List Pk}(h:All av H xs L)(he:Ext H H'):All av H' xs L:=h.keep fun b cs _ hb=>he _ _ hb
theorem All.append{H:Heap}{xs ys:List It}{L M:List Pk}(h:All av H xs L)(h':All av H ys M):All av H (xs++ys) (L++M):=by
 refine⟨by simp[h.1,h'.1],fun i x y hx hy=>?_⟩
 have hl:=h.1
 by_cases hi:i<xs.length
 ·rw[List.getElem?_append_left hi] at hx
  rw[List.getElem?_append_left (by omega)] at hy
  exact h.2 i x y hx hy
 ·rw[List.getElem?_append_right (by omega)] at hx
  rw[List.getElem?_append_right (by omega),←hl] at hy
  exact h'.2 _ x y hx hy
structure Row(av:Nat→Prop)(H:Heap)(p:Option Addr)(l:Nat)(L:List Pk):Prop where
 ex: ∃xs,RS H p l 136 2 (flat xs)∧All av H xs L
theorem Row.ext{H H':Heap}{p:Option Addr}{l:Nat}{L:List Pk}(h:Row av H p l L)(he:Ext H H'):Row av H' p l L:=by
 obtain⟨xs,h1,h2⟩:=h.ex
 exact⟨xs,h1.ext he,h2.ext he⟩
theorem Row.len{H:Heap}{p:Option Addr}{l:Nat}{L:List Pk}(h:Row av H p l L):L.length=l:=by
 obtain⟨xs,h1,h2⟩:=h.ex
 have:=h1.len
 rw[flat_len] at this
 have:=h2.1
 omega
def PkB(L:List Pk)(B:Int)(S:Nat):Prop:= ∀x∈L,0≤x.c∧x.c≤B∧x.s.length≤S
set_option maxHeartbeats 1000000 in
theorem c91{H:Heap}{p:Option Addr}{l c:Nat}{L:List Pk}(h:Row av H p l L)(hav: ∀b,av b→b<H.size)(hl:l≤10000)(hB:PkB L 576460752303423488 400000){R:Value→Heap→Prop}
 (hR: ∀H' q k c',Row av H' q k (pairsM L)→Ext H H'→R (.slice q k c') H'):CallsH Try.prog 91 #[.slice p l c] H R:=by
 have hlen:=h.len
 obtain⟨xs,hx,hall⟩:=h.ex
 have hxl:=hall.1
 refine Try.s91 ?_
 unfold Try.S91 alc
 intro X hX
 have loop: ∀(m j:Nat) (H1:Heap) (q:Option Addr) (k c':Nat) (ys:List It),l-2*j≤m→2*j≤l+1→Ext H H1→FS H.size H1 q k c' 136 2 (flat ys)→All av H1 ys (pairsM (L.take (2*j)))→k≤j→X [.slice q k c',.int .i64 ((2*j:Nat):Int)] H1:=by
  intro m
  induction m with
  |zero=>
   intro j H1 q k c' ys hm hj e1 f1 a1 hk
   have w1:IntKind.wrap .i64 (((2*j:Nat):Int)+1)=((2*j+1:Nat):Int):=by rw[wrap_id (by omega) (by omega)];omega
   rw[pairsM_all (by omega)] at a1
   refine hX q k c' _ H1 ?_
   rw[w1]
   exact br_n (by omega) (hR H1 q k c' ⟨ys,f1.rs,a1⟩ e1)
  |succ m ih=>
   intro j H1 q k c' ys hm hj e1 f1 a1 hk
   have w1:IntKind.wrap .i64 (((2*j:Nat):Int)+1)=((2*j+1:Nat):Int):=by rw[wrap_id (by omega) (by omega)];omega
   have w2:IntKind.wrap .i64 (((2*j:Nat):Int)+2)=((2*(j+1):Nat):Int):=by rw[wrap_id (by omega) (by omega)];omega
   refine hX q k c' _ H1 ?_
   rw[w1,w2]
   refine br_dec (fun hlt=>?_) (fun hge=>?_)
   ·have r1:=hx.ext e1
    have al1:=hall.ext e1
    obtain⟨x,hxx⟩: ∃x,xs[2*j]?=some x:=⟨_,List.getElem?_eq_getElem (by omega)⟩
    obtain⟨y,hyy⟩: ∃y,xs[2*j+1]?=some y:=⟨_,List.getElem?_eq_getElem (by omega)⟩
    obtain⟨u,hu⟩: ∃u,L[2*j]?=some u:=⟨_,List.getElem?_eq_getElem (by omega)⟩
    obtain⟨v,hv⟩: ∃v,L[2*j+1]?=some v:=⟨_,List.getElem?_eq_getElem (by omega)⟩
    obtain⟨xc,q1,l1,c1,xv,s1,_⟩:=al1.2 _ _ _ hxx hu
    obtain⟨yc,q2,l2,c2,yv,s2,_⟩:=al1.2 _ _ _ hyy hv
    obtain⟨gx,gxv⟩:=flat_get hxx
    obtain⟨gy,gyv⟩:=flat_get hyy
    obtain⟨blk,hp,cx⟩:=r1.cell gx
    obtain⟨blk2,hp2,cy⟩:=r1.cell gy
    obtain⟨blk3,hp3,cxv⟩:=r1.cell gxv
    obtain⟨blk4,hp4,cyv⟩:=r1.cell gyv
    rw[hp] at hp2 hp3 hp4
    cases hp2;cases hp3;cases hp4
    have bu:=hB u (List.mem_of_getElem? hu)
    have bv:=hB v (List.mem_of_getElem? hv)
    have l1e:l1=u.s.length:=by have:=s1.len;rw[ints_len] at this;omega
    have l2e:l2=v.s.length:=by have:=s2.len;rw[ints_len] at this;omega
    rw[xv] at cxv
    rw[yv] at cyv
    refine⟨_,hp,by omega,by omega,x.c,by rw[Int.toNat_natCast];simpa using cx,_,hp,by omega,by omega,y.c,by rw[Int.toNat_natCast];simpa using cy,_,hp,by omega,by omega,q1,l1,c1,by rw[Int.toNat_natCast];simpa using cxv,_,hp,by omega,by omega,q2,l2,c2,by rw[Int.toNat_natCast];simpa using cyv,.inl (Ext.push _ _),?_⟩
    have hb2:=get_push_self H1 (.cells #[Value.slice q1 l1 c1,Value.slice q2 l2 c2] 74)
    have e2:Ext H1 (H1.push (.cells #[Value.slice q1 l1 c1,Value.slice q2 l2 c2] 74)):=Ext.push _ _
    generalize H1.push (.cells #[Value.slice q1 l1 c1,Value.slice q2 l2 c2] 74)=H2 at hb2 e2
    refine c72 hb2 (s1.ext e2) (s2.ext e2) (by omega) fun H3 q3 c3 f3 e3=>⟨q3,l1+l2,c3,rfl,.inl e3,rfl,by omega,?_⟩
    have wc:IntKind.wrap .i64 (x.c+y.c)=u.c+v.c:=by rw[xc,yc];exact wrap_id (by omega) (by omega)
    rw[wc]
    have ha:(List.toArray (setL [Value.int .i64 0,Value.slice none 0 0] 0 (Array.toList #[Value.int .i64 (u.c+v.c),Value.slice q3 (l1+l2) c3])))=#[Value.int .i64 (u.c+v.c),Value.slice q3 (l1+l2) c3]:=rfl
    rw[ha]
    have e4:Ext H3 (H3.push (.cells #[Value.int .i64 (u.c+v.c),Value.slice q3 (l1+l2) c3] 136)):=Ext.push _ _
    have hb4:=get_push_self H3 (.cells #[Value.int .i64 (u.c+v.c),Value.slice q3 (l1+l2) c3] 136)
    generalize H3.push (.cells #[Value.int .i64 (u.c+v.c),Value.slice q3 (l1+l2) c3] 136)=H4 at e4 hb4
    have e14:=e2.trans (e3.trans e4)
    have fs4:=f1.ext e14
    have src:RS H4 (some ⟨H3.size,0,none⟩) 1 136 2 (flat [⟨u.c+v.c,.slice q3 (l1+l2) c3,0⟩]):=
     ⟨rfl,by intro z hz;simp[flat] at hz;rcases hz with rfl|rfl<;>rfl,.inr ⟨H3.size,_,rfl,hb4,fun i z hz=>by simpa[flat] using hz⟩⟩
    have sz:=(e1.trans e14).size
    refine fs4.app src (by decide) sz rfl (by omega) (by omega) fun q5 c5 H5 f5 hk5 hs5=>?_
    rw[←flat_append] at f5
    have k3: ∀(b:Nat) cs,¬av b→H4[b]?=some (.cells cs 3)→H5[b]?=some (.cells cs 3):=fun b cs _ hb=>by
     refine hk5 b _ hb fun hq=>?_
     rcases fs4.at_ with ⟨h1,_⟩|⟨blk,cs',h1,_,h3,_⟩
     ·rw[h1] at hq;cases hq
     ·rw[h1] at hq;cases hq;rw[hb] at h3;cases h3
    have e5:Ext H H5:=fun b o hb=>by
     refine hk5 b o ((e1.trans e14) b o hb) fun hq=>?_
     have hlt:=lt_of_get hb
     rcases fs4.at_ with ⟨h1,_⟩|⟨blk,cs',h1,h2,_⟩
     ·rw[h1] at hq;cases hq
     ·rw[h1] at hq;cases hq;omega
    refine ih (j+1) H5 q5 (k+1) c5 _ (by omega) (by omega) e5 f5 ?_ (by omega)
    rw[pairsM_two hu hv]
    refine((a1.ext e14).append ⟨rfl,fun i a b ha hb=>?_⟩).keep k3
    match i,ha,hb with
    |0,ha,hb=>
     simp at ha hb;subst ha hb
     refine⟨rfl,q3,l1+l2,c3,rfl,by rw[ints_append];exact f3.rs.ext e4,fun b hb hab=>?_⟩
     have hlt:=hav b hab
     have hsz2:=(e1.trans e2).size
     rcases f3.at_ with ⟨h1,_⟩|⟨blk,cs',h1,h2,_⟩
     ·rw[h1] at hb;cases hb
     ·rw[h1] at hb;cases hb;omega
    |i+1,ha,hb=>simp at ha
   ·rw[pairsM_all (by omega)] at a1
    exact hR H1 q k c' ⟨ys,f1.rs,a1⟩ e1
 exact loop l 0 H none 0 0 [] (by omega) (by omega) (Ext.refl _) (FS.nil _ _ _ _) (by simp[pairsM,All]) (Nat.le_refl _)
theorem c31_zero{g:Nat}{H:Heap}{p:Option Addr}{c:Nat}{R:Value→Heap→Prop}(hR:R (.tuple #[]) H):CallsH Try.prog 98 #[.slice p 0 c,.int .i64 (0:Int),.int .i64 (0:Int),.func (.func g) #[] #[]] H R:=by
 refine Try.s98 ?_
 unfold Try.S98
 intro X hX
 have w:IntKind.wrap .i64 ((0:Int)+1)=1:=by decide
 rw[w]
 exact hX _ H (br_n (by omega) hR)
theorem c22_zero{g:Nat}{H:Heap}{p:Option Addr}{c:Nat}{R:Value→Heap→Prop}(hR:R (.tuple #[]) H):CallsH Try.prog 88 #[.slice p 0 c,.func (.func g) #[] #[]] H R:=by
 refine Try.s88 ?_
 unfold Try.S88
 refine Try.s95 ?_
 unfold Try.S95
 intro X hX
 refine hX _ _ H (br_n (by omega) ?_)
 refine c31_zero ⟨rfl,?_⟩
 intro Y hY
 exact hY _ H (br_n (by omega) ⟨rfl,hR⟩)
theorem sort_row{g:Nat}(hc:Cmp g){n0:Nat}{H:Heap}{p:Option Addr}{l c:Nat}{xs:List It}{L:List Pk}(hf:FS n0 H p l c 136 2 (flat xs))(ha:All av H xs L)(hl:l≤100000)(hB:PkB L 1152921504606846976 400000){R:Value→Heap→Prop}
 (hR: ∀H',Row av H' p l (ssort L)→(∀(b:Nat) (o:Obj),H[b]?=some o→p≠some ⟨b,0,none⟩→H'[b]?=some o)→R (.tuple #[]) H'):CallsH Try.prog 88 #[.slice p l c,.func (.func g) #[] #[]] H R:=by
 have hlen:xs.length=l:=by have:=hf.len;rw[flat_len] at this;omega
 have hLl:L.length=l:=by rw[←ha.1,hlen]
 by_cases h0:l=0
 ·subst h0
  have:L=[]:=List.length_eq_zero_iff.1 hLl
  subst this
  exact c22_zero (hR H ⟨[],RS.nil _ _ _ _,⟨rfl,fun i x y hx=>by simp at hx⟩⟩ fun b o hb _=>hb)
 ·rcases hf.at_ with ⟨_,hc0⟩|⟨blk,cs,rfl,h2,h3,h4,h5⟩
  ·have:=hf.le;omega
  ·let f:Nat→It:=fun i=>{(xs.getD i ⟨0,.bool false,0⟩) with t:=i}
   have fget: ∀i,i<l→ ∃x,xs[i]?=some x∧(f i).c=x.c∧(f i).v=x.v∧(f i).t=i:=fun i hi=>by
    refine⟨xs[i],List.getElem?_eq_getElem (by omega),?_,?_,rfl⟩<;>simp[f,List.getD_eq_getElem?_getD,List.getElem?_eq_getElem (show i<xs.length by omega)]
   have hd:DS H blk l f:=⟨cs,h3,by have:=hf.le;omega,fun i hi=>by
    obtain⟨x,hx,e1,e2,_⟩:=fget i hi
    obtain⟨g1,g2⟩:=flat_get hx
    rw[e1,e2]
    refine⟨?_,?_,hf.one _ (List.mem_of_getElem? g2)⟩
    ·rw[Nat.mul_comm];exact h5 _ _ g1
    ·rw[Nat.mul_comm];exact h5 _ _ g2⟩
   have lget: ∀i,i<l→ ∃y,L[i]?=some y∧(f i).c=y.c∧SYM av H (f i).v y.s:=fun i hi=>by
    obtain⟨x,hx,e1,e2,_⟩:=fget i hi
    have hy:L[i]?=some L[i]:=List.getElem?_eq_getElem (by omega)
    obtain⟨a,b⟩:=ha.2 i x _ hx hy
    exact⟨_,hy,by rw[e1,a],by rw[e2];exact b⟩
   have hbnd:Bnd l f:=fun i hi=>by
    obtain⟨y,hy,e,_⟩:=lget i hi
    have:=hB y (List.mem_of_getElem? hy)
    rw[e];omega
   refine c88 hc hd hbnd (by omega) (fun p q _ hpq _=>hpq) fun H' f' d' b' p' s'=>?_
   obtain⟨π,π1,π2,π3⟩:=p'.ex
   have hss:(List.range l).map (fun i=>L.getD (π i) default)=ssort L:=by
    refine ssort_of hLl (fun i hi=>(π1 i (by omega) hi).2) (fun i j hi hj he=>π2 i j (by omega) hi (by omega) hj he) fun i j hij hj=>?_
    have hs:=s' i j (by omega) hij hj
    have hi':=(π1 i (by omega) (by omega)).2
    have hj':=(π1 j (by omega) hj).2
    obtain⟨y1,hy1,e1,_⟩:=lget _ hi'
    obtain⟨y2,hy2,e2,_⟩:=lget _ hj'
    rw[π3 i (by omega) (by omega),π3 j (by omega) hj] at hs
    have t1:(f (π i)).t=π i:=rfl
    have t2:(f (π j)).t=π j:=rfl
    unfold Lex at hs
    rw[e1,e2,t1,t2] at hs
    rw[List.getD_eq_getElem?_getD,List.getD_eq_getElem?_getD,hy1,hy2]
    exact hs
   refine hR H' ⟨(List.range l).map f',?_,?_⟩ fun b o hb hn=>b' b o hb fun hh=>hn (by rw[hh])
   ·obtain⟨cs',g1,g2,g3⟩:=d'
    have hget: ∀i x,((List.range l).map f')[i]?=some x→i<l∧x=f' i:=fun i x hx=>by
     rw[List.getElem?_map] at hx
     obtain⟨j,hj,rfl⟩:=Option.map_eq_some_iff.1 hx
     rw[List.getElem?_eq_some_iff] at hj
     obtain⟨hj1,hj2⟩:=hj
     simp at hj1 hj2
     subst hj2
     exact⟨hj1,rfl⟩
    have hfl: ∀(i:Nat) v,(flat ((List.range l).map f'))[i]?=some v→cs'[i]?=some v∧v.oneCell'=true:=fun i v hv=>by
     have hi:=(List.getElem?_eq_some_iff.1 hv).1
     rw[flat_len,List.length_map,List.length_range] at hi
     have hj:i/2<l:=by omega
     have hx:((List.range l).map f')[i/2]?=some (f' (i/2)):=by simp[hj]
     obtain⟨a1,a2⟩:=flat_get hx
     obtain⟨c1,c2,c3⟩:=g3 _ hj
     by_cases he:i%2=0
     ·have e1:i/2*2=i:=by omega
      rw[e1,hv] at a1
      cases a1
      have e2:2*(i/2)=i:=by omega
      rw[e2] at c1
      exact⟨c1,rfl⟩
     ·have e1:i/2*2+1=i:=by omega
      rw[e1,hv] at a2
      cases a2
      have e2:2*(i/2)+1=i:=by omega
      rw[e2] at c2
      exact⟨c2,c3⟩
    refine⟨by rw[flat_len];simp,fun v hv=>?_,.inr ⟨blk,cs',rfl,g1,fun i v hv=>(hfl i v hv).1⟩⟩
    obtain⟨i,hi⟩:=List.getElem?_of_mem hv
    exact(hfl i v hi).2
   ·rw[←hss]
    refine⟨by simp,fun i x y hx hy=>?_⟩
    rw[List.getElem?_map] at hx hy
    obtain⟨j,hj,rfl⟩:=Option.map_eq_some_iff.1 hx
    obtain⟨j',hj',rfl⟩:=Option.map_eq_some_iff.1 hy
    rw[hj] at hj';cases hj'
    have hjl:j<l:=List.mem_range.1 (List.mem_of_getElem? hj)
    obtain⟨y,hy,e1,e2⟩:=lget (π j) (π1 j (by omega) hjl).2
    rw[π3 j (by omega) hjl,List.getD_eq_getElem?_getD,hy]
    refine⟨e1,e2.keep fun b cs2 _ hb=>b' b _ hb fun hh=>?_⟩
    rw[hh,h3] at hb;cases hb
theorem c90{H:Heap}{p q:Option Addr}{l1 c1 l2 c2:Nat}{A B:List Pk}(hA:Row av H p l1 A)(hB:Row av H q l2 B)(hl:l1+l2≤100000)(hbd:PkB (A++B) 1152921504606846976 400000){R:Value→Heap→Prop}
 (hR: ∀H' p' c',Row av H' p' (l1+l2) (ssort (A++B))→l1+l2≤c'→Ext H H'→R (.slice p' (l1+l2) c') H'):CallsH Try.prog 90 #[.slice p l1 c1,.slice q l2 c2] H R:=by
 refine Try.s90 ?_
 unfold Try.S90 alc
 have hb:=get_push_self H (.cells #[Value.slice p l1 c1,Value.slice q l2 c2] 134)
 have e1:Ext H (H.push (.cells #[Value.slice p l1 c1,Value.slice q l2 c2] 134)):=Ext.push _ _
 generalize H.push (.cells #[Value.slice p l1 c1,Value.slice q l2 c2] 134)=H1 at hb e1
 obtain⟨xs,x1,x2⟩:=(hA.ext e1).ex
 obtain⟨ys,y1,y2⟩:=(hB.ext e1).ex
 refine c96 hb x1 y1 (by omega) fun H2 p' c' f2 e2=>⟨p',l1+l2,c',rfl,?_⟩
 rw[←flat_append] at f2
 refine sort_row cmp29 f2 ((x2.append y2).ext e2) hl hbd fun H3 r3 k3=>⟨rfl,hR H3 p' c' r3 f2.le fun b o hb=>?_⟩
 refine k3 b o (e2 b o (e1 b o hb)) fun hq=>?_
 have h1:=lt_of_get (e1 b o hb)
 rcases f2.at_ with ⟨h1,_⟩|⟨blk,cs,h1,h2,_⟩
 ·rw[h1] at hq;cases hq
 ·rw[h1] at hq;cases hq;omega
end Go.Proofs
namespace Go.Proofs
open Go.Sh
def leavesFrom(i:Nat):List Int→List Pk
 |[]=>[]
 |n::r=>(if n>0 then[⟨n,[(i:Int)]⟩] else[])++leavesFrom (i+1) r
def leavesM(cs:List Int):List Pk:=leavesFrom 0 cs
theorem leavesFrom_append(i:Nat): ∀(a b:List Int),leavesFrom i (a++b)=leavesFrom i a++leavesFrom (i+a.length) b
 |[],b=>by simp[leavesFrom]
 |n::r,b=>by
  have e:i+1+r.length=i+(n::r).length:=by simp;omega
  simp only[List.cons_append,leavesFrom]
  rw[leavesFrom_append (i+1) r b,e,List.append_assoc]
theorem leavesM_snoc{cs:List Int}{s:Nat}{n:Int}(h:cs[s]?=some n):leavesM (cs.take (s+1))=leavesM (cs.take s)++(if n>0 then[⟨n,[(s:Int)]⟩] else[]):=by
 obtain⟨hl,hv⟩:=List.getElem?_eq_some_iff.1 h
 unfold leavesM
 rw[List.take_succ_eq_append_getElem hl,leavesFrom_append,hv]
 have:(cs.take s).length=s:=by simp;omega
 rw[this,Nat.zero_add]
 simp[leavesFrom]
theorem leavesFrom_mem{i:Nat}{cs:List Int}{x:Pk}(h:x∈leavesFrom i cs): ∃k n,cs[k]?=some n∧n>0∧x=⟨n,[((i+k:Nat):Int)]⟩:=by
 induction cs generalizing i with
 |nil=>simp[leavesFrom] at h
 |cons n r ih=>
  rcases List.mem_append.1 h with h|h
  ·split at h
   ·rename_i hn
    simp at h
    exact⟨0,n,rfl,hn,h⟩
   ·simp at h
  ·obtain⟨k,m,h1,h2,h3⟩:=ih h
   exact⟨k+1,m,by simpa using h1,h2,by rw[h3];congr 3;omega⟩
theorem leavesFrom_len(i:Nat)(cs:List Int):(leavesFrom i cs).length≤cs.length:=by
 induction cs generalizing i with
 |nil=>simp[leavesFrom]
 |cons n r ih=>
  have:=ih (i+1)
  simp only[leavesFrom,List.length_append,List.length_cons]
  split<;>simp<;>omega
def rowM(ls:List Pk):Nat→List Pk
 |0=>[]
 |k+1=>ssort (ls++pairsM (rowM ls k))
theorem pairsM_len: ∀(L:List Pk),(pairsM L).length=L.length/2
 |[]=>rfl
 |[a]=>by simp[pairsM]
 |a::b::r=>by simp only[pairsM,List.length_cons,pairsM_len r];omega
theorem pairsM_mem: ∀{L:List Pk} {x:Pk},x∈pairsM L→ ∃a∈L,∃b∈L,x=⟨a.c+b.c,a.s++b.s⟩
 |a::b::r,x,h=>by
  simp only[pairsM,List.mem_cons] at h
  rcases h with rfl|h
  ·exact⟨a,List.mem_cons_self,b,by simp,rfl⟩
  ·obtain⟨c,hc,d,hd,e⟩:=pairsM_mem h
   exact⟨c,by simp[hc],d,by simp[hd],e⟩
 |[a],x,h=>by simp[pairsM] at h
 |[],x,h=>by simp[pairsM] at h
theorem rowM_mem{ls:List Pk}{k:Nat}{x:Pk}(h:x∈rowM ls (k+1)):x∈ls∨x∈pairsM (rowM ls k):=List.mem_append.1 ((ssort_perm _).mem_iff.1 h)
theorem rowM_bnd{ls:List Pk}(hls:PkB ls 1099511627776 1): ∀k:Nat,PkB (rowM ls k) (1099511627776*2^k) (2^k)
 |0=>fun x hx=>by simp[rowM] at hx
 |k+1=>fun x hx=>by
  have p1:(1:Int)≤2^k:=Int.pow_pos (by omega)
  have p2:1≤2^k:=Nat.one_le_two_pow
  have e1:(2:Int)^(k+1)=2^k*2:=Int.pow_succ ..
  have e2:2^(k+1)=2^k*2:=Nat.pow_succ ..
  rw[e1,e2]
  rcases rowM_mem hx with hx|hx
  ·have:=hls x hx
   generalize (2:Int)^k=y at*
   generalize 2^k=z at*
   omega
  ·obtain⟨a,ha,b,hb,rfl⟩:=pairsM_mem hx
   have h1:=rowM_bnd hls k a ha
   have h2:=rowM_bnd hls k b hb
   simp only[List.length_append]
   generalize (2:Int)^k=y at*
   generalize 2^k=z at*
   omega
theorem rowM_syms{ls:List Pk}{N:Int}(hls: ∀x∈ls,∀s∈x.s,0≤s∧s<N): ∀k:Nat,∀x∈rowM ls k,∀s∈x.s,0≤s∧s<N
 |0,x,hx,_,_=>by simp[rowM] at hx
 |k+1,x,hx,s,hs=>by
  rcases rowM_mem hx with hx|hx
  ·exact hls x hx s hs
  ·obtain⟨a,ha,b,hb,rfl⟩:=pairsM_mem hx
   rcases List.mem_append.1 hs with hs|hs
   ·exact rowM_syms hls k a ha s hs
   ·exact rowM_syms hls k b hb s hs
theorem rowM_len(ls:List Pk)(k:Nat):(rowM ls (k+1)).length=ls.length+(rowM ls k).length/2:=by
 show(ssort _).length=_
 rw[ssort_len,List.length_append,pairsM_len]
theorem rowM_len_le(ls:List Pk): ∀k,(rowM ls k).length≤2*ls.length
 |0=>by simp[rowM]
 |k+1=>by rw[rowM_len];have:=rowM_len_le ls k;omega
theorem rowM_len_ge{ls:List Pk}{m:Nat}(hn:ls.length≤2^m): ∀k,k+1≤m→2*ls.length≤(rowM ls (k+1)).length+2^(m-k)
 |0,h=>by rw[rowM_len];simp[rowM];omega
 |k+1,h=>by
  have ih:=rowM_len_ge hn k (by omega)
  rw[rowM_len]
  have e:2^(m-k)=2^(m-(k+1))*2:=by rw[←Nat.pow_succ];congr 1;omega
  rw[e] at ih
  generalize 2^(m-(k+1))=z at*
  omega
theorem rowM_whole{ls:List Pk}{m:Nat}(h1:1≤m)(hn:ls.length≤2^m):2*ls.length-2≤(rowM ls m).length:=by
 obtain⟨k,rfl⟩: ∃k,m=k+1:=⟨m-1,by omega⟩
 have:=rowM_len_ge hn k (Nat.le_refl _)
 have e:k+1-k=1:=by omega
 rw[e] at this
 omega
def bump(o:List Int)(s:Int):List Int:=o.set s.toNat (o.getD s.toNat 0+1)
def lenM(cs:List Int)(most:Nat):List Int:=
 if (leavesM cs).length=1 then(List.replicate cs.length 0).set (((leavesM cs).headD default).s.headD 0).toNat 1
 else(((rowM (ssort (leavesM cs)) most).take (2*(leavesM cs).length-2)).flatMap (·.s)).foldl bump (List.replicate cs.length 0)
structure OkL(cs:List Int)(most:Int):Prop where
 m1:1≤most
 m2:most≤16
 len:cs.length≤300
 rng: ∀n∈cs,0≤n∧n≤1099511627776
 few:(leavesM cs).length≤2^most.toNat
theorem bump_len(o:List Int)(s:Int):(bump o s).length=o.length:=by simp[bump]
theorem foldl_bump_len(l:List Int)(o:List Int):(l.foldl bump o).length=o.length:=by
 induction l generalizing o with
 |nil=>rfl
 |cons s r ih=>simp only[List.foldl_cons];rw[ih,bump_len]
theorem shl_one{m:Int}(h1:1≤m)(h2:m≤16):shlI .i64 (1:Int) m=((2^m.toNat:Nat):Int):=by
 have:m=1∨m=2∨m=3∨m=4∨m=5∨m=6∨m=7∨m=8∨m=9∨m=10∨m=11∨m=12∨m=13∨m=14∨m=15∨m=16:=by omega
 rcases this with h|h|h|h|h|h|h|h|h|h|h|h|h|h|h|h<;>subst h<;>decide
set_option maxHeartbeats 4000000 in
theorem c73{H:Heap}{p:Option Addr}{l c:Nat}{cs:List Int}{most:Int}(h:IS H p l (ints cs))(hl:l≤100000){R:Value→Heap→Prop}
 (hbad: ∀H',Ext H H'→ ¬OkL cs most→R (.tuple #[.slice none 0 0,.bool false]) H')
 (hgood:OkL cs most→ ∀H' b,FS H.size H' (some ⟨b,0,none⟩) l l 3 1 (ints (lenM cs most.toNat))→Ext H H'→R (.tuple #[.slice (some ⟨b,0,none⟩) l l,.bool true]) H'):
 CallsH Try.prog 73 #[.slice p l c,.int .i64 most] H R:=by
 have hcl:cs.length=l:=by have:=h.len;rw[ints_len] at this;omega
 refine Try.s73 ?_
 unfold Try.S73 alc
 intro J hJ
 refine br_dec (fun hm=>hbad H (Ext.refl _) fun ok=>by have:=ok.m1;omega) (fun m1=>br_dec (fun hm=>hbad H (Ext.refl _) fun ok=>by have:=ok.m2;omega) (fun m2=>br_dec (fun hm=>hbad H (Ext.refl _) fun ok=>by have:=ok.len;omega) (fun l300=>hJ H ?_)))
 have m1:1≤most:=by omega
 have m2:most≤16:=by omega
 have l300:l≤300:=by omega
 intro X hX
 have loop: ∀(m s:Nat) (H1:Heap) (q:Option Addr) (k c':Nat) (xs:List It),l-s=m→s≤l→Ext H H1→FS H.size H1 q k c' 136 2 (flat xs)→All (fun _=>False) H1 xs (leavesM (cs.take s))→(∀n∈cs.take s,0≤n∧n≤1099511627776)→X [.slice q k c',.int .i64 s] H1:=by
  intro m
  induction m with
  |succ m ih=>
   intro s H1 q k c' xs hm hs e1 f1 a1 rg
   have ws:IntKind.wrap .i64 ((s:Int)+1)=((s+1:Nat):Int):=by rw[wrap_id (by omega) (by omega)];omega
   have hsl:s<cs.length:=by omega
   have hv:cs[s]?=some cs[s]:=List.getElem?_eq_getElem hsl
   have htake:cs.take (s+1)=cs.take s++[cs[s]]:=List.take_succ_eq_append_getElem hsl
   have hmem:cs[s]∈cs:=List.getElem_mem hsl
   generalize cs[s]=n at hv htake hmem
   obtain⟨blk,hp,cv⟩:=(h.ext e1).cell (ints_get hv)
   have hsn:=leavesM_snoc hv
   have hkl:k≤s:=by
    have e2:=f1.len
    rw[flat_len] at e2
    have e3:=a1.1
    have e4:=leavesFrom_len 0 (cs.take s)
    have e5:(leavesM (cs.take s)).length≤s:=by unfold leavesM;simp at e4;omega
    omega
   refine hX q k c' _ H1 (br_y (by omega) ⟨_,hp,by omega,by omega,n,by simpa using cv,?_⟩)
   rw[ws]
   intro J1 hJ1
   refine br_dec (fun hneg=>hbad H1 e1 fun ok=>by have:=ok.rng n hmem;omega) (fun hn0=>br_dec (fun hbig=>hbad H1 e1 fun ok=>by have:=ok.rng n hmem;omega) (fun hn1=>hJ1 H1 ?_))
   have rg': ∀x∈cs.take (s+1),0≤x∧x≤1099511627776:=fun x hx=>by
    rw[htake] at hx
    rcases List.mem_append.1 hx with hx|hx
    ·exact rg x hx
    ·rw[List.mem_singleton] at hx;subst hx;omega
   refine br_dec (fun hpos=>?_) (fun hz=>?_)
   ·have hb2:=get_push_self H1 (.cells #[Value.int .i64 s] 3)
    have e2:Ext H1 (H1.push (.cells #[Value.int .i64 s] 3)):=Ext.push _ _
    refine⟨rfl,by omega,?_⟩
    have ha:(List.toArray (setL [Value.int .i64 0,Value.slice none 0 0] 0 (Array.toList #[Value.int .i64 n,Value.slice (some ⟨H1.size,0,none⟩) 1 1])))=#[Value.int .i64 n,Value.slice (some ⟨H1.size,0,none⟩) 1 1]:=rfl
    rw[ha]
    generalize hH2:H1.push (.cells #[Value.int .i64 s] 3)=H2 at hb2 e2
    have e3:Ext H2 (H2.push (.cells #[Value.int .i64 n,Value.slice (some ⟨H1.size,0,none⟩) 1 1] 136)):=Ext.push _ _
    have hb3:=get_push_self H2 (.cells #[Value.int .i64 n,Value.slice (some ⟨H1.size,0,none⟩) 1 1] 136)
    generalize H2.push (.cells #[Value.int .i64 n,Value.slice (some ⟨H1.size,0,none⟩) 1 1] 136)=H3 at e3 hb3
    have e13:=e2.trans e3
    have src:RS H3 (some ⟨H2.size,0,none⟩) 1 136 2 (flat [⟨n,.slice (some ⟨H1.size,0,none⟩) 1 1,0⟩]):=
     ⟨rfl,by intro z hz;simp[flat] at hz;rcases hz with rfl|rfl<;>rfl,.inr ⟨H2.size,_,rfl,hb3,fun i z hz=>by simpa[flat] using hz⟩⟩
    have f3:=f1.ext e13
    have sz:=(e1.trans e13).size
    refine f3.app src (by decide) sz rfl (by omega) (by omega) fun q5 c5 H5 f5 hk5 hs5=>?_
    rw[←flat_append] at f5
    have k3: ∀(b:Nat) cs,¬(fun _=>False) b→H3[b]?=some (.cells cs 3)→H5[b]?=some (.cells cs 3):=fun b cs _ hb=>by
     refine hk5 b _ hb fun hq=>?_
     rcases f3.at_ with ⟨h1,_⟩|⟨blk,cs',h1,_,h3,_⟩
     ·rw[h1] at hq;cases hq
     ·rw[h1] at hq;cases hq;rw[hb] at h3;cases h3
    have e5:Ext H H5:=fun b o hb=>by
     refine hk5 b o ((e1.trans e13) b o hb) fun hq=>?_
     have hlt:=lt_of_get hb
     rcases f3.at_ with ⟨h1,_⟩|⟨blk,cs',h1,h2,_⟩
     ·rw[h1] at hq;cases hq
     ·rw[h1] at hq;cases hq;omega
    refine ih (s+1) H5 q5 (k+1) c5 _ (by omega) (by omega) e5 f5 ?_ rg'
    rw[hsn,if_pos hpos]
    refine((a1.ext e13).append ⟨rfl,fun i a b ha hb=>?_⟩).keep k3
    match i,ha,hb with
    |0,ha,hb=>
     simp at ha hb;subst ha hb
     refine⟨rfl,some ⟨H1.size,0,none⟩,1,1,rfl,⟨rfl,ints_one _,.inr ⟨H1.size,_,rfl,e3 _ _ hb2,fun i v hv=>by simpa[ints] using hv⟩⟩,fun b _ hh=>hh⟩
    |i+1,ha,hb=>simp at ha
   ·refine ih (s+1) H1 q k c' xs (by omega) (by omega) e1 f1 ?_ rg'
    rw[hsn,if_neg hz,List.append_nil]
    exact a1
  |zero=>
   intro s H1 q k c' xs hm hs e1 f1 a1 rg
   have hsl:s=l:=by omega
   rw[List.take_of_length_le (by omega)] at a1 rg
   have hkL:(leavesM cs).length=k:=by have:=f1.len;rw[flat_len] at this;have:=a1.1;omega
   have hkl:k≤l:=by have:=leavesFrom_len 0 cs;unfold leavesM at hkL;omega
   refine hX q k c' _ H1 (br_n (by omega) ⟨by omega,by omega,by omega,by omega,by omega,?_⟩)
   rw[shl_one m1 m2,Int.toNat_natCast]
   have hb2:=get_push_self H1 (.cells (List.toArray (reps l [Value.int .i64 0])) 3)
   have e2:Ext H1 (H1.push (.cells (List.toArray (reps l [Value.int .i64 0])) 3)):=Ext.push _ _
   have out2:FS H.size (H1.push (.cells (List.toArray (reps l [Value.int .i64 0])) 3)) (some ⟨H1.size,0,none⟩) l l 3 1 (ints (List.replicate l 0)):=zeros_FS e1.size hb2
   have hsz2:(H1.push (.cells (List.toArray (reps l [Value.int .i64 0])) 3)).size=H1.size+1:=by simp
   generalize H1.push (.cells (List.toArray (reps l [Value.int .i64 0])) 3)=H2 at e2 out2 hsz2
   -- the leaves' symbols do not lie in 'out'
   have a2:All (· =H1.size) H2 xs (leavesM cs):=by
    refine⟨a1.1,fun i x y hx hy=>?_⟩
    obtain⟨u1,q1,l1,c1,u2,u3,_⟩:=a1.2 i x y hx hy
    refine⟨u1,q1,l1,c1,u2,u3.ext e2,fun b hb hh=>?_⟩
    obtain⟨k',n',_,_,hy'⟩:=leavesFrom_mem (List.mem_of_getElem? hy)
    rcases u3.at_ with h0|⟨blk,cs',hq,hg,_⟩
    ·have:=u3.len;rw[h0,ints_len,hy'] at this;simp at this
    ·rw[hq] at hb;cases hb
     have:=lt_of_get hg;omega
   have f2:=f1.ext e2
   refine br_dec (fun hmany=>hbad H2 (e1.trans e2) fun ok=>by have:=ok.few;omega) (fun hfew=>?_)
   have ok:OkL cs most:=⟨m1,m2,by omega,rg,by omega⟩
   refine br_eq (fun hk1=>?_) (fun hk1=>?_)
   ·have hk1:k=1:=by omega
    obtain⟨y,hy⟩: ∃y,leavesM cs=[y]:=List.length_eq_one_iff.1 (by omega)
    obtain⟨x,hx⟩: ∃x,xs=[x]:=List.length_eq_one_iff.1 (by have:=a1.1;omega)
    obtain⟨_,q1,l1,c1,xv,s1,_⟩:=a2.2 0 x y (by rw[hx];rfl) (by rw[hy];rfl)
    obtain⟨k0,n0,h1,h2,h3⟩:=leavesFrom_mem (i:=0) (cs:=cs) (x:=y) (by show y∈leavesM cs;rw[hy];simp)
    have hk0:=(List.getElem?_eq_some_iff.1 h1).1
    rw[Nat.zero_add] at h3
    have hs0:y.s=[(k0:Int)]:=by rw[h3]
    rw[hs0] at s1
    have hl1:l1=1:=by have:=s1.len;simpa[ints] using this.symm
    obtain⟨_,gv⟩:=flat_get (xs:=xs) (i:=0) (x:=x) (by rw[hx];rfl)
    obtain⟨blk,hq,cv⟩:=f2.rs.cell gv
    obtain⟨blk1,hq1,cv1⟩:=s1.cell (i:=0) (v:= .int .i64 k0) rfl
    rw[xv] at cv
    refine⟨_,hq,by omega,by omega,q1,l1,c1,by simpa using cv,_,hq1,by omega,by omega,k0,by simpa using cv1,_,rfl,by omega,by omega,?_⟩
    simp only[add_none,Nat.zero_add,Nat.mul_one,Int.toNat_natCast]
    refine out2.set (by rw[ints_len];simp;omega) rfl fun H3 f3 hk3 hs3=>?_
    refine hgood ok H3 H1.size ?_ fun b o hb=>hk3 b o ((e1.trans e2) b o hb) (by have:=lt_of_get hb;have:=e1.size;omega)
    have:lenM cs most.toNat=(List.replicate l 0).set k0 1:=by
     unfold lenM
     rw[if_pos (by omega),hy]
     simp[hs0,hcl]
    rw[this,←ints_set]
    exact f3
   ·have hls:PkB (leavesM cs) 1099511627776 1:=fun x hx=>by
     obtain⟨k0,n0,h1,h2,h3⟩:=leavesFrom_mem hx
     have:=rg n0 (List.mem_of_getElem? h1)
     rw[h3];simp;omega
    refine sort_row cmp23 f2 a2 (by omega) (fun x hx=>by have:=hls x hx;omega) fun H3 r3 hk3=>⟨rfl,?_⟩
    have e3:Ext H H3:=fun b o hb=>by
     refine hk3 b o ((e1.trans e2) b o hb) fun hq=>?_
     have hlt:=lt_of_get hb
     rcases f2.at_ with ⟨h1,_⟩|⟨blk,cs',h1,h2,_⟩
     ·rw[h1] at hq;cases hq
     ·rw[h1] at hq;cases hq;omega
    have out3:FS H.size H3 (some ⟨H1.size,0,none⟩) l l 3 1 (ints (List.replicate l 0)):=out2.keep fun b cs' hb hg=>by
     refine hk3 b _ hg fun hq=>?_
     cases hb
     rcases f2.at_ with ⟨h1,_⟩|⟨blk,cs2,h1,h2,h3',_⟩
     ·rw[h1] at hq;cases hq
     ·rw[h1] at hq;cases hq;rw[hg] at h3';cases h3'
    have h13:H1.size<H3.size:=by
     rcases out3.at_ with ⟨h1,_⟩|⟨blk,cs2,h1,h2,h3',_⟩
     ·cases h1
     ·cases h1;exact lt_of_get h3'
    have hsl':(ssort (leavesM cs)).length=k:=by rw[ssort_len,hkL]
    have hss:PkB (ssort (leavesM cs)) 1099511627776 1:=fun x hx=>hls x ((ssort_perm _).mem_iff.1 hx)
    generalize hLS:ssort (leavesM cs)=LS at r3 hsl' hss
    have hmt:(most.toNat:Int)=most:=by omega
    have pow16: ∀t:Nat,t≤16→(2:Int)^t≤65536∧2^t≤65536:=fun t ht=>by
     have h1:2^t≤2^16:=Nat.pow_le_pow_right (by omega) ht
     have h2:((2^t:Nat):Int)=(2:Int)^t:=by simp
     have h3:(2:Nat)^16=65536:=rfl
     omega
    intro Y hY
    have rows: ∀(m t:Nat) (H4:Heap) (q4:Option Addr) (l4 c4:Nat),most.toNat-t=m→t≤most.toNat→Ext H3 H4→Row (· =H1.size) H4 q4 l4 (rowM LS t)→l4≤c4→Y [.slice q4 l4 c4,.int .i64 t] H4:=by
     intro m
     induction m with
     |succ m ihr=>
      intro t H4 q4 l4 c4 hm4 ht e4 r4 hlc
      have wt:IntKind.wrap .i64 ((t:Int)+1)=((t+1:Nat):Int):=by rw[wrap_id (by omega) (by omega)];omega
      have hl4:=r4.len
      have hle4:=rowM_len_le LS t
      have hpb:=rowM_bnd hss t
      have hp16:=pow16 t (by omega)
      have sz4:=e4.size
      refine hY q4 l4 c4 _ H4 (br_y (by omega) ?_)
      rw[wt]
      refine c91 r4 (fun b hb=>by omega) (by omega) (fun x hx=>by have:=hpb x hx;generalize (2:Int)^t=y at*;generalize 2^t=z at*;omega) fun H5 q5 l5 c5 r5 e5=>⟨q5,l5,c5,rfl,?_⟩
      have hl5:=r5.len
      rw[pairsM_len] at hl5
      have r3':Row (· =H1.size) H5 q k LS:=r3.ext (e4.trans e5)
      refine c90 r3' r5 (by omega) (fun x hx=>?_) fun H6 q6 c6 r6 hc6 e6=>⟨q6,k+l5,c6,rfl,?_⟩
      ·rcases List.mem_append.1 hx with hx|hx
       ·have:=hss x hx;omega
       ·obtain⟨a,ha,b,hb,rfl⟩:=pairsM_mem hx
        have u1:=hpb a ha
        have u2:=hpb b hb
        simp only[List.length_append]
        generalize (2:Int)^t=y at*
        generalize 2^t=z at*
        omega
      ·exact ihr (t+1) H6 q6 (k+l5) c6 (by omega) (by omega) (e4.trans (e5.trans e6)) r6 hc6
     |zero=>
      intro t H4 q4 l4 c4 hm4 ht e4 r4 hlc
      have htm:t=most.toNat:=by omega
      subst htm
      have hl4:=r4.len
      have hle4:=rowM_len_le LS most.toNat
      have few':LS.length≤2^most.toNat:=by omega
      have hge:=rowM_whole (m:=most.toNat) (by omega) few'
      refine hY q4 l4 c4 _ H4 (br_n (by omega) ?_)
      have w2k:IntKind.wrap .i64 ((2:Int)*((k:Nat):Int))=2*(k:Int):=wrap_id (by omega) (by omega)
      have w2k2:IntKind.wrap .i64 (2*(k:Int)-2)=2*(k:Int)-2:=wrap_id (by omega) (by omega)
      have hmx:max (0:Int) (2*(k:Int)-2)=((2*k-2:Nat):Int):=by omega
      rw[w2k,w2k2,hmx]
      simp only[Int.toNat_natCast,Nat.sub_zero]
      refine⟨by omega,by omega,?_⟩
      generalize hROW:rowM LS most.toNat=ROW at r4 hl4 hge hle4
      have hsym: ∀x∈ROW,(∀s∈x.s,0≤s∧s<(l:Int))∧x.s.length≤65536:=fun x hx=>by
       rw[←hROW] at hx
       refine⟨rowM_syms (N:=(l:Int)) (fun y hy s hs=>?_) _ x hx,?_⟩
       ·rw[←hLS] at hy
        obtain⟨k0,n0,h1,h2,h3⟩:=leavesFrom_mem ((ssort_perm _).mem_iff.1 hy)
        have hk0:=(List.getElem?_eq_some_iff.1 h1).1
        rw[h3] at hs;simp at hs;omega
       ·have h1:=(rowM_bnd hss _ x hx).2.2
        have h2:=(pow16 most.toNat (by omega)).2
        omega
      obtain⟨zs,rz,az⟩:=r4.ex
      have hzl:zs.length=l4:=by have:=rz.len;rw[flat_len] at this;omega
      intro Z hZ
      have items: ∀(m t:Nat) (H5:Heap) (o:List Int),2*k-2-t=m→t≤2*k-2→Ext H H5→RS H5 q4 l4 136 2 (flat zs)→All (· =H1.size) H5 zs ROW→FS H.size H5 (some ⟨H1.size,0,none⟩) l l 3 1 (ints o)→o=((ROW.take t).flatMap (·.s)).foldl bump (List.replicate l 0)→(∀v∈o,0≤v∧v≤(t:Int)*65536)→Z [.int .i64 t] H5:=by
       intro m
       induction m with
       |zero=>
        intro t H5 o hm5 ht5 e5 r5 a5 f5 ho hr5
        refine hZ _ H5 (br_n (by omega) ?_)
        refine hgood ok H5 H1.size ?_ e5
        have:lenM cs most.toNat=o:=by
         unfold lenM
         rw[if_neg (by omega),hLS,hROW,hcl,ho,hkL]
         have:t=2*k-2:=by omega
         rw[this]
        rw[this]
        exact f5
       |succ m ihi=>
        intro t H5 o hm5 ht5 e5 r5 a5 f5 ho hr5
        have wt:IntKind.wrap .i64 ((t:Int)+1)=((t+1:Nat):Int):=by rw[wrap_id (by omega) (by omega)];omega
        obtain⟨x,hx⟩: ∃x,zs[t]?=some x:=⟨_,List.getElem?_eq_getElem (by omega)⟩
        have htR:t<ROW.length:=by omega
        have hy:ROW[t]?=some ROW[t]:=List.getElem?_eq_getElem htR
        have htakeR:ROW.take (t+1)=ROW.take t++[ROW[t]]:=List.take_succ_eq_append_getElem htR
        have hyS:=hsym _ (List.getElem_mem htR)
        generalize ROW[t]=y at hy htakeR hyS
        obtain⟨g1,g2⟩:=flat_get hx
        have hcells: ∀(j:Nat) v,x.cells[j]?=some v→(flat zs)[t*2+j]?=some v:=fun j v hv=>by
         match j,hv with
         |0,hv=>simp[It.cells] at hv;subst hv;exact g1
         |1,hv=>simp[It.cells] at hv;subst hv;exact g2
         |j+2,hv=>simp[It.cells] at hv
        obtain⟨blk,hq,hrow⟩:=r5.row (i:=t) (by omega) (by decide) hcells
        have hc4:c4≠0:=by omega
        refine hZ _ H5 (br_y (by omega) ?_)
        rw[wt]
        simp only[hc4,if_false,hq,Option.map_some,Nat.zero_mul]
        refine⟨_,rfl,by omega,by omega,x.cells,rfl,by simpa using hrow,rfl,?_⟩
        have hnew:=get_push_self H5 (.cells #[Value.int .i64 0,Value.slice none 0 0] 136)
        have e6:Ext H5 (H5.push (.cells #[Value.int .i64 0,Value.slice none 0 0] 136)):=Ext.push _ _
        have hxv:x.v.oneCell'=true:=r5.one _ (List.mem_of_getElem? g2)
        refine stAt_whole hnew rfl (by intro v hv;simp[It.cells] at hv;rcases hv with rfl|rfl<;>first|rfl|exact hxv) ?_
        have e7:Ext H5 ((H5.push (.cells #[Value.int .i64 0,Value.slice none 0 0] 136)).setIfInBounds H5.size (.cells x.cells.toList.toArray 136 (0,0))):=fun b o hb=>get_set_ne (Nat.ne_of_gt (lt_of_get hb)) (e6 _ _ hb)
        have hcp:=get_set_self (o:=Obj.cells x.cells.toList.toArray 136 (0,0)) hnew
        generalize (H5.push (.cells #[Value.int .i64 0,Value.slice none 0 0] 136)).setIfInBounds H5.size (.cells x.cells.toList.toArray 136 (0,0))=H7 at e7 hcp
        obtain⟨_,q8,l8,c8,xv,s8,nq8⟩:=(a5.ext e7).2 t x y hx hy
        have hl8:y.s.length=l8:=by have:=s8.len;rw[ints_len] at this;omega
        refine⟨q8,l8,c8,by rw[add_none];exact cell_get hcp (by simp[It.cells,xv]),?_⟩
        intro V hV
        have syms: ∀(m u:Nat) (H8:Heap) (o8:List Int),l8-u=m→u≤l8→Ext H H8→RS H8 q4 l4 136 2 (flat zs)→All (· =H1.size) H8 zs ROW→RS H8 q8 l8 3 1 (ints y.s)→FS H.size H8 (some ⟨H1.size,0,none⟩) l l 3 1 (ints o8)→o8=(y.s.take u).foldl bump o→(∀v∈o8,0≤v∧v≤(t:Int)*65536+u)→V [.int .i64 u] H8:=by
         intro m
         induction m with
         |zero=>
          intro u H8 o8 hm8 hu e8 r8 a8 s8 f8 ho8 hr8
          refine hV _ H8 (br_n (by omega) ?_)
          refine ihi (t+1) H8 o8 (by omega) (by omega) e8 r8 a8 f8 ?_ fun v hv=>?_
          ·rw[ho8,htakeR,List.flatMap_append,List.foldl_append,←ho,List.take_of_length_le (by omega)]
           simp
          ·have:=hr8 v hv
           have:=hyS.2
           omega
         |succ m ihs=>
          intro u H8 o8 hm8 hu e8 r8 a8 s8 f8 ho8 hr8
          have wu:IntKind.wrap .i64 ((u:Int)+1)=((u+1:Nat):Int):=by rw[wrap_id (by omega) (by have:=hyS.2;omega)];omega
          have hul:u<y.s.length:=by omega
          have hz:y.s[u]?=some y.s[u]:=List.getElem?_eq_getElem hul
          have hzr:=hyS.1 _ (List.getElem_mem hul)
          have htakeU:y.s.take (u+1)=y.s.take u++[y.s[u]]:=List.take_succ_eq_append_getElem hul
          generalize y.s[u]=z at hz hzr htakeU
          obtain⟨bz,hqz,cz⟩:=s8.cell (ints_get hz)
          have ho8l:o8.length=l:=by have:=f8.len;rw[ints_len] at this;omega
          have hzo:o8[z.toNat]?=some o8[z.toNat]:=List.getElem?_eq_getElem (by omega)
          have hzor:=hr8 _ (List.mem_of_getElem? hzo)
          obtain⟨bo,hbo,co⟩:=f8.rs.cell (ints_get hzo)
          cases hbo
          have hget:o8.getD z.toNat 0=o8[z.toNat]:=by rw[List.getD_eq_getElem?_getD,hzo];rfl
          have hul2:(u:Int)≤65536:=by have:=hyS.2;omega
          have htb:(t:Int)*65536≤100000000:=by omega
          have wv:IntKind.wrap .i64 (o8[z.toNat]+1)=o8[z.toNat]+1:=wrap_id (by omega) (by omega)
          refine hV _ H8 (br_y (by omega) ⟨_,hqz,by omega,by omega,z,by simpa using cz,_,rfl,hzr.1,hzr.2,o8[z.toNat],by simpa using co,_,rfl,hzr.1,hzr.2,?_⟩)
          rw[wu,wv]
          simp only[add_none,Nat.zero_add,Nat.mul_one]
          refine f8.set (by rw[ints_len];omega) rfl fun H9 f9 hk9 hs9=>?_
          rw[ints_set] at f9
          refine ihs (u+1) H9 _ (by omega) (by omega) (fun b o' hb=>hk9 b o' (e8 b o' hb) (by have:=lt_of_get hb;have:=e1.size;omega)) (r8.keep fun b cs' hb hg=>hk9 b _ hg fun hh=>?_) (a8.keep fun b cs' hb hg=>hk9 b _ hg hb) (s8.keep fun b cs' hb hg=>hk9 b _ hg (nq8 b hb)) f9 ?_ ?_
          ·rcases f8.at_ with ⟨h1,_⟩|⟨blk',cs2,h1,h2,h3',_⟩
           ·cases h1
           ·cases h1;rw[hh] at hg;rw[hg] at h3';cases h3'
          ·rw[htakeU,List.foldl_append,←ho8]
           show o8.set z.toNat (o8[z.toNat]+1)=bump o8 z
           unfold bump
           rw[hget]
          ·intro v hv
           rcases List.mem_or_eq_of_mem_set hv with hv|rfl
           ·have:=hr8 v hv;omega
           ·omega
        exact syms _ 0 H7 o rfl (by omega) (e5.trans e7) (r5.ext e7) (a5.ext e7) s8 (f5.ext e7) (by simp) (fun v hv=>by have:=hr5 v hv;omega)
      exact items _ 0 H4 _ rfl (by omega) (e3.trans e4) rz az (out3.ext e4) (by simp) (fun v hv=>by have:=(List.mem_replicate.1 hv).2;omega)
    exact rows _ 0 H3 none 0 0 rfl (by omega) (Ext.refl _) ⟨[],RS.nil _ _ _ _,⟨rfl,fun i x y hx=>by simp at hx⟩⟩ (Nat.le_refl _)
 exact loop l 0 H none 0 0 [] rfl (by omega) (Ext.refl _) (FS.nil _ _ _ _) ⟨by simp[leavesM,leavesFrom],fun i x y hx=>by simp at hx⟩ (fun n hn=>by simp at hn)
end Go.Proofs
namespace Go.Proofs
open Go.Sh
def mrg:List (Pk×Nat)→List (Pk×Nat)→List (Pk×Nat)
 |[],b=>b
 |a,[]=>a
 |x::a,y::b=>if x.1.c≤y.1.c then x::mrg a (y::b) else y::mrg (x::a) b
 termination_by a b=>a.length+b.length
theorem mrg_nil(a:List (Pk×Nat)):mrg a []=a:=by cases a<;>simp[mrg]
theorem mrg_cons(x y:Pk×Nat)(a b:List (Pk×Nat)):mrg (x::a) (y::b)=if x.1.c≤y.1.c then x::mrg a (y::b) else y::mrg (x::a) b:=by rw[mrg]
theorem mrg_take: ∀(s:Nat) (a b:List (Pk×Nat)),a.length+b.length≤s→ ∀q,q≤a.length+b.length→ ∃x y,x≤a.length∧y≤b.length∧x+y=q∧((mrg a b).take q).Perm (a.take x++b.take y)∧((mrg a b).drop q).Perm (a.drop x++b.drop y):=by
 intro s
 induction s with
 |zero=>
  intro a b hs q hq
  have ha:a=[]:=List.length_eq_zero_iff.1 (by omega)
  have hb:b=[]:=List.length_eq_zero_iff.1 (by omega)
  subst ha hb
  exact⟨0,0,by omega,by omega,by simp at hq;omega,by simp[mrg],by simp[mrg]⟩
 |succ s ih=>
  intro a b hs q hq
  match a,b with
  |[],b=>exact⟨0,q,by omega,by simpa using hq,by omega,by simp[mrg],by simp[mrg]⟩
  |x::a,[]=>exact⟨q,0,by simpa using hq,by omega,by omega,by rw[mrg_nil];simp,by rw[mrg_nil];simp⟩
  |x::a,y::b=>
   rw[mrg_cons]
   simp only[List.length_cons] at hs hq
   split
   ·cases q with
    |zero=>
     obtain⟨x',y',h1,h2,h3,h4,h5⟩:=ih a (y::b) (by simp;omega) 0 (by omega)
     have hx:x'=0:=by omega
     have hy:y'=0:=by omega
     subst hx hy
     refine⟨0,0,by omega,by omega,by omega,by simp,?_⟩
     simp only[List.drop_zero] at h5 ⊢
     exact h5.cons x
    |succ q=>
     obtain⟨x',y',h1,h2,h3,h4,h5⟩:=ih a (y::b) (by simp;omega) q (by simp;omega)
     refine⟨x'+1,y',by simp;omega,h2,by omega,?_,?_⟩
     ·simp only[List.take_succ_cons,List.cons_append];exact h4.cons x
     ·simp only[List.drop_succ_cons];exact h5
   ·cases q with
    |zero=>
     obtain⟨x',y',h1,h2,h3,h4,h5⟩:=ih (x::a) b (by simp;omega) 0 (by omega)
     have hx:x'=0:=by omega
     have hy:y'=0:=by omega
     subst hx hy
     refine⟨0,0,by omega,by omega,by omega,by simp,?_⟩
     simp only[List.drop_zero] at h5 ⊢
     exact(h5.cons y).trans List.perm_middle.symm
    |succ q=>
     obtain⟨x',y',h1,h2,h3,h4,h5⟩:=ih (x::a) b (by simp;omega) q (by simp;omega)
     refine⟨x',y'+1,h1,by simp;omega,by omega,?_,?_⟩
     ·simp only[List.take_succ_cons];exact(h4.cons y).trans List.perm_middle.symm
     ·simp only[List.drop_succ_cons];exact h5
theorem mrg_perm(a b:List (Pk×Nat)):(mrg a b).Perm (a++b):=by
 obtain⟨x,y,h1,h2,h3,h4,h5⟩:=mrg_take _ a b (Nat.le_refl _) 0 (by omega)
 have hx:x=0:=by omega
 have hy:y=0:=by omega
 subst hx hy
 simpa using h5
theorem mrg_sorted: ∀(s:Nat) (a b:List (Pk×Nat)),a.length+b.length≤s→a.Pairwise LexT→b.Pairwise LexT→(∀u∈a,∀v∈b,u.2<v.2)→(mrg a b).Pairwise LexT:=by
 intro s
 induction s with
 |zero=>
  intro a b hs _ _ _
  have ha:a=[]:=List.length_eq_zero_iff.1 (by omega)
  have hb:b=[]:=List.length_eq_zero_iff.1 (by omega)
  subst ha hb;simp[mrg]
 |succ s ih=>
  intro a b hs ha hb hab
  match a,b with
  |[],b=>simpa[mrg] using hb
  |x::a,[]=>rw[mrg_nil];exact ha
  |x::a,y::b=>
   simp only[List.length_cons] at hs
   have ha':=List.pairwise_cons.1 ha
   have hb':=List.pairwise_cons.1 hb
   have hxy:=hab x List.mem_cons_self y List.mem_cons_self
   rw[mrg_cons]
   split
   ·rename_i hle
    have hlex:LexT x y:=by unfold LexT;omega
    refine List.pairwise_cons.2 ⟨fun z hz=>?_,ih a (y::b) (by simp;omega) ha'.2 hb fun u hu v hv=>hab u (List.mem_cons_of_mem _ hu) v hv⟩
    rcases List.mem_append.1 ((mrg_perm _ _).mem_iff.1 hz) with hz|hz
    ·exact ha'.1 z hz
    ·rcases List.mem_cons.1 hz with rfl|hz
     ·exact hlex
     ·have:=hb'.1 z hz
      unfold LexT at*;omega
   ·rename_i hle
    have hlex:LexT y x:=by left;omega
    refine List.pairwise_cons.2 ⟨fun z hz=>?_,ih (x::a) b (by simp;omega) ha hb'.2 fun u hu v hv=>hab u hu v (List.mem_cons_of_mem _ hv)⟩
    rcases List.mem_append.1 ((mrg_perm _ _).mem_iff.1 hz) with hz|hz
    ·rcases List.mem_cons.1 hz with rfl|hz
     ·exact hlex
     ·have:=ha'.1 z hz
      unfold LexT at*;omega
    ·exact hb'.1 z hz
def SortedC(L:List Pk):Prop:=L.Pairwise fun a b=>a.c≤b.c
theorem zip_lex{L:List Pk}(h:SortedC L)(i:Nat):(L.zipIdx i).Pairwise LexT:=by
 induction L generalizing i with
 |nil=>simp
 |cons x r ih=>
  have h':=List.pairwise_cons.1 h
  rw[List.zipIdx_cons]
  refine List.pairwise_cons.2 ⟨fun z hz=>?_,ih h'.2 (i+1)⟩
  have h1:=List.mem_zipIdx hz
  have h2:=h'.1 z.1 (by
   have:=List.fst_mem_of_mem_zipIdx hz
   exact this)
  unfold LexT
  show x.c<z.1.c∨(x.c=z.1.c∧i<z.2)
  omega
theorem ssort_merge{A B:List Pk}(hA:SortedC A)(hB:SortedC B):ssort (A++B)=(mrg A.zipIdx (B.zipIdx A.length)).map (·.1):=by
 unfold ssort
 congr 1
 refine perm_unique LexT.asymm ?_ (sortT_sorted (zipIdx_tags _)) (mrg_sorted _ _ _ (Nat.le_refl _) (zip_lex hA 0) (zip_lex hB _) fun u hu v hv=>?_)
 ·refine(sortT_perm _).trans ?_
  rw[List.zipIdx_append]
  simpa using(mrg_perm A.zipIdx (B.zipIdx A.length)).symm
 ·have h1:=List.mem_zipIdx hu
  have h2:=List.mem_zipIdx hv
  omega
theorem ssort_sorted(L:List Pk):SortedC (ssort L):=by
 unfold ssort SortedC
 rw[List.pairwise_map]
 exact(sortT_sorted (zipIdx_tags L)).imp fun h=>by unfold LexT at h;omega
theorem merge_take{A B:List Pk}(hA:SortedC A)(hB:SortedC B){q:Nat}(hq:q≤A.length+B.length):
 ∃x y,x≤A.length∧y≤B.length∧x+y=q∧((ssort (A++B)).take q).Perm (A.take x++B.take y)∧ ∀u∈A.take x++B.take y,∀v∈A.drop x++B.drop y,u.c≤v.c:=by
 obtain⟨x,y,h1,h2,h3,h4,h5⟩:=mrg_take _ A.zipIdx (B.zipIdx A.length) (Nat.le_refl _) q (by simpa using hq)
 simp only[List.length_zipIdx] at h1 h2
 have e:=ssort_merge hA hB
 have t1:((A.zipIdx.take x).map (·.1))=A.take x:=by rw[List.map_take,List.zipIdx_map_fst]
 have t2:(((B.zipIdx A.length).take y).map (·.1))=B.take y:=by rw[List.map_take,List.zipIdx_map_fst]
 have t3:((A.zipIdx.drop x).map (·.1))=A.drop x:=by rw[List.map_drop,List.zipIdx_map_fst]
 have t4:(((B.zipIdx A.length).drop y).map (·.1))=B.drop y:=by rw[List.map_drop,List.zipIdx_map_fst]
 have p1:((ssort (A++B)).take q).Perm (A.take x++B.take y):=by
  rw[e,←List.map_take]
  have:=h4.map (·.1)
  rwa [List.map_append,t1,t2] at this
 have p2:((ssort (A++B)).drop q).Perm (A.drop x++B.drop y):=by
  rw[e,←List.map_drop]
  have:=h5.map (·.1)
  rwa [List.map_append,t3,t4] at this
 refine⟨x,y,h1,h2,h3,p1,fun u hu v hv=>?_⟩
 have hs:=ssort_sorted (A++B)
 unfold SortedC at hs
 rw[←List.take_append_drop q (ssort (A++B)),List.pairwise_append] at hs
 exact hs.2.2 u (p1.mem_iff.2 hu) v (p2.mem_iff.2 hv)
theorem pairsM_sorted: ∀{L:List Pk},SortedC L→SortedC (pairsM L)
 |[],_=>List.Pairwise.nil
 |[a],_=>by simp[pairsM,SortedC]
 |a::b::r,h=>by
  have h1:=List.pairwise_cons.1 h
  have h2:=List.pairwise_cons.1 h1.2
  simp only[pairsM]
  refine List.pairwise_cons.2 ⟨fun z hz=>?_,pairsM_sorted h2.2⟩
  obtain⟨u,hu,v,hv,rfl⟩:=pairsM_mem hz
  have:=h1.1 u (List.mem_cons_of_mem _ hu)
  have:=h2.1 v hv
  show a.c+b.c≤u.c+v.c
  omega
theorem rowM_sorted(ls:List Pk): ∀k,SortedC (rowM ls k)
 |0=>List.Pairwise.nil
 |k+1=>ssort_sorted _
theorem pairsM_take: ∀(y:Nat) (L:List Pk),2*y≤L.length→(pairsM L).take y=pairsM (L.take (2*y))
 |0,L,_=>by simp[pairsM]
 |y+1,a::b::r,h=>by
  have e:2*(y+1)=2*y+1+1:=by omega
  rw[e,List.take_succ_cons,List.take_succ_cons]
  simp only[pairsM,List.take_succ_cons]
  rw[pairsM_take y r (by simp at h;omega)]
 |y+1,[a],h=>by simp at h;omega
 |y+1,[],h=>by simp at h
theorem pairsM_syms: ∀(y:Nat) (M:List Pk),M.length=2*y→(pairsM M).flatMap (·.s)=M.flatMap (·.s)∧((pairsM M).map (·.c)).sum=(M.map (·.c)).sum
 |0,M,h=>by
  have:M=[]:=List.length_eq_zero_iff.1 (by omega)
  subst this;simp[pairsM]
 |y+1,a::b::r,h=>by
  obtain⟨h1,h2⟩:=pairsM_syms y r (by simp at h;omega)
  simp only[pairsM,List.flatMap_cons,List.map_cons,List.sum_cons]
  rw[h1,h2]
  refine⟨by simp,by omega⟩
 |y+1,[a],h=>by simp at h;omega
 |y+1,[],h=>by simp at h
theorem pairsM_over: ∀(y:Nat) (M:List Pk),M.length=2*y→(∀x∈M,0<x.c)→ ∀z∈M,∃u∈pairsM M,z.c<u.c
 |0,M,h,_,z,hz=>by
  have:M=[]:=List.length_eq_zero_iff.1 (by omega)
  subst this;simp at hz
 |y+1,a::b::r,h,hp,z,hz=>by
  have ha:=hp a List.mem_cons_self
  have hb:=hp b (by simp)
  simp only[pairsM]
  rcases List.mem_cons.1 hz with rfl|hz
  ·exact⟨_,List.mem_cons_self,by show z.c<z.c+b.c;omega⟩
  ·rcases List.mem_cons.1 hz with rfl|hz
   ·exact⟨_,List.mem_cons_self,by show z.c<a.c+z.c;omega⟩
   ·obtain⟨u,hu,hlt⟩:=pairsM_over y r (by simp at h;omega) (fun x hx=>hp x (by simp[hx])) z hz
    exact⟨u,List.mem_cons_of_mem _ hu,hlt⟩
 |y+1,[a],h,_,_,_=>by simp at h;omega
 |y+1,[],h,_,_,_=>by simp at h
theorem rowM_pos{ls:List Pk}(h: ∀x∈ls,0<x.c): ∀k,∀x∈rowM ls k,0<x.c
 |0,x,hx=>by simp[rowM] at hx
 |k+1,x,hx=>by
  rcases rowM_mem hx with hx|hx
  ·exact h x hx
  ·obtain⟨a,ha,b,hb,rfl⟩:=pairsM_mem hx
   have:=rowM_pos h k a ha
   have:=rowM_pos h k b hb
   show 0<a.c+b.c
   omega
def wsum:List Nat→Nat
 |[]=>0
 |x::r=>x*2^r.length+wsum r
def csum(L:List Pk):Int:=(L.map (·.c)).sum
structure Sel(LS:List Pk)(k q:Nat)(X:List Nat):Prop where
 len:X.length=k
 le: ∀x∈X,x≤LS.length
 dec:X.Pairwise (· ≥ ·)
 sym:(((rowM LS k).take q).flatMap (·.s)).Perm (X.flatMap fun x=>(LS.take x).flatMap (·.s))
 cost:csum ((rowM LS k).take q)=(X.map fun x=>csum (LS.take x)).sum
 wid:wsum X*2=q*2^k
 hd: ∀x r,X=x::r→ ∀z∈LS.take x,z∈(rowM LS k).take q
theorem csum_append(a b:List Pk):csum (a++b)=csum a+csum b:=by
 unfold csum
 rw[List.map_append]
 induction a with
 |nil=>simp
 |cons x r ih=>simp only[List.map_cons,List.cons_append,List.sum_cons,ih];omega
theorem csum_perm{a b:List Pk}(h:a.Perm b):csum a=csum b:=by
 unfold csum
 induction h with
 |nil=>rfl
 |cons x _ ih=>simp only[List.map_cons,List.sum_cons,ih]
 |swap x y l=>simp only[List.map_cons,List.sum_cons];omega
 |trans _ _ ih1 ih2=>rw[ih1,ih2]
theorem sel_ex{LS:List Pk}(hs:SortedC LS)(hp: ∀x∈LS,0<x.c): ∀(k q:Nat),q≤(rowM LS k).length→ ∃X,Sel LS k q X
 |0,q,hq=>by
  have:q=0:=by simpa[rowM] using hq
  subst this
  exact⟨[],rfl,by simp,List.Pairwise.nil,by simp[rowM],by simp[rowM,csum],by simp[wsum],fun x r h=>by cases h⟩
 |k+1,q,hq=>by
  rw[rowM_len] at hq
  have hB:=pairsM_sorted (rowM_sorted LS k)
  have hBl:=pairsM_len (rowM LS k)
  obtain⟨x,y,h1,h2,h3,h4,h5⟩:=merge_take hs hB (q:=q) (by omega)
  have hy2:2*y≤(rowM LS k).length:=by omega
  obtain⟨X,sel⟩:=sel_ex hs hp k (2*y) hy2
  have htk:=pairsM_take y (rowM LS k) hy2
  have hml:((rowM LS k).take (2*y)).length=2*y:=by simp;omega
  obtain⟨s1,s2⟩:=pairsM_syms y _ hml
  have hle: ∀x'∈X,x'≤x:=by
   match X,sel with
   |[],_=>intro x' hx';simp at hx'
   |x1::r,sel=>
    have hx1:x1≤x:=by
     rcases Nat.lt_or_ge x x1 with h|h
     ·have hn:=sel.le x1 List.mem_cons_self
      have hxl:x<LS.length:=by omega
      have hz:LS[x]∈LS.take x1:=by
       refine List.mem_of_getElem? (i:=x) ?_
       rw[List.getElem?_take_of_lt h,List.getElem?_eq_getElem hxl]
      have hzr:=sel.hd x1 r rfl _ hz
      obtain⟨u,hu,hlt⟩:=pairsM_over y _ hml (fun w hw=>rowM_pos hp k w (List.mem_of_mem_take hw)) _ hzr
      rw[←htk] at hu
      have hd:LS[x]∈LS.drop x:=by
       rw[List.drop_eq_getElem_cons hxl];exact List.mem_cons_self
      have:=h5 u (List.mem_append_right _ hu) _ (List.mem_append_left _ hd)
      omega
     ·exact h
    intro x' hx'
    rcases List.mem_cons.1 hx' with rfl|hx'
    ·exact hx1
    ·have:=(List.pairwise_cons.1 sel.dec).1 x' hx'
     omega
  refine⟨x::X,by simp[sel.len],fun x' hx'=>?_,List.pairwise_cons.2 ⟨hle,sel.dec⟩,?_,?_,?_,fun x0 r0 he z hz=>?_⟩
  ·rcases List.mem_cons.1 hx' with rfl|hx'
   ·exact h1
   ·exact sel.le x' hx'
  ·refine(h4.flatMap_right _).trans ?_
   rw[List.flatMap_append,htk,s1,List.flatMap_cons]
   exact sel.sym.append_left _
  ·show csum ((ssort (LS++pairsM (rowM LS k))).take q)=_
   rw[csum_perm h4,csum_append,htk]
   have:csum (pairsM ((rowM LS k).take (2*y)))=csum ((rowM LS k).take (2*y)):=s2
   rw[this,sel.cost]
   simp
  ·have hw:=sel.wid
   simp only[wsum]
   rw[sel.len,Nat.add_mul,hw,←h3,Nat.pow_succ,Nat.add_mul]
   generalize 2^k=p
   rw[Nat.mul_assoc x,Nat.mul_comm 2 y,Nat.mul_assoc y,Nat.mul_comm 2 p]
  ·cases he
   exact h4.mem_iff.2 (List.mem_append_left _ hz)
end Go.Proofs
namespace Go.Proofs
open Go.Sh
def sy(x:Pk):Int:=x.s.headD 0
theorem leaves_sy{cs:List Int}{x:Pk}(h:x∈leavesM cs): ∃(k:Nat) (n:Int),cs[k]?=some n∧n>0∧x=⟨n,[(k:Int)]⟩:=by
 obtain⟨k,n,h1,h2,h3⟩:=leavesFrom_mem h
 exact⟨k,n,h1,h2,by rw[h3];simp⟩
theorem leavesFrom_has{cs:List Int}{k:Nat}{n:Int}(h:cs[k]?=some n)(hn:n>0): ∀i:Nat,⟨n,[((i+k:Nat):Int)]⟩∈leavesFrom i cs:=by
 induction cs generalizing k with
 |nil=>simp at h
 |cons a r ih=>
  intro i
  cases k with
  |zero=>simp at h;subst h;simp[leavesFrom,hn]
  |succ k=>
   simp only[List.getElem?_cons_succ] at h
   have:=ih h (i+1)
   have e:i+1+k=i+(k+1):=by omega
   rw[e] at this
   exact List.mem_append_right _ this
theorem leavesFrom_up(cs:List Int): ∀i:Nat,(leavesFrom i cs).Pairwise fun a b=>sy a<sy b:=by
 induction cs with
 |nil=>intro i;exact List.Pairwise.nil
 |cons a r ih=>
  intro i
  simp only[leavesFrom]
  split
  ·refine List.pairwise_cons.2 ⟨fun z hz=>?_,ih (i+1)⟩
   obtain⟨k,n,_,_,rfl⟩:=leavesFrom_mem hz
   show(i:Int)<((i+1+k:Nat):Int)
   omega
  ·simpa using ih (i+1)
theorem flat_sy: ∀{L:List Pk},(∀x∈L,x.s=[sy x])→L.flatMap (·.s)=L.map sy
 |[],_=>rfl
 |x::r,h=>by
  rw[List.flatMap_cons,List.map_cons,h x List.mem_cons_self,flat_sy fun z hz=>h z (List.mem_cons_of_mem _ hz)]
  rfl
structure Lv(cs:List Int)(LS:List Pk):Prop where
 one: ∀x∈LS,x.s=[sy x]
 src: ∀x∈LS,∃k:Nat,cs[k]?=some x.c∧x.c>0∧sy x=(k:Int)
 has: ∀(k:Nat) (n:Int),cs[k]?=some n→n>0→ ∃r:Nat,LS[r]?=some ⟨n,[(k:Int)]⟩
 nd:(LS.map sy).Nodup
 srt:SortedC LS
theorem lv_of(cs:List Int):Lv cs (ssort (leavesM cs)):=by
 have hm:=fun x=>(ssort_perm (leavesM cs)).mem_iff (a:=x)
 refine⟨fun x hx=>?_,fun x hx=>?_,fun k n h1 h2=>?_,?_,ssort_sorted _⟩
 ·obtain⟨k,n,_,_,rfl⟩:=leaves_sy ((hm x).1 hx);rfl
 ·obtain⟨k,n,h1,h2,rfl⟩:=leaves_sy ((hm x).1 hx);exact⟨k,h1,h2,rfl⟩
 ·have:=leavesFrom_has h1 h2 0
  rw[Nat.zero_add] at this
  exact List.getElem?_of_mem ((hm _).2 this)
 ·have h1:((leavesM cs).map sy).Nodup:=by
   rw[List.nodup_iff_pairwise_ne,List.pairwise_map]
   exact(leavesFrom_up cs 0).imp fun h=>by omega
  exact(((ssort_perm (leavesM cs)).map sy).nodup_iff).2 h1
theorem foldl_bump_get: ∀(l o:List Int) (i:Nat),i<o.length→(∀s∈l,0≤s)→(l.foldl bump o)[i]?=some (o.getD i 0+(l.count (i:Int):Int))
 |[],o,i,hi,_=>by simp[hi]
 |s::r,o,i,hi,h=>by
  have hs:=h s List.mem_cons_self
  rw[List.foldl_cons,foldl_bump_get r (bump o s) i (by rw[bump_len];exact hi) fun x hx=>h x (List.mem_cons_of_mem _ hx),List.count_cons]
  congr 1
  unfold bump
  rw[List.getD_eq_getElem?_getD,List.getElem?_set]
  by_cases hsi:s.toNat=i
  ·have:s=(i:Int):=by omega
   rw[if_pos hsi,if_pos (by omega)]
   simp[this]
   omega
  ·have: ¬s=(i:Int):=by omega
   rw[if_neg hsi,←List.getD_eq_getElem?_getD]
   simp[this]
def lenAt(X:List Nat)(r:Nat):Nat:=X.countP fun x=>decide (r<x)
theorem lenAt_le(X:List Nat)(r:Nat):lenAt X r≤X.length:=List.countP_le_length
theorem count_take{σ:List Int}(hn:σ.Nodup){r:Nat}{v:Int}(h:σ[r]?=some v)(x:Nat):(σ.take x).count v=if r<x then 1 else 0:=by
 have hnt:(σ.take x).Nodup:=List.Pairwise.sublist (List.take_sublist _ _) hn
 by_cases hr:r<x
 ·rw[if_pos hr]
  have hm:v∈σ.take x:=List.mem_of_getElem? (i:=r) (by rw[List.getElem?_take_of_lt hr];exact h)
  have h1:=List.nodup_iff_count.1 hnt v
  have h2:=List.count_pos_iff.2 hm
  omega
 ·rw[if_neg hr]
  refine List.count_eq_zero.2 fun hm=>?_
  obtain⟨j,hj⟩:=List.getElem?_of_mem hm
  have hjx:=(List.getElem?_eq_some_iff.1 hj).1
  have hjx2:j<x:=by simp at hjx;omega
  rw[List.getElem?_take_of_lt hjx2] at hj
  have:=(List.getElem?_inj (List.getElem?_eq_some_iff.1 hj).1 hn).1 (hj.trans h.symm)
  omega
theorem count_flat{σ:List Int}(hn:σ.Nodup){r:Nat}{v:Int}(h:σ[r]?=some v): ∀X:List Nat,(X.flatMap fun x=>σ.take x).count v=lenAt X r
 |[]=>rfl
 |x::X=>by
  rw[List.flatMap_cons,List.count_append,count_take hn h,count_flat hn h X]
  unfold lenAt
  rw[List.countP_cons]
  by_cases hr:r<x<;>simp[hr]<;>omega
theorem count_flat0{σ:List Int}{v:Int}(h:v∉σ)(X:List Nat):(X.flatMap fun x=>σ.take x).count v=0:=by
 refine List.count_eq_zero.2 fun hm=>?_
 obtain⟨x,_,hx⟩:=List.mem_flatMap.1 hm
 exact h (List.mem_of_mem_take hx)
def kraft(n:Nat)(X:List Nat):Nat:=((List.range n).map fun r=>2^(X.length-lenAt X r)).sum
theorem sum_add{α:Type}(f g:α→Nat): ∀l:List α,(l.map fun x=>f x+g x).sum=(l.map f).sum+(l.map g).sum
 |[]=>rfl
 |x::r=>by simp only[List.map_cons,List.sum_cons,sum_add f g r];omega
theorem sum_above(c x:Nat): ∀n:Nat,x≤n→((List.range n).map fun r=>if r<x then 0 else c).sum=(n-x)*c
 |0,h=>by simp
 |n+1,h=>by
  rw[List.range_succ,List.map_append,List.sum_append]
  by_cases hx:x=n+1
  ·subst hx
   have:((List.range n).map fun r=>if r<n+1 then 0 else c)=(List.range n).map fun _=>0:=List.map_congr_left fun r hr=>by
    have:=List.mem_range.1 hr
    rw[if_pos (by omega)]
   rw[this]
   have z: ∀l:List Nat,(l.map fun _=>0).sum=0:=fun l=>by induction l with
    |nil=>rfl
    |cons a b ih=>simp only[List.map_cons,List.sum_cons,ih]
   rw[z]
   simp
  ·rw[sum_above c x n (by omega)]
   have e:n+1-x=n-x+1:=by omega
   rw[e,Nat.add_mul]
   simp only[List.map_cons,List.map_nil,List.sum_cons,List.sum_nil]
   rw[if_neg (by omega)]
   omega
theorem kraft_eq(n:Nat): ∀X:List Nat,X.Pairwise (· ≥ ·)→(∀x∈X,x≤n)→kraft n X+wsum X=n*2^X.length
 |[],_,_=>by
  simp only[kraft,wsum,lenAt,List.length_nil,List.countP_nil,Nat.sub_zero,Nat.pow_zero]
  have:((List.range n).map fun _=>1).sum=n:=by
   have z: ∀l:List Nat,(l.map fun _=>1).sum=l.length:=fun l=>by induction l with
    |nil=>rfl
    |cons a b ih=>simp only[List.map_cons,List.sum_cons,ih,List.length_cons];omega
   rw[z];simp
  omega
 |x::X,hd,hle=>by
  have hd':=List.pairwise_cons.1 hd
  have ih:=kraft_eq n X hd'.2 fun y hy=>hle y (List.mem_cons_of_mem _ hy)
  have hx:=hle x List.mem_cons_self
  have hk:kraft n (x::X)=kraft n X+(n-x)*2^X.length:=by
   unfold kraft
   rw[←sum_above (2^X.length) x n hx,←sum_add]
   congr 1
   refine List.map_congr_left fun r _=>?_
   have hc:lenAt (x::X) r=lenAt X r+if r<x then 1 else 0:=by
    unfold lenAt;rw[List.countP_cons];by_cases h:r<x<;>simp[h]
   have hl:=lenAt_le X r
   rw[hc,List.length_cons]
   by_cases h:r<x
   ·rw[if_pos h,if_pos h]
    have:X.length+1-(lenAt X r+1)=X.length-lenAt X r:=by omega
    rw[this,Nat.add_zero]
   ·rw[if_neg h,if_neg h]
    have h0:lenAt X r=0:=by
     unfold lenAt
     refine List.countP_eq_zero.2 fun y hy=>?_
     have:=hd'.1 y hy
     simp;omega
    rw[h0,Nat.add_zero,Nat.sub_zero,Nat.sub_zero,Nat.pow_succ]
    omega
  simp only[wsum,List.length_cons]
  rw[hk,Nat.pow_succ]
  generalize 2^X.length=p at*
  have e1:(n-x)*p+x*p=n*p:=by rw[←Nat.add_mul];congr 1;omega
  have e2:n*(p*2)=n*p+n*p:=by rw[←Nat.mul_assoc];omega
  omega
theorem sum_ge_one{v:Nat}: ∀{l:List Nat},(∀x∈l,1≤x)→v∈l→v+l.length≤l.sum+1
 |x::r,h,hm=>by
  have h1:=h x List.mem_cons_self
  have hall:r.length≤r.sum:=by
   have: ∀{l:List Nat},(∀x∈l,1≤x)→l.length≤l.sum:=fun{l}=>by
    induction l with
    |nil=>intro _;simp
    |cons a b ih=>intro hh;have:=hh a List.mem_cons_self;have:=ih fun z hz=>hh z (List.mem_cons_of_mem _ hz);simp;omega
   exact this fun z hz=>h z (List.mem_cons_of_mem _ hz)
  simp only[List.length_cons,List.sum_cons]
  rcases List.mem_cons.1 hm with rfl|hm
  ·omega
  ·have:=sum_ge_one (fun z hz=>h z (List.mem_cons_of_mem _ hz)) hm
   omega
theorem sum_places{N:Nat}{g:Nat→Int}{T:List Nat}(hn:T.Nodup)(hT: ∀t∈T,t<N)(h0: ∀i,i<N→i∉T→g i=0):((List.range N).map g).sum=(T.map g).sum:=by
 have hp:(List.range N).Perm (T++(List.range N).filter fun i=>decide (i∉T)):=by
  refine(List.perm_ext_iff_of_nodup List.nodup_range ?_).2 fun i=>?_
  ·rw[List.nodup_append]
   refine⟨hn,List.Pairwise.filter _ List.nodup_range,fun a ha b hb hab=>?_⟩
   have:=(List.mem_filter.1 hb).2
   simp at this
   exact this (by rw[←hab];exact ha)
  ·rw[List.mem_append,List.mem_filter]
   simp only[List.mem_range,decide_eq_true_eq]
   constructor
   ·intro h
    by_cases hi:i∈T
    ·exact .inl hi
    ·exact .inr ⟨h,hi⟩
   ·rintro(h|h)
    ·exact hT i h
    ·exact h.1
 have sp: ∀{a b:List Int},a.Perm b→a.sum=b.sum:=fun h=>by
  induction h with
  |nil=>rfl
  |cons x _ ih=>simp only[List.sum_cons,ih]
  |swap x y l=>simp only[List.sum_cons];omega
  |trans _ _ ih1 ih2=>rw[ih1,ih2]
 rw[sp (hp.map g),List.map_append,sum_append]
 have:(((List.range N).filter fun i=>decide (i∉T)).map g)=((List.range N).filter fun i=>decide (i∉T)).map fun _=>0:=List.map_congr_left fun i hi=>by
  have:=List.mem_filter.1 hi
  exact h0 i (List.mem_range.1 this.1) (by simpa using this.2)
 rw[this]
 have z: ∀l:List Nat,(l.map fun _=>(0:Int)).sum=0:=fun l=>by induction l with
  |nil=>rfl
  |cons a b ih=>simp only[List.map_cons,List.sum_cons,ih];rfl
 rw[z];omega
structure Two(cs:List Int)(m:Nat)(LS:List Pk)(X:List Nat):Prop where
 sel:Sel LS m (2*LS.length-2) X
 lv:Lv cs LS
 n2:2≤LS.length
 len:(lenM cs m).length=cs.length
 leaf: ∀(r:Nat) x (i:Nat),LS[r]?=some x→sy x=(i:Int)→i<cs.length∧(lenM cs m)[i]?=some (lenAt X r:Int)
 none: ∀i:Nat,i<cs.length→(∀x∈LS,sy x≠(i:Int))→(lenM cs m)[i]?=some 0
 pos: ∀r,r<LS.length→1≤lenAt X r∧lenAt X r≤m
theorem two_of{cs:List Int}{most:Int}(ok:OkL cs most)(h2:2≤(leavesM cs).length): ∃X,Two cs most.toNat (ssort (leavesM cs)) X:=by
 have m1:=ok.m1
 have hlv:=lv_of cs
 have hsl:=ssort_len (leavesM cs)
 have hlenM:lenM cs most.toNat=(((rowM (ssort (leavesM cs)) most.toNat).take (2*(leavesM cs).length-2)).flatMap (·.s)).foldl bump (List.replicate cs.length 0):=by
  unfold lenM;rw[if_neg (by omega)]
 generalize ssort (leavesM cs)=LS at hlv hsl hlenM
 have hpos: ∀x∈LS,0<x.c:=fun x hx=>by obtain⟨k,_,h,_⟩:=hlv.src x hx;exact h
 have hq:=rowM_whole (ls:=LS) (m:=most.toNat) (by omega) (by rw[hsl];exact ok.few)
 obtain⟨X,sel⟩:=sel_ex hlv.srt hpos most.toNat (2*LS.length-2) hq
 rw[hsl.symm] at hlenM
 have hsy: ∀x:Nat,(LS.take x).flatMap (·.s)=(LS.map sy).take x:=fun x=>by
  rw[flat_sy fun z hz=>hlv.one z (List.mem_of_mem_take hz),List.map_take]
 have hfl:(X.flatMap fun x=>(LS.take x).flatMap (·.s))=X.flatMap fun x=>(LS.map sy).take x:=by
  congr 1;funext x;exact hsy x
 have hperm:=sel.sym
 rw[hfl] at hperm
 have hs0: ∀s∈((rowM LS most.toNat).take (2*LS.length-2)).flatMap (·.s),0≤s:=fun s hs=>by
  have:=hperm.mem_iff.1 hs
  obtain⟨x,_,hx⟩:=List.mem_flatMap.1 this
  obtain⟨z,hz,rfl⟩:=List.mem_map.1 (List.mem_of_mem_take hx)
  obtain⟨k,_,_,e⟩:=hlv.src z hz
  omega
 have hget: ∀i:Nat,i<cs.length→(lenM cs most.toNat)[i]?=some (((X.flatMap fun x=>(LS.map sy).take x).count (i:Int):Nat):Int):=fun i hi=>by
  rw[hlenM,foldl_bump_get _ _ i (by simpa using hi) hs0,hperm.count_eq]
  have:(List.replicate cs.length (0:Int)).getD i 0=0:=by rw[List.getD_eq_getElem?_getD,List.getElem?_replicate,if_pos hi];rfl
  rw[this,Int.zero_add]
 have hk:=kraft_eq LS.length X sel.dec sel.le
 have hw:=sel.wid
 rw[sel.len] at hk
 have hkr:kraft LS.length X=2^most.toNat:=by
  generalize 2^most.toNat=p at*
  have e1:wsum X*2=2*(LS.length*p)-2*p:=by rw[hw,Nat.sub_mul,Nat.mul_assoc]
  have e2:2*p≤2*(LS.length*p):=by
   have:1*p≤LS.length*p:=Nat.mul_le_mul_right p (by omega)
   omega
  omega
 refine⟨X,sel,hlv,by omega,?_,fun r x i hr hi=>?_,fun i hi hno=>?_,fun r hr=>⟨?_,?_⟩⟩
 ·rw[hlenM,foldl_bump_len];simp
 ·obtain⟨k,h1,_,h3⟩:=hlv.src x (List.mem_of_getElem? hr)
  have hki:k=i:=by omega
  subst hki
  have hkl:=(List.getElem?_eq_some_iff.1 h1).1
  refine⟨hkl,?_⟩
  rw[hget k hkl,count_flat hlv.nd (r:=r) (by rw[List.getElem?_map,hr,←h3];rfl)]
 ·rw[hget i hi,count_flat0 fun hm=>?_]
  ·rfl
  ·obtain⟨z,hz,he⟩:=List.mem_map.1 hm
   exact hno z hz he
 ·rcases Nat.eq_zero_or_pos (lenAt X r) with h0|h0
  ·have hm:2^(X.length-lenAt X r)∈(List.range LS.length).map fun r=>2^(X.length-lenAt X r):=List.mem_map.2 ⟨r,List.mem_range.2 hr,rfl⟩
   have:=sum_ge_one (fun x hx=>by
    obtain⟨j,_,rfl⟩:=List.mem_map.1 hx
    exact Nat.one_le_two_pow) hm
   rw[h0,Nat.sub_zero,sel.len] at this
   have hkk:((List.range LS.length).map fun r=>2^(X.length-lenAt X r)).sum=2^most.toNat:=hkr
   rw[sel.len] at hkk
   simp only[List.length_map,List.length_range] at this
   omega
  ·exact h0
 ·have:=lenAt_le X r
  rw[sel.len] at this;exact this
theorem wt_nat{t m:Nat}(h1:1≤t)(h2:t≤m)(h3:m≤16):wt (t:Int)=2^(16-m)*((2^(m-t):Nat):Int):=by
 unfold wt
 rw[if_pos (by omega)]
 have e:(16-(t:Int)).toNat=16-m+(m-t):=by omega
 rw[e,Int.pow_add]
 simp
theorem Two.whole{cs:List Int}{m:Nat}{LS:List Pk}{X:List Nat}(t:Two cs m LS X)(hm:m≤16):wtM (lenM cs m)=65536:=by
 have hl:=t.len
 have hmap:(lenM cs m).map wt=(List.range cs.length).map fun i=>wt ((lenM cs m).getD i 0):=by
  apply List.ext_getElem?
  intro i
  by_cases hi:i<cs.length
  ·rw[List.getElem?_map,List.getElem?_map,List.getElem?_range hi]
   simp only[Option.map_some]
   rw[List.getD_eq_getElem?_getD,List.getElem?_eq_getElem (by omega)];rfl
  ·rw[List.getElem?_eq_none_iff.2 (by simp;omega),List.getElem?_eq_none_iff.2 (by simp;omega)]
 unfold wtM
 rw[hmap]
 have hT: ∀x∈LS,∃k:Nat,sy x=(k:Int)∧k<cs.length:=fun x hx=>by
  obtain⟨k,h1,_,h3⟩:=t.lv.src x hx
  exact⟨k,h3,(List.getElem?_eq_some_iff.1 h1).1⟩
 have hnd:(LS.map fun x=>(sy x).toNat).Nodup:=by
  have:=t.lv.nd
  rw[List.nodup_iff_pairwise_ne,List.pairwise_map] at this ⊢
  refine List.Pairwise.imp_of_mem (fun ha hb hab he=>hab ?_) this
  obtain⟨k,h1,_⟩:=hT _ ha
  obtain⟨k',h2,_⟩:=hT _ hb
  omega
 rw[sum_places (T:=LS.map fun x=>(sy x).toNat) hnd (fun i hi=>?_) (fun i hi hni=>?_)]
 ·have hg:((LS.map fun x=>(sy x).toNat).map fun i=>wt ((lenM cs m).getD i 0))=(List.range LS.length).map fun r=>2^(16-m)*((2^(m-lenAt X r):Nat):Int):=by
   apply List.ext_getElem?
   intro r
   by_cases hr:r<LS.length
   ·have hx:LS[r]?=some LS[r]:=List.getElem?_eq_getElem hr
    obtain⟨k,h1,h2⟩:=hT _ (List.mem_of_getElem? hx)
    obtain⟨_,h3⟩:=t.leaf r _ k hx h1
    obtain⟨p1,p2⟩:=t.pos r hr
    rw[List.getElem?_map,List.getElem?_map,hx,List.getElem?_map,List.getElem?_range hr]
    simp only[Option.map_some]
    have e:(sy LS[r]).toNat=k:=by omega
    rw[e,List.getD_eq_getElem?_getD,h3]
    congr 1
    exact wt_nat p1 p2 hm
   ·rw[List.getElem?_eq_none_iff.2 (by simp;omega),List.getElem?_eq_none_iff.2 (by simp;omega)]
  rw[hg]
  have hsum: ∀(c:Int) (f:Nat→Nat) (l:List Nat),(l.map fun r=>c*(f r:Int)).sum=c*(((l.map f).sum:Nat):Int):=fun c f l=>by
   induction l with
   |nil=>simp
   |cons a b ih=>simp only[List.map_cons,List.sum_cons,ih];rw[Int.natCast_add,Int.mul_add]
  rw[hsum]
  have hk:=kraft_eq LS.length X t.sel.dec t.sel.le
  have hw:=t.sel.wid
  rw[t.sel.len] at hk
  have hkr:((List.range LS.length).map fun r=>2^(m-lenAt X r)).sum=2^m:=by
   have hkk:((List.range LS.length).map fun r=>2^(m-lenAt X r)).sum=kraft LS.length X:=by unfold kraft;rw[t.sel.len]
   rw[hkk]
   have n2:=t.n2
   generalize 2^m=p at*
   have e1:wsum X*2=2*(LS.length*p)-2*p:=by rw[hw,Nat.sub_mul,Nat.mul_assoc]
   have e2:2*p≤2*(LS.length*p):=by
    have:1*p≤LS.length*p:=Nat.mul_le_mul_right p (by omega)
    omega
   omega
  rw[hkr]
  have:(2:Int)^(16-m)*((2^m:Nat):Int)=2^(16-m+m):=by rw[Int.pow_add];simp
  rw[this]
  have e:16-m+m=16:=by omega
  rw[e];decide
 ·obtain⟨x,hx,rfl⟩:=List.mem_map.1 hi
  obtain⟨k,h1,h2⟩:=hT x hx
  omega
 ·have:(lenM cs m)[i]?=some 0:=t.none i hi fun x hx he=>hni (List.mem_map.2 ⟨x,hx,by omega⟩)
  show wt ((lenM cs m).getD i 0)=0
  rw[List.getD_eq_getElem?_getD,this]
  rfl
theorem wt_replicate(n:Nat):wtM (List.replicate n 0)=0:=by
 unfold wtM
 induction n with
 |zero=>rfl
 |succ n ih=>rw[List.replicate_succ,List.map_cons,List.sum_cons,ih];rfl
theorem wt_set_le: ∀(n i:Nat),wtM ((List.replicate n 0).set i 1)≤32768
 |0,i=>by simp[wtM]
 |n+1,0=>by
  have:=wt_replicate n
  unfold wtM at*
  rw[List.replicate_succ,List.set_cons_zero,List.map_cons,List.sum_cons,this]
  decide
 |n+1,i+1=>by
  have:=wt_set_le n i
  unfold wtM at*
  rw[List.replicate_succ,List.set_cons_succ,List.map_cons,List.sum_cons]
  have:wt 0=0:=rfl
  omega
theorem lenM_ok{cs:List Int}{most:Int}(ok:OkL cs most):OkC (lenM cs most.toNat)∧(lenM cs most.toNat).length=cs.length:=by
 have m1:=ok.m1
 have m2:=ok.m2
 have l300:=ok.len
 by_cases h2:2≤(leavesM cs).length
 ·obtain⟨X,t⟩:=two_of ok h2
  refine⟨⟨⟨by rw[t.len];omega,fun v hv=>?_⟩,by rw[t.whole (by omega)];omega⟩,t.len⟩
  obtain⟨i,hi⟩:=List.getElem?_of_mem hv
  have hil:=(List.getElem?_eq_some_iff.1 hi).1
  rw[t.len] at hil
  by_cases hx: ∃x∈ssort (leavesM cs),sy x=(i:Int)
  ·obtain⟨x,hx,hs⟩:=hx
   obtain⟨r,hr⟩:=List.getElem?_of_mem hx
   obtain⟨_,h⟩:=t.leaf r x i hr hs
   rw[hi] at h;cases h
   have:=t.pos r (List.getElem?_eq_some_iff.1 hr).1
   omega
  ·have:=t.none i hil fun x hx' hs=>hx ⟨x,hx',hs⟩
   rw[hi] at this;cases this;omega
 ·by_cases h1:(leavesM cs).length=1
  ·have e:lenM cs most.toNat=(List.replicate cs.length 0).set (((leavesM cs).headD default).s.headD 0).toNat 1:=by unfold lenM;rw[if_pos h1]
   rw[e]
   refine⟨⟨⟨by simp;omega,fun v hv=>?_⟩,Int.le_trans (wt_set_le _ _) (by omega)⟩,by simp⟩
   rcases List.mem_or_eq_of_mem_set hv with hv|rfl
   ·have:=(List.mem_replicate.1 hv).2;omega
   ·omega
  ·have h0:(leavesM cs).length=0:=by omega
   have e:lenM cs most.toNat=List.replicate cs.length 0:=by
    unfold lenM
    rw[if_neg h1,h0]
    simp
   rw[e]
   refine⟨⟨⟨by simp;omega,fun v hv=>?_⟩,by rw[wt_replicate];omega⟩,by simp⟩
   have:=(List.mem_replicate.1 hv).2;omega
end Go.Proofs
