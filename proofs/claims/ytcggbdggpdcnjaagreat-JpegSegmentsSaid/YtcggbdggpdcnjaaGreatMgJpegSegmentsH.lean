/-
  OWN WORK. Several texts in one: HuffG, HuffN, HuffO, HuffQ, HuffR, HuffS, HuffT, HuffIL, HuffML, HuffP, HuffU, JqF, JqG, JqH.
-/
import Derived.Test.YtcggbdggpdcnjaaGreatMgJpegSegmentsG
import Derived.Test.YtcggbdggpdcnjaaGreatMgJpegSegmentsD
import Derived.Test.YtcggbdggpdcnjaaGreatMgJpegSegmentsF

set_option linter.unusedVariables false
set_option linter.unusedSimpArgs false
namespace Go.Proofs
open Go.Sh
def leavesFrom(i:Nat):List Int→List Pk
 |[]=>[]
 |n::r=>(if n>0 then[⟨n,[(i:Int)]⟩] else[])++leavesFrom (i+1) r
def leavesM(cs:List Int):List Pk:=leavesFrom 0 cs
theorem leavesFrom_append(i:Nat): ∀(a b:List Int),leavesFrom i (a++b)=leavesFrom i a++leavesFrom (i+a.length) b
 |[],b=>by simp[leavesFrom]
 |n::r,b=>by
  have e:i+1+r.length=i+(n::r).length:=by simp;omega
  simp only[List.cons_append,leavesFrom]
  rw[leavesFrom_append (i+1) r b,e,List.append_assoc]
theorem leavesM_snoc{cs:List Int}{s:Nat}{n:Int}(h:cs[s]?=some n):leavesM (cs.take (s+1))=leavesM (cs.take s)++(if n>0 then[⟨n,[(s:Int)]⟩] else[]):=by
 obtain⟨hl,hv⟩:=List.getElem?_eq_some_iff.1 h
 unfold leavesM
 rw[List.take_succ_eq_append_getElem hl,leavesFrom_append,hv]
 have:(cs.take s).length=s:=by simp;omega
 rw[this,Nat.zero_add]
 simp[leavesFrom]
theorem leavesFrom_mem{i:Nat}{cs:List Int}{x:Pk}(h:x∈leavesFrom i cs): ∃k n,cs[k]?=some n∧n>0∧x=⟨n,[((i+k:Nat):Int)]⟩:=by
 induction cs generalizing i with
 |nil=>simp[leavesFrom] at h
 |cons n r ih=>
  rcases List.mem_append.1 h with h|h
  ·split at h
   ·rename_i hn
    simp at h
    exact⟨0,n,rfl,hn,h⟩
   ·simp at h
  ·obtain⟨k,m,h1,h2,h3⟩:=ih h
   exact⟨k+1,m,by simpa using h1,h2,by rw[h3];congr 3;omega⟩
theorem leavesFrom_len(i:Nat)(cs:List Int):(leavesFrom i cs).length≤cs.length:=by
 induction cs generalizing i with
 |nil=>simp[leavesFrom]
 |cons n r ih=>
  have:=ih (i+1)
  simp only[leavesFrom,List.length_append,List.length_cons]
  split<;>simp<;>omega
def rowM(ls:List Pk):Nat→List Pk
 |0=>[]
 |k+1=>ssort (ls++pairsM (rowM ls k))
theorem pairsM_len: ∀(L:List Pk),(pairsM L).length=L.length/2
 |[]=>rfl
 |[a]=>by simp[pairsM]
 |a::b::r=>by simp only[pairsM,List.length_cons,pairsM_len r];omega
theorem pairsM_mem: ∀{L:List Pk} {x:Pk},x∈pairsM L→ ∃a∈L,∃b∈L,x=⟨a.c+b.c,a.s++b.s⟩
 |a::b::r,x,h=>by
  simp only[pairsM,List.mem_cons] at h
  rcases h with rfl|h
  ·exact⟨a,List.mem_cons_self,b,by simp,rfl⟩
  ·obtain⟨c,hc,d,hd,e⟩:=pairsM_mem h
   exact⟨c,by simp[hc],d,by simp[hd],e⟩
 |[a],x,h=>by simp[pairsM] at h
 |[],x,h=>by simp[pairsM] at h
theorem rowM_mem{ls:List Pk}{k:Nat}{x:Pk}(h:x∈rowM ls (k+1)):x∈ls∨x∈pairsM (rowM ls k):=List.mem_append.1 ((ssort_perm _).mem_iff.1 h)
theorem rowM_bnd{ls:List Pk}(hls:PkB ls 1099511627776 1): ∀k:Nat,PkB (rowM ls k) (1099511627776*2^k) (2^k)
 |0=>fun x hx=>by simp[rowM] at hx
 |k+1=>fun x hx=>by
  have p1:(1:Int)≤2^k:=Int.pow_pos (by omega)
  have p2:1≤2^k:=Nat.one_le_two_pow
  have e1:(2:Int)^(k+1)=2^k*2:=Int.pow_succ ..
  have e2:2^(k+1)=2^k*2:=Nat.pow_succ ..
  rw[e1,e2]
  rcases rowM_mem hx with hx|hx
  ·have:=hls x hx
   generalize (2:Int)^k=y at*
   generalize 2^k=z at*
   omega
  ·obtain⟨a,ha,b,hb,rfl⟩:=pairsM_mem hx
   have h1:=rowM_bnd hls k a ha
   have h2:=rowM_bnd hls k b hb
   simp only[List.length_append]
   generalize (2:Int)^k=y at*
   generalize 2^k=z at*
   omega
theorem rowM_syms{ls:List Pk}{N:Int}(hls: ∀x∈ls,∀s∈x.s,0≤s∧s<N): ∀k:Nat,∀x∈rowM ls k,∀s∈x.s,0≤s∧s<N
 |0,x,hx,_,_=>by simp[rowM] at hx
 |k+1,x,hx,s,hs=>by
  rcases rowM_mem hx with hx|hx
  ·exact hls x hx s hs
  ·obtain⟨a,ha,b,hb,rfl⟩:=pairsM_mem hx
   rcases List.mem_append.1 hs with hs|hs
   ·exact rowM_syms hls k a ha s hs
   ·exact rowM_syms hls k b hb s hs
theorem rowM_len(ls:List Pk)(k:Nat):(rowM ls (k+1)).length=ls.length+(rowM ls k).length/2:=by
 show(ssort _).length=_
 rw[ssort_len,List.length_append,pairsM_len]
theorem rowM_len_le(ls:List Pk): ∀k,(rowM ls k).length≤2*ls.length
 |0=>by simp[rowM]
 |k+1=>by rw[rowM_len];have:=rowM_len_le ls k;omega
theorem rowM_len_ge{ls:List Pk}{m:Nat}(hn:ls.length≤2^m): ∀k,k+1≤m→2*ls.length≤(rowM ls (k+1)).length+2^(m-k)
 |0,h=>by rw[rowM_len];simp[rowM];omega
 |k+1,h=>by
  have ih:=rowM_len_ge hn k (by omega)
  rw[rowM_len]
  have e:2^(m-k)=2^(m-(k+1))*2:=by rw[←Nat.pow_succ];congr 1;omega
  rw[e] at ih
  generalize 2^(m-(k+1))=z at*
  omega
theorem rowM_whole{ls:List Pk}{m:Nat}(h1:1≤m)(hn:ls.length≤2^m):2*ls.length-2≤(rowM ls m).length:=by
 obtain⟨k,rfl⟩: ∃k,m=k+1:=⟨m-1,by omega⟩
 have:=rowM_len_ge hn k (Nat.le_refl _)
 have e:k+1-k=1:=by omega
 rw[e] at this
 omega
def bump(o:List Int)(s:Int):List Int:=o.set s.toNat (o.getD s.toNat 0+1)
def lenM(cs:List Int)(most:Nat):List Int:=
 if (leavesM cs).length=1 then(List.replicate cs.length 0).set (((leavesM cs).headD default).s.headD 0).toNat 1
 else(((rowM (ssort (leavesM cs)) most).take (2*(leavesM cs).length-2)).flatMap (·.s)).foldl bump (List.replicate cs.length 0)
structure OkL(cs:List Int)(most:Int):Prop where
 m1:1≤most
 m2:most≤16
 len:cs.length≤300
 rng: ∀n∈cs,0≤n∧n≤1099511627776
 few:(leavesM cs).length≤2^most.toNat
theorem bump_len(o:List Int)(s:Int):(bump o s).length=o.length:=by simp[bump]
theorem foldl_bump_len(l:List Int)(o:List Int):(l.foldl bump o).length=o.length:=by
 induction l generalizing o with
 |nil=>rfl
 |cons s r ih=>simp only[List.foldl_cons];rw[ih,bump_len]
theorem shl_one{m:Int}(h1:1≤m)(h2:m≤16):shlI .i64 (1:Int) m=((2^m.toNat:Nat):Int):=by
 have:m=1∨m=2∨m=3∨m=4∨m=5∨m=6∨m=7∨m=8∨m=9∨m=10∨m=11∨m=12∨m=13∨m=14∨m=15∨m=16:=by omega
 rcases this with h|h|h|h|h|h|h|h|h|h|h|h|h|h|h|h<;>subst h<;>decide
set_option maxHeartbeats 4000000 in
theorem c50{H:Heap}{p:Option Addr}{l c:Nat}{cs:List Int}{most:Int}(h:IS H p l (ints cs))(hl:l≤100000){R:Value→Heap→Prop}
 (hbad: ∀H',Ext H H'→ ¬OkL cs most→R (.tuple #[.slice none 0 0,.bool false]) H')
 (hgood:OkL cs most→ ∀H' b,FS H.size H' (some ⟨b,0,none⟩) l l 3 1 (ints (lenM cs most.toNat))→Ext H H'→R (.tuple #[.slice (some ⟨b,0,none⟩) l l,.bool true]) H'):
 CallsH Tryz.prog 50 #[.slice p l c,.int .i64 most] H R:=by
 have hcl:cs.length=l:=by have:=h.len;rw[ints_len] at this;omega
 refine Tryz.s50 ?_
 unfold Tryz.S50 alc
 intro J hJ
 refine br_dec (fun hm=>hbad H (Ext.refl _) fun ok=>by have:=ok.m1;omega) (fun m1=>br_dec (fun hm=>hbad H (Ext.refl _) fun ok=>by have:=ok.m2;omega) (fun m2=>br_dec (fun hm=>hbad H (Ext.refl _) fun ok=>by have:=ok.len;omega) (fun l300=>hJ H ?_)))
 have m1:1≤most:=by omega
 have m2:most≤16:=by omega
 have l300:l≤300:=by omega
 intro X hX
 have loop: ∀(m s:Nat) (H1:Heap) (q:Option Addr) (k c':Nat) (xs:List It),l-s=m→s≤l→Ext H H1→FS H.size H1 q k c' 158 2 (flat xs)→All (fun _=>False) H1 xs (leavesM (cs.take s))→(∀n∈cs.take s,0≤n∧n≤1099511627776)→X [.slice q k c',.int .i64 s] H1:=by
  intro m
  induction m with
  |succ m ih=>
   intro s H1 q k c' xs hm hs e1 f1 a1 rg
   have ws:IntKind.wrap .i64 ((s:Int)+1)=((s+1:Nat):Int):=by rw[wrap_id (by omega) (by omega)];omega
   have hsl:s<cs.length:=by omega
   have hv:cs[s]?=some cs[s]:=List.getElem?_eq_getElem hsl
   have htake:cs.take (s+1)=cs.take s++[cs[s]]:=List.take_succ_eq_append_getElem hsl
   have hmem:cs[s]∈cs:=List.getElem_mem hsl
   generalize cs[s]=n at hv htake hmem
   obtain⟨blk,hp,cv⟩:=(h.ext e1).cell (ints_get hv)
   have hsn:=leavesM_snoc hv
   have hkl:k≤s:=by
    have e2:=f1.len
    rw[flat_len] at e2
    have e3:=a1.1
    have e4:=leavesFrom_len 0 (cs.take s)
    have e5:(leavesM (cs.take s)).length≤s:=by unfold leavesM;simp at e4;omega
    omega
   refine hX q k c' _ H1 (br_y (by omega) ⟨_,hp,by omega,by omega,n,by simpa using cv,?_⟩)
   rw[ws]
   intro J1 hJ1
   refine br_dec (fun hneg=>hbad H1 e1 fun ok=>by have:=ok.rng n hmem;omega) (fun hn0=>br_dec (fun hbig=>hbad H1 e1 fun ok=>by have:=ok.rng n hmem;omega) (fun hn1=>hJ1 H1 ?_))
   have rg': ∀x∈cs.take (s+1),0≤x∧x≤1099511627776:=fun x hx=>by
    rw[htake] at hx
    rcases List.mem_append.1 hx with hx|hx
    ·exact rg x hx
    ·rw[List.mem_singleton] at hx;subst hx;omega
   refine br_dec (fun hpos=>?_) (fun hz=>?_)
   ·have hb2:=get_push_self H1 (.cells #[Value.int .i64 s] 3)
    have e2:Ext H1 (H1.push (.cells #[Value.int .i64 s] 3)):=Ext.push _ _
    refine⟨rfl,by omega,?_⟩
    have ha:(List.toArray (setL [Value.int .i64 0,Value.slice none 0 0] 0 (Array.toList #[Value.int .i64 n,Value.slice (some ⟨H1.size,0,none⟩) 1 1])))=#[Value.int .i64 n,Value.slice (some ⟨H1.size,0,none⟩) 1 1]:=rfl
    rw[ha]
    generalize hH2:H1.push (.cells #[Value.int .i64 s] 3)=H2 at hb2 e2
    have e3:Ext H2 (H2.push (.cells #[Value.int .i64 n,Value.slice (some ⟨H1.size,0,none⟩) 1 1] 158)):=Ext.push _ _
    have hb3:=get_push_self H2 (.cells #[Value.int .i64 n,Value.slice (some ⟨H1.size,0,none⟩) 1 1] 158)
    generalize H2.push (.cells #[Value.int .i64 n,Value.slice (some ⟨H1.size,0,none⟩) 1 1] 158)=H3 at e3 hb3
    have e13:=e2.trans e3
    have src:RS H3 (some ⟨H2.size,0,none⟩) 1 158 2 (flat [⟨n,.slice (some ⟨H1.size,0,none⟩) 1 1,0⟩]):=
     ⟨rfl,by intro z hz;simp[flat] at hz;rcases hz with rfl|rfl<;>rfl,.inr ⟨H2.size,_,rfl,hb3,fun i z hz=>by simpa[flat] using hz⟩⟩
    have f3:=f1.ext e13
    have sz:=(e1.trans e13).size
    refine f3.app src (by decide) sz rfl (by omega) (by omega) fun q5 c5 H5 f5 hk5 hs5=>?_
    rw[←flat_append] at f5
    have k3: ∀(b:Nat) cs,¬(fun _=>False) b→H3[b]?=some (.cells cs 3)→H5[b]?=some (.cells cs 3):=fun b cs _ hb=>by
     refine hk5 b _ hb fun hq=>?_
     rcases f3.at_ with ⟨h1,_⟩|⟨blk,cs',h1,_,h3,_⟩
     ·rw[h1] at hq;cases hq
     ·rw[h1] at hq;cases hq;rw[hb] at h3;cases h3
    have e5:Ext H H5:=fun b o hb=>by
     refine hk5 b o ((e1.trans e13) b o hb) fun hq=>?_
     have hlt:=lt_of_get hb
     rcases f3.at_ with ⟨h1,_⟩|⟨blk,cs',h1,h2,_⟩
     ·rw[h1] at hq;cases hq
     ·rw[h1] at hq;cases hq;omega
    refine ih (s+1) H5 q5 (k+1) c5 _ (by omega) (by omega) e5 f5 ?_ rg'
    rw[hsn,if_pos hpos]
    refine((a1.ext e13).append ⟨rfl,fun i a b ha hb=>?_⟩).keep k3
    match i,ha,hb with
    |0,ha,hb=>
     simp at ha hb;subst ha hb
     refine⟨rfl,some ⟨H1.size,0,none⟩,1,1,rfl,⟨rfl,ints_one _,.inr ⟨H1.size,_,rfl,e3 _ _ hb2,fun i v hv=>by simpa[ints] using hv⟩⟩,fun b _ hh=>hh⟩
    |i+1,ha,hb=>simp at ha
   ·refine ih (s+1) H1 q k c' xs (by omega) (by omega) e1 f1 ?_ rg'
    rw[hsn,if_neg hz,List.append_nil]
    exact a1
  |zero=>
   intro s H1 q k c' xs hm hs e1 f1 a1 rg
   have hsl:s=l:=by omega
   rw[List.take_of_length_le (by omega)] at a1 rg
   have hkL:(leavesM cs).length=k:=by have:=f1.len;rw[flat_len] at this;have:=a1.1;omega
   have hkl:k≤l:=by have:=leavesFrom_len 0 cs;unfold leavesM at hkL;omega
   refine hX q k c' _ H1 (br_n (by omega) ⟨by omega,by omega,by omega,by omega,by omega,?_⟩)
   rw[shl_one m1 m2,Int.toNat_natCast]
   have hb2:=get_push_self H1 (.cells (List.toArray (reps l [Value.int .i64 0])) 3)
   have e2:Ext H1 (H1.push (.cells (List.toArray (reps l [Value.int .i64 0])) 3)):=Ext.push _ _
   have out2:FS H.size (H1.push (.cells (List.toArray (reps l [Value.int .i64 0])) 3)) (some ⟨H1.size,0,none⟩) l l 3 1 (ints (List.replicate l 0)):=zeros_FS e1.size hb2
   have hsz2:(H1.push (.cells (List.toArray (reps l [Value.int .i64 0])) 3)).size=H1.size+1:=by simp
   generalize H1.push (.cells (List.toArray (reps l [Value.int .i64 0])) 3)=H2 at e2 out2 hsz2
   -- the leaves' symbols do not lie in 'out'
   have a2:All (· =H1.size) H2 xs (leavesM cs):=by
    refine⟨a1.1,fun i x y hx hy=>?_⟩
    obtain⟨u1,q1,l1,c1,u2,u3,_⟩:=a1.2 i x y hx hy
    refine⟨u1,q1,l1,c1,u2,u3.ext e2,fun b hb hh=>?_⟩
    obtain⟨k',n',_,_,hy'⟩:=leavesFrom_mem (List.mem_of_getElem? hy)
    rcases u3.at_ with h0|⟨blk,cs',hq,hg,_⟩
    ·have:=u3.len;rw[h0,ints_len,hy'] at this;simp at this
    ·rw[hq] at hb;cases hb
     have:=lt_of_get hg;omega
   have f2:=f1.ext e2
   refine br_dec (fun hmany=>hbad H2 (e1.trans e2) fun ok=>by have:=ok.few;omega) (fun hfew=>?_)
   have ok:OkL cs most:=⟨m1,m2,by omega,rg,by omega⟩
   refine br_eq (fun hk1=>?_) (fun hk1=>?_)
   ·have hk1:k=1:=by omega
    obtain⟨y,hy⟩: ∃y,leavesM cs=[y]:=List.length_eq_one_iff.1 (by omega)
    obtain⟨x,hx⟩: ∃x,xs=[x]:=List.length_eq_one_iff.1 (by have:=a1.1;omega)
    obtain⟨_,q1,l1,c1,xv,s1,_⟩:=a2.2 0 x y (by rw[hx];rfl) (by rw[hy];rfl)
    obtain⟨k0,n0,h1,h2,h3⟩:=leavesFrom_mem (i:=0) (cs:=cs) (x:=y) (by show y∈leavesM cs;rw[hy];simp)
    have hk0:=(List.getElem?_eq_some_iff.1 h1).1
    rw[Nat.zero_add] at h3
    have hs0:y.s=[(k0:Int)]:=by rw[h3]
    rw[hs0] at s1
    have hl1:l1=1:=by have:=s1.len;simpa[ints] using this.symm
    obtain⟨_,gv⟩:=flat_get (xs:=xs) (i:=0) (x:=x) (by rw[hx];rfl)
    obtain⟨blk,hq,cv⟩:=f2.rs.cell gv
    obtain⟨blk1,hq1,cv1⟩:=s1.cell (i:=0) (v:= .int .i64 k0) rfl
    rw[xv] at cv
    refine⟨_,hq,by omega,by omega,q1,l1,c1,by simpa using cv,_,hq1,by omega,by omega,k0,by simpa using cv1,_,rfl,by omega,by omega,?_⟩
    simp only[add_none,Nat.zero_add,Nat.mul_one,Int.toNat_natCast]
    refine out2.set (by rw[ints_len];simp;omega) rfl fun H3 f3 hk3 hs3=>?_
    refine hgood ok H3 H1.size ?_ fun b o hb=>hk3 b o ((e1.trans e2) b o hb) (by have:=lt_of_get hb;have:=e1.size;omega)
    have:lenM cs most.toNat=(List.replicate l 0).set k0 1:=by
     unfold lenM
     rw[if_pos (by omega),hy]
     simp[hs0,hcl]
    rw[this,←ints_set]
    exact f3
   ·have hls:PkB (leavesM cs) 1099511627776 1:=fun x hx=>by
     obtain⟨k0,n0,h1,h2,h3⟩:=leavesFrom_mem hx
     have:=rg n0 (List.mem_of_getElem? h1)
     rw[h3];simp;omega
    refine sort_row cmp23 f2 a2 (by omega) (fun x hx=>by have:=hls x hx;omega) fun H3 r3 hk3=>⟨rfl,?_⟩
    have e3:Ext H H3:=fun b o hb=>by
     refine hk3 b o ((e1.trans e2) b o hb) fun hq=>?_
     have hlt:=lt_of_get hb
     rcases f2.at_ with ⟨h1,_⟩|⟨blk,cs',h1,h2,_⟩
     ·rw[h1] at hq;cases hq
     ·rw[h1] at hq;cases hq;omega
    have out3:FS H.size H3 (some ⟨H1.size,0,none⟩) l l 3 1 (ints (List.replicate l 0)):=out2.keep fun b cs' hb hg=>by
     refine hk3 b _ hg fun hq=>?_
     cases hb
     rcases f2.at_ with ⟨h1,_⟩|⟨blk,cs2,h1,h2,h3',_⟩
     ·rw[h1] at hq;cases hq
     ·rw[h1] at hq;cases hq;rw[hg] at h3';cases h3'
    have h13:H1.size<H3.size:=by
     rcases out3.at_ with ⟨h1,_⟩|⟨blk,cs2,h1,h2,h3',_⟩
     ·cases h1
     ·cases h1;exact lt_of_get h3'
    have hsl':(ssort (leavesM cs)).length=k:=by rw[ssort_len,hkL]
    have hss:PkB (ssort (leavesM cs)) 1099511627776 1:=fun x hx=>hls x ((ssort_perm _).mem_iff.1 hx)
    generalize hLS:ssort (leavesM cs)=LS at r3 hsl' hss
    have hmt:(most.toNat:Int)=most:=by omega
    have pow16: ∀t:Nat,t≤16→(2:Int)^t≤65536∧2^t≤65536:=fun t ht=>by
     have h1:2^t≤2^16:=Nat.pow_le_pow_right (by omega) ht
     have h2:((2^t:Nat):Int)=(2:Int)^t:=by simp
     have h3:(2:Nat)^16=65536:=rfl
     omega
    intro Y hY
    have rows: ∀(m t:Nat) (H4:Heap) (q4:Option Addr) (l4 c4:Nat),most.toNat-t=m→t≤most.toNat→Ext H3 H4→Row (· =H1.size) H4 q4 l4 (rowM LS t)→l4≤c4→Y [.slice q4 l4 c4,.int .i64 t] H4:=by
     intro m
     induction m with
     |succ m ihr=>
      intro t H4 q4 l4 c4 hm4 ht e4 r4 hlc
      have wt:IntKind.wrap .i64 ((t:Int)+1)=((t+1:Nat):Int):=by rw[wrap_id (by omega) (by omega)];omega
      have hl4:=r4.len
      have hle4:=rowM_len_le LS t
      have hpb:=rowM_bnd hss t
      have hp16:=pow16 t (by omega)
      have sz4:=e4.size
      refine hY q4 l4 c4 _ H4 (br_y (by omega) ?_)
      rw[wt]
      refine c88 r4 (fun b hb=>by omega) (by omega) (fun x hx=>by have:=hpb x hx;generalize (2:Int)^t=y at*;generalize 2^t=z at*;omega) fun H5 q5 l5 c5 r5 e5=>⟨q5,l5,c5,rfl,?_⟩
      have hl5:=r5.len
      rw[pairsM_len] at hl5
      have r3':Row (· =H1.size) H5 q k LS:=r3.ext (e4.trans e5)
      refine c87 r3' r5 (by omega) (fun x hx=>?_) fun H6 q6 c6 r6 hc6 e6=>⟨q6,k+l5,c6,rfl,?_⟩
      ·rcases List.mem_append.1 hx with hx|hx
       ·have:=hss x hx;omega
       ·obtain⟨a,ha,b,hb,rfl⟩:=pairsM_mem hx
        have u1:=hpb a ha
        have u2:=hpb b hb
        simp only[List.length_append]
        generalize (2:Int)^t=y at*
        generalize 2^t=z at*
        omega
      ·exact ihr (t+1) H6 q6 (k+l5) c6 (by omega) (by omega) (e4.trans (e5.trans e6)) r6 hc6
     |zero=>
      intro t H4 q4 l4 c4 hm4 ht e4 r4 hlc
      have htm:t=most.toNat:=by omega
      subst htm
      have hl4:=r4.len
      have hle4:=rowM_len_le LS most.toNat
      have few':LS.length≤2^most.toNat:=by omega
      have hge:=rowM_whole (m:=most.toNat) (by omega) few'
      refine hY q4 l4 c4 _ H4 (br_n (by omega) ?_)
      have w2k:IntKind.wrap .i64 ((2:Int)*((k:Nat):Int))=2*(k:Int):=wrap_id (by omega) (by omega)
      have w2k2:IntKind.wrap .i64 (2*(k:Int)-2)=2*(k:Int)-2:=wrap_id (by omega) (by omega)
      have hmx:max (0:Int) (2*(k:Int)-2)=((2*k-2:Nat):Int):=by omega
      rw[w2k,w2k2,hmx]
      simp only[Int.toNat_natCast,Nat.sub_zero]
      refine⟨by omega,by omega,?_⟩
      generalize hROW:rowM LS most.toNat=ROW at r4 hl4 hge hle4
      have hsym: ∀x∈ROW,(∀s∈x.s,0≤s∧s<(l:Int))∧x.s.length≤65536:=fun x hx=>by
       rw[←hROW] at hx
       refine⟨rowM_syms (N:=(l:Int)) (fun y hy s hs=>?_) _ x hx,?_⟩
       ·rw[←hLS] at hy
        obtain⟨k0,n0,h1,h2,h3⟩:=leavesFrom_mem ((ssort_perm _).mem_iff.1 hy)
        have hk0:=(List.getElem?_eq_some_iff.1 h1).1
        rw[h3] at hs;simp at hs;omega
       ·have h1:=(rowM_bnd hss _ x hx).2.2
        have h2:=(pow16 most.toNat (by omega)).2
        omega
      obtain⟨zs,rz,az⟩:=r4.ex
      have hzl:zs.length=l4:=by have:=rz.len;rw[flat_len] at this;omega
      intro Z hZ
      have items: ∀(m t:Nat) (H5:Heap) (o:List Int),2*k-2-t=m→t≤2*k-2→Ext H H5→RS H5 q4 l4 158 2 (flat zs)→All (· =H1.size) H5 zs ROW→FS H.size H5 (some ⟨H1.size,0,none⟩) l l 3 1 (ints o)→o=((ROW.take t).flatMap (·.s)).foldl bump (List.replicate l 0)→(∀v∈o,0≤v∧v≤(t:Int)*65536)→Z [.int .i64 t] H5:=by
       intro m
       induction m with
       |zero=>
        intro t H5 o hm5 ht5 e5 r5 a5 f5 ho hr5
        refine hZ _ H5 (br_n (by omega) ?_)
        refine hgood ok H5 H1.size ?_ e5
        have:lenM cs most.toNat=o:=by
         unfold lenM
         rw[if_neg (by omega),hLS,hROW,hcl,ho,hkL]
         have:t=2*k-2:=by omega
         rw[this]
        rw[this]
        exact f5
       |succ m ihi=>
        intro t H5 o hm5 ht5 e5 r5 a5 f5 ho hr5
        have wt:IntKind.wrap .i64 ((t:Int)+1)=((t+1:Nat):Int):=by rw[wrap_id (by omega) (by omega)];omega
        obtain⟨x,hx⟩: ∃x,zs[t]?=some x:=⟨_,List.getElem?_eq_getElem (by omega)⟩
        have htR:t<ROW.length:=by omega
        have hy:ROW[t]?=some ROW[t]:=List.getElem?_eq_getElem htR
        have htakeR:ROW.take (t+1)=ROW.take t++[ROW[t]]:=List.take_succ_eq_append_getElem htR
        have hyS:=hsym _ (List.getElem_mem htR)
        generalize ROW[t]=y at hy htakeR hyS
        obtain⟨g1,g2⟩:=flat_get hx
        have hcells: ∀(j:Nat) v,x.cells[j]?=some v→(flat zs)[t*2+j]?=some v:=fun j v hv=>by
         match j,hv with
         |0,hv=>simp[It.cells] at hv;subst hv;exact g1
         |1,hv=>simp[It.cells] at hv;subst hv;exact g2
         |j+2,hv=>simp[It.cells] at hv
        obtain⟨blk,hq,hrow⟩:=r5.row (i:=t) (by omega) (by decide) hcells
        have hc4:c4≠0:=by omega
        refine hZ _ H5 (br_y (by omega) ?_)
        rw[wt]
        simp only[hc4,if_false,hq,Option.map_some,Nat.zero_mul]
        refine⟨_,rfl,by omega,by omega,x.cells,rfl,by simpa using hrow,rfl,?_⟩
        have hnew:=get_push_self H5 (.cells #[Value.int .i64 0,Value.slice none 0 0] 158)
        have e6:Ext H5 (H5.push (.cells #[Value.int .i64 0,Value.slice none 0 0] 158)):=Ext.push _ _
        have hxv:x.v.oneCell'=true:=r5.one _ (List.mem_of_getElem? g2)
        refine stAt_whole hnew rfl (by intro v hv;simp[It.cells] at hv;rcases hv with rfl|rfl<;>first|rfl|exact hxv) ?_
        have e7:Ext H5 ((H5.push (.cells #[Value.int .i64 0,Value.slice none 0 0] 158)).setIfInBounds H5.size (.cells x.cells.toList.toArray 158 (0,0))):=fun b o hb=>get_set_ne (Nat.ne_of_gt (lt_of_get hb)) (e6 _ _ hb)
        have hcp:=get_set_self (o:=Obj.cells x.cells.toList.toArray 158 (0,0)) hnew
        generalize (H5.push (.cells #[Value.int .i64 0,Value.slice none 0 0] 158)).setIfInBounds H5.size (.cells x.cells.toList.toArray 158 (0,0))=H7 at e7 hcp
        obtain⟨_,q8,l8,c8,xv,s8,nq8⟩:=(a5.ext e7).2 t x y hx hy
        have hl8:y.s.length=l8:=by have:=s8.len;rw[ints_len] at this;omega
        refine⟨q8,l8,c8,by rw[add_none];exact cell_get hcp (by simp[It.cells,xv]),?_⟩
        intro V hV
        have syms: ∀(m u:Nat) (H8:Heap) (o8:List Int),l8-u=m→u≤l8→Ext H H8→RS H8 q4 l4 158 2 (flat zs)→All (· =H1.size) H8 zs ROW→RS H8 q8 l8 3 1 (ints y.s)→FS H.size H8 (some ⟨H1.size,0,none⟩) l l 3 1 (ints o8)→o8=(y.s.take u).foldl bump o→(∀v∈o8,0≤v∧v≤(t:Int)*65536+u)→V [.int .i64 u] H8:=by
         intro m
         induction m with
         |zero=>
          intro u H8 o8 hm8 hu e8 r8 a8 s8 f8 ho8 hr8
          refine hV _ H8 (br_n (by omega) ?_)
          refine ihi (t+1) H8 o8 (by omega) (by omega) e8 r8 a8 f8 ?_ fun v hv=>?_
          ·rw[ho8,htakeR,List.flatMap_append,List.foldl_append,←ho,List.take_of_length_le (by omega)]
           simp
          ·have:=hr8 v hv
           have:=hyS.2
           omega
         |succ m ihs=>
          intro u H8 o8 hm8 hu e8 r8 a8 s8 f8 ho8 hr8
          have wu:IntKind.wrap .i64 ((u:Int)+1)=((u+1:Nat):Int):=by rw[wrap_id (by omega) (by have:=hyS.2;omega)];omega
          have hul:u<y.s.length:=by omega
          have hz:y.s[u]?=some y.s[u]:=List.getElem?_eq_getElem hul
          have hzr:=hyS.1 _ (List.getElem_mem hul)
          have htakeU:y.s.take (u+1)=y.s.take u++[y.s[u]]:=List.take_succ_eq_append_getElem hul
          generalize y.s[u]=z at hz hzr htakeU
          obtain⟨bz,hqz,cz⟩:=s8.cell (ints_get hz)
          have ho8l:o8.length=l:=by have:=f8.len;rw[ints_len] at this;omega
          have hzo:o8[z.toNat]?=some o8[z.toNat]:=List.getElem?_eq_getElem (by omega)
          have hzor:=hr8 _ (List.mem_of_getElem? hzo)
          obtain⟨bo,hbo,co⟩:=f8.rs.cell (ints_get hzo)
          cases hbo
          have hget:o8.getD z.toNat 0=o8[z.toNat]:=by rw[List.getD_eq_getElem?_getD,hzo];rfl
          have hul2:(u:Int)≤65536:=by have:=hyS.2;omega
          have htb:(t:Int)*65536≤100000000:=by omega
          have wv:IntKind.wrap .i64 (o8[z.toNat]+1)=o8[z.toNat]+1:=wrap_id (by omega) (by omega)
          refine hV _ H8 (br_y (by omega) ⟨_,hqz,by omega,by omega,z,by simpa using cz,_,rfl,hzr.1,hzr.2,o8[z.toNat],by simpa using co,_,rfl,hzr.1,hzr.2,?_⟩)
          rw[wu,wv]
          simp only[add_none,Nat.zero_add,Nat.mul_one]
          refine f8.set (by rw[ints_len];omega) rfl fun H9 f9 hk9 hs9=>?_
          rw[ints_set] at f9
          refine ihs (u+1) H9 _ (by omega) (by omega) (fun b o' hb=>hk9 b o' (e8 b o' hb) (by have:=lt_of_get hb;have:=e1.size;omega)) (r8.keep fun b cs' hb hg=>hk9 b _ hg fun hh=>?_) (a8.keep fun b cs' hb hg=>hk9 b _ hg hb) (s8.keep fun b cs' hb hg=>hk9 b _ hg (nq8 b hb)) f9 ?_ ?_
          ·rcases f8.at_ with ⟨h1,_⟩|⟨blk',cs2,h1,h2,h3',_⟩
           ·cases h1
           ·cases h1;rw[hh] at hg;rw[hg] at h3';cases h3'
          ·rw[htakeU,List.foldl_append,←ho8]
           show o8.set z.toNat (o8[z.toNat]+1)=bump o8 z
           unfold bump
           rw[hget]
          ·intro v hv
           rcases List.mem_or_eq_of_mem_set hv with hv|rfl
           ·have:=hr8 v hv;omega
           ·omega
        exact syms _ 0 H7 o rfl (by omega) (e5.trans e7) (r5.ext e7) (a5.ext e7) s8 (f5.ext e7) (by simp) (fun v hv=>by have:=hr5 v hv;omega)
      exact items _ 0 H4 _ rfl (by omega) (e3.trans e4) rz az (out3.ext e4) (by simp) (fun v hv=>by have:=(List.mem_replicate.1 hv).2;omega)
    exact rows _ 0 H3 none 0 0 rfl (by omega) (Ext.refl _) ⟨[],RS.nil _ _ _ _,⟨rfl,fun i x y hx=>by simp at hx⟩⟩ (Nat.le_refl _)
 exact loop l 0 H none 0 0 [] rfl (by omega) (Ext.refl _) (FS.nil _ _ _ _) ⟨by simp[leavesM,leavesFrom],fun i x y hx=>by simp at hx⟩ (fun n hn=>by simp at hn)
end Go.Proofs
namespace Go.Proofs
open Go.Sh
def mrg:List (Pk×Nat)→List (Pk×Nat)→List (Pk×Nat)
 |[],b=>b
 |a,[]=>a
 |x::a,y::b=>if x.1.c≤y.1.c then x::mrg a (y::b) else y::mrg (x::a) b
 termination_by a b=>a.length+b.length
theorem mrg_nil(a:List (Pk×Nat)):mrg a []=a:=by cases a<;>simp[mrg]
theorem mrg_cons(x y:Pk×Nat)(a b:List (Pk×Nat)):mrg (x::a) (y::b)=if x.1.c≤y.1.c then x::mrg a (y::b) else y::mrg (x::a) b:=by rw[mrg]
theorem mrg_take: ∀(s:Nat) (a b:List (Pk×Nat)),a.length+b.length≤s→ ∀q,q≤a.length+b.length→ ∃x y,x≤a.length∧y≤b.length∧x+y=q∧((mrg a b).take q).Perm (a.take x++b.take y)∧((mrg a b).drop q).Perm (a.drop x++b.drop y):=by
 intro s
 induction s with
 |zero=>
  intro a b hs q hq
  have ha:a=[]:=List.length_eq_zero_iff.1 (by omega)
  have hb:b=[]:=List.length_eq_zero_iff.1 (by omega)
  subst ha hb
  exact⟨0,0,by omega,by omega,by simp at hq;omega,by simp[mrg],by simp[mrg]⟩
 |succ s ih=>
  intro a b hs q hq
  match a,b with
  |[],b=>exact⟨0,q,by omega,by simpa using hq,by omega,by simp[mrg],by simp[mrg]⟩
  |x::a,[]=>exact⟨q,0,by simpa using hq,by omega,by omega,by rw[mrg_nil];simp,by rw[mrg_nil];simp⟩
  |x::a,y::b=>
   rw[mrg_cons]
   simp only[List.length_cons] at hs hq
   split
   ·cases q with
    |zero=>
     obtain⟨x',y',h1,h2,h3,h4,h5⟩:=ih a (y::b) (by simp;omega) 0 (by omega)
     have hx:x'=0:=by omega
     have hy:y'=0:=by omega
     subst hx hy
     refine⟨0,0,by omega,by omega,by omega,by simp,?_⟩
     simp only[List.drop_zero] at h5 ⊢
     exact h5.cons x
    |succ q=>
     obtain⟨x',y',h1,h2,h3,h4,h5⟩:=ih a (y::b) (by simp;omega) q (by simp;omega)
     refine⟨x'+1,y',by simp;omega,h2,by omega,?_,?_⟩
     ·simp only[List.take_succ_cons,List.cons_append];exact h4.cons x
     ·simp only[List.drop_succ_cons];exact h5
   ·cases q with
    |zero=>
     obtain⟨x',y',h1,h2,h3,h4,h5⟩:=ih (x::a) b (by simp;omega) 0 (by omega)
     have hx:x'=0:=by omega
     have hy:y'=0:=by omega
     subst hx hy
     refine⟨0,0,by omega,by omega,by omega,by simp,?_⟩
     simp only[List.drop_zero] at h5 ⊢
     exact(h5.cons y).trans List.perm_middle.symm
    |succ q=>
     obtain⟨x',y',h1,h2,h3,h4,h5⟩:=ih (x::a) b (by simp;omega) q (by simp;omega)
     refine⟨x',y'+1,h1,by simp;omega,by omega,?_,?_⟩
     ·simp only[List.take_succ_cons];exact(h4.cons y).trans List.perm_middle.symm
     ·simp only[List.drop_succ_cons];exact h5
theorem mrg_perm(a b:List (Pk×Nat)):(mrg a b).Perm (a++b):=by
 obtain⟨x,y,h1,h2,h3,h4,h5⟩:=mrg_take _ a b (Nat.le_refl _) 0 (by omega)
 have hx:x=0:=by omega
 have hy:y=0:=by omega
 subst hx hy
 simpa using h5
theorem mrg_sorted: ∀(s:Nat) (a b:List (Pk×Nat)),a.length+b.length≤s→a.Pairwise LexT→b.Pairwise LexT→(∀u∈a,∀v∈b,u.2<v.2)→(mrg a b).Pairwise LexT:=by
 intro s
 induction s with
 |zero=>
  intro a b hs _ _ _
  have ha:a=[]:=List.length_eq_zero_iff.1 (by omega)
  have hb:b=[]:=List.length_eq_zero_iff.1 (by omega)
  subst ha hb;simp[mrg]
 |succ s ih=>
  intro a b hs ha hb hab
  match a,b with
  |[],b=>simpa[mrg] using hb
  |x::a,[]=>rw[mrg_nil];exact ha
  |x::a,y::b=>
   simp only[List.length_cons] at hs
   have ha':=List.pairwise_cons.1 ha
   have hb':=List.pairwise_cons.1 hb
   have hxy:=hab x List.mem_cons_self y List.mem_cons_self
   rw[mrg_cons]
   split
   ·rename_i hle
    have hlex:LexT x y:=by unfold LexT;omega
    refine List.pairwise_cons.2 ⟨fun z hz=>?_,ih a (y::b) (by simp;omega) ha'.2 hb fun u hu v hv=>hab u (List.mem_cons_of_mem _ hu) v hv⟩
    rcases List.mem_append.1 ((mrg_perm _ _).mem_iff.1 hz) with hz|hz
    ·exact ha'.1 z hz
    ·rcases List.mem_cons.1 hz with rfl|hz
     ·exact hlex
     ·have:=hb'.1 z hz
      unfold LexT at*;omega
   ·rename_i hle
    have hlex:LexT y x:=by left;omega
    refine List.pairwise_cons.2 ⟨fun z hz=>?_,ih (x::a) b (by simp;omega) ha hb'.2 fun u hu v hv=>hab u hu v (List.mem_cons_of_mem _ hv)⟩
    rcases List.mem_append.1 ((mrg_perm _ _).mem_iff.1 hz) with hz|hz
    ·rcases List.mem_cons.1 hz with rfl|hz
     ·exact hlex
     ·have:=ha'.1 z hz
      unfold LexT at*;omega
    ·exact hb'.1 z hz
def SortedC(L:List Pk):Prop:=L.Pairwise fun a b=>a.c≤b.c
theorem zip_lex{L:List Pk}(h:SortedC L)(i:Nat):(L.zipIdx i).Pairwise LexT:=by
 induction L generalizing i with
 |nil=>simp
 |cons x r ih=>
  have h':=List.pairwise_cons.1 h
  rw[List.zipIdx_cons]
  refine List.pairwise_cons.2 ⟨fun z hz=>?_,ih h'.2 (i+1)⟩
  have h1:=List.mem_zipIdx hz
  have h2:=h'.1 z.1 (by
   have:=List.fst_mem_of_mem_zipIdx hz
   exact this)
  unfold LexT
  show x.c<z.1.c∨(x.c=z.1.c∧i<z.2)
  omega
theorem ssort_merge{A B:List Pk}(hA:SortedC A)(hB:SortedC B):ssort (A++B)=(mrg A.zipIdx (B.zipIdx A.length)).map (·.1):=by
 unfold ssort
 congr 1
 refine perm_unique LexT.asymm ?_ (sortT_sorted (zipIdx_tags _)) (mrg_sorted _ _ _ (Nat.le_refl _) (zip_lex hA 0) (zip_lex hB _) fun u hu v hv=>?_)
 ·refine(sortT_perm _).trans ?_
  rw[List.zipIdx_append]
  simpa using(mrg_perm A.zipIdx (B.zipIdx A.length)).symm
 ·have h1:=List.mem_zipIdx hu
  have h2:=List.mem_zipIdx hv
  omega
theorem ssort_sorted(L:List Pk):SortedC (ssort L):=by
 unfold ssort SortedC
 rw[List.pairwise_map]
 exact(sortT_sorted (zipIdx_tags L)).imp fun h=>by unfold LexT at h;omega
theorem merge_take{A B:List Pk}(hA:SortedC A)(hB:SortedC B){q:Nat}(hq:q≤A.length+B.length):
 ∃x y,x≤A.length∧y≤B.length∧x+y=q∧((ssort (A++B)).take q).Perm (A.take x++B.take y)∧ ∀u∈A.take x++B.take y,∀v∈A.drop x++B.drop y,u.c≤v.c:=by
 obtain⟨x,y,h1,h2,h3,h4,h5⟩:=mrg_take _ A.zipIdx (B.zipIdx A.length) (Nat.le_refl _) q (by simpa using hq)
 simp only[List.length_zipIdx] at h1 h2
 have e:=ssort_merge hA hB
 have t1:((A.zipIdx.take x).map (·.1))=A.take x:=by rw[List.map_take,List.zipIdx_map_fst]
 have t2:(((B.zipIdx A.length).take y).map (·.1))=B.take y:=by rw[List.map_take,List.zipIdx_map_fst]
 have t3:((A.zipIdx.drop x).map (·.1))=A.drop x:=by rw[List.map_drop,List.zipIdx_map_fst]
 have t4:(((B.zipIdx A.length).drop y).map (·.1))=B.drop y:=by rw[List.map_drop,List.zipIdx_map_fst]
 have p1:((ssort (A++B)).take q).Perm (A.take x++B.take y):=by
  rw[e,←List.map_take]
  have:=h4.map (·.1)
  rwa [List.map_append,t1,t2] at this
 have p2:((ssort (A++B)).drop q).Perm (A.drop x++B.drop y):=by
  rw[e,←List.map_drop]
  have:=h5.map (·.1)
  rwa [List.map_append,t3,t4] at this
 refine⟨x,y,h1,h2,h3,p1,fun u hu v hv=>?_⟩
 have hs:=ssort_sorted (A++B)
 unfold SortedC at hs
 rw[←List.take_append_drop q (ssort (A++B)),List.pairwise_append] at hs
 exact hs.2.2 u (p1.mem_iff.2 hu) v (p2.mem_iff.2 hv)
theorem pairsM_sorted: ∀{L:List Pk},SortedC L→SortedC (pairsM L)
 |[],_=>List.Pairwise.nil
 |[a],_=>by simp[pairsM,SortedC]
 |a::b::r,h=>by
  have h1:=List.pairwise_cons.1 h
  have h2:=List.pairwise_cons.1 h1.2
  simp only[pairsM]
  refine List.pairwise_cons.2 ⟨fun z hz=>?_,pairsM_sorted h2.2⟩
  obtain⟨u,hu,v,hv,rfl⟩:=pairsM_mem hz
  have:=h1.1 u (List.mem_cons_of_mem _ hu)
  have:=h2.1 v hv
  show a.c+b.c≤u.c+v.c
  omega
theorem rowM_sorted(ls:List Pk): ∀k,SortedC (rowM ls k)
 |0=>List.Pairwise.nil
 |k+1=>ssort_sorted _
theorem pairsM_take: ∀(y:Nat) (L:List Pk),2*y≤L.length→(pairsM L).take y=pairsM (L.take (2*y))
 |0,L,_=>by simp[pairsM]
 |y+1,a::b::r,h=>by
  have e:2*(y+1)=2*y+1+1:=by omega
  rw[e,List.take_succ_cons,List.take_succ_cons]
  simp only[pairsM,List.take_succ_cons]
  rw[pairsM_take y r (by simp at h;omega)]
 |y+1,[a],h=>by simp at h;omega
 |y+1,[],h=>by simp at h
theorem pairsM_syms: ∀(y:Nat) (M:List Pk),M.length=2*y→(pairsM M).flatMap (·.s)=M.flatMap (·.s)∧((pairsM M).map (·.c)).sum=(M.map (·.c)).sum
 |0,M,h=>by
  have:M=[]:=List.length_eq_zero_iff.1 (by omega)
  subst this;simp[pairsM]
 |y+1,a::b::r,h=>by
  obtain⟨h1,h2⟩:=pairsM_syms y r (by simp at h;omega)
  simp only[pairsM,List.flatMap_cons,List.map_cons,List.sum_cons]
  rw[h1,h2]
  refine⟨by simp,by omega⟩
 |y+1,[a],h=>by simp at h;omega
 |y+1,[],h=>by simp at h
theorem pairsM_over: ∀(y:Nat) (M:List Pk),M.length=2*y→(∀x∈M,0<x.c)→ ∀z∈M,∃u∈pairsM M,z.c<u.c
 |0,M,h,_,z,hz=>by
  have:M=[]:=List.length_eq_zero_iff.1 (by omega)
  subst this;simp at hz
 |y+1,a::b::r,h,hp,z,hz=>by
  have ha:=hp a List.mem_cons_self
  have hb:=hp b (by simp)
  simp only[pairsM]
  rcases List.mem_cons.1 hz with rfl|hz
  ·exact⟨_,List.mem_cons_self,by show z.c<z.c+b.c;omega⟩
  ·rcases List.mem_cons.1 hz with rfl|hz
   ·exact⟨_,List.mem_cons_self,by show z.c<a.c+z.c;omega⟩
   ·obtain⟨u,hu,hlt⟩:=pairsM_over y r (by simp at h;omega) (fun x hx=>hp x (by simp[hx])) z hz
    exact⟨u,List.mem_cons_of_mem _ hu,hlt⟩
 |y+1,[a],h,_,_,_=>by simp at h;omega
 |y+1,[],h,_,_,_=>by simp at h
theorem rowM_pos{ls:List Pk}(h: ∀x∈ls,0<x.c): ∀k,∀x∈rowM ls k,0<x.c
 |0,x,hx=>by simp[rowM] at hx
 |k+1,x,hx=>by
  rcases rowM_mem hx with hx|hx
  ·exact h x hx
  ·obtain⟨a,ha,b,hb,rfl⟩:=pairsM_mem hx
   have:=rowM_pos h k a ha
   have:=rowM_pos h k b hb
   show 0<a.c+b.c
   omega
def wsum:List Nat→Nat
 |[]=>0
 |x::r=>x*2^r.length+wsum r
def csum(L:List Pk):Int:=(L.map (·.c)).sum
structure Sel(LS:List Pk)(k q:Nat)(X:List Nat):Prop where
 len:X.length=k
 le: ∀x∈X,x≤LS.length
 dec:X.Pairwise (· ≥ ·)
 sym:(((rowM LS k).take q).flatMap (·.s)).Perm (X.flatMap fun x=>(LS.take x).flatMap (·.s))
 cost:csum ((rowM LS k).take q)=(X.map fun x=>csum (LS.take x)).sum
 wid:wsum X*2=q*2^k
 hd: ∀x r,X=x::r→ ∀z∈LS.take x,z∈(rowM LS k).take q
theorem csum_append(a b:List Pk):csum (a++b)=csum a+csum b:=by
 unfold csum
 rw[List.map_append]
 induction a with
 |nil=>simp
 |cons x r ih=>simp only[List.map_cons,List.cons_append,List.sum_cons,ih];omega
theorem csum_perm{a b:List Pk}(h:a.Perm b):csum a=csum b:=by
 unfold csum
 induction h with
 |nil=>rfl
 |cons x _ ih=>simp only[List.map_cons,List.sum_cons,ih]
 |swap x y l=>simp only[List.map_cons,List.sum_cons];omega
 |trans _ _ ih1 ih2=>rw[ih1,ih2]
theorem sel_ex{LS:List Pk}(hs:SortedC LS)(hp: ∀x∈LS,0<x.c): ∀(k q:Nat),q≤(rowM LS k).length→ ∃X,Sel LS k q X
 |0,q,hq=>by
  have:q=0:=by simpa[rowM] using hq
  subst this
  exact⟨[],rfl,by simp,List.Pairwise.nil,by simp[rowM],by simp[rowM,csum],by simp[wsum],fun x r h=>by cases h⟩
 |k+1,q,hq=>by
  rw[rowM_len] at hq
  have hB:=pairsM_sorted (rowM_sorted LS k)
  have hBl:=pairsM_len (rowM LS k)
  obtain⟨x,y,h1,h2,h3,h4,h5⟩:=merge_take hs hB (q:=q) (by omega)
  have hy2:2*y≤(rowM LS k).length:=by omega
  obtain⟨X,sel⟩:=sel_ex hs hp k (2*y) hy2
  have htk:=pairsM_take y (rowM LS k) hy2
  have hml:((rowM LS k).take (2*y)).length=2*y:=by simp;omega
  obtain⟨s1,s2⟩:=pairsM_syms y _ hml
  have hle: ∀x'∈X,x'≤x:=by
   match X,sel with
   |[],_=>intro x' hx';simp at hx'
   |x1::r,sel=>
    have hx1:x1≤x:=by
     rcases Nat.lt_or_ge x x1 with h|h
     ·have hn:=sel.le x1 List.mem_cons_self
      have hxl:x<LS.length:=by omega
      have hz:LS[x]∈LS.take x1:=by
       refine List.mem_of_getElem? (i:=x) ?_
       rw[List.getElem?_take_of_lt h,List.getElem?_eq_getElem hxl]
      have hzr:=sel.hd x1 r rfl _ hz
      obtain⟨u,hu,hlt⟩:=pairsM_over y _ hml (fun w hw=>rowM_pos hp k w (List.mem_of_mem_take hw)) _ hzr
      rw[←htk] at hu
      have hd:LS[x]∈LS.drop x:=by
       rw[List.drop_eq_getElem_cons hxl];exact List.mem_cons_self
      have:=h5 u (List.mem_append_right _ hu) _ (List.mem_append_left _ hd)
      omega
     ·exact h
    intro x' hx'
    rcases List.mem_cons.1 hx' with rfl|hx'
    ·exact hx1
    ·have:=(List.pairwise_cons.1 sel.dec).1 x' hx'
     omega
  refine⟨x::X,by simp[sel.len],fun x' hx'=>?_,List.pairwise_cons.2 ⟨hle,sel.dec⟩,?_,?_,?_,fun x0 r0 he z hz=>?_⟩
  ·rcases List.mem_cons.1 hx' with rfl|hx'
   ·exact h1
   ·exact sel.le x' hx'
  ·refine(h4.flatMap_right _).trans ?_
   rw[List.flatMap_append,htk,s1,List.flatMap_cons]
   exact sel.sym.append_left _
  ·show csum ((ssort (LS++pairsM (rowM LS k))).take q)=_
   rw[csum_perm h4,csum_append,htk]
   have:csum (pairsM ((rowM LS k).take (2*y)))=csum ((rowM LS k).take (2*y)):=s2
   rw[this,sel.cost]
   simp
  ·have hw:=sel.wid
   simp only[wsum]
   rw[sel.len,Nat.add_mul,hw,←h3,Nat.pow_succ,Nat.add_mul]
   generalize 2^k=p
   rw[Nat.mul_assoc x,Nat.mul_comm 2 y,Nat.mul_assoc y,Nat.mul_comm 2 p]
  ·cases he
   exact h4.mem_iff.2 (List.mem_append_left _ hz)
end Go.Proofs
namespace Go.Proofs
open Go.Sh
def sy(x:Pk):Int:=x.s.headD 0
theorem leaves_sy{cs:List Int}{x:Pk}(h:x∈leavesM cs): ∃(k:Nat) (n:Int),cs[k]?=some n∧n>0∧x=⟨n,[(k:Int)]⟩:=by
 obtain⟨k,n,h1,h2,h3⟩:=leavesFrom_mem h
 exact⟨k,n,h1,h2,by rw[h3];simp⟩
theorem leavesFrom_has{cs:List Int}{k:Nat}{n:Int}(h:cs[k]?=some n)(hn:n>0): ∀i:Nat,⟨n,[((i+k:Nat):Int)]⟩∈leavesFrom i cs:=by
 induction cs generalizing k with
 |nil=>simp at h
 |cons a r ih=>
  intro i
  cases k with
  |zero=>simp at h;subst h;simp[leavesFrom,hn]
  |succ k=>
   simp only[List.getElem?_cons_succ] at h
   have:=ih h (i+1)
   have e:i+1+k=i+(k+1):=by omega
   rw[e] at this
   exact List.mem_append_right _ this
theorem leavesFrom_up(cs:List Int): ∀i:Nat,(leavesFrom i cs).Pairwise fun a b=>sy a<sy b:=by
 induction cs with
 |nil=>intro i;exact List.Pairwise.nil
 |cons a r ih=>
  intro i
  simp only[leavesFrom]
  split
  ·refine List.pairwise_cons.2 ⟨fun z hz=>?_,ih (i+1)⟩
   obtain⟨k,n,_,_,rfl⟩:=leavesFrom_mem hz
   show(i:Int)<((i+1+k:Nat):Int)
   omega
  ·simpa using ih (i+1)
theorem flat_sy: ∀{L:List Pk},(∀x∈L,x.s=[sy x])→L.flatMap (·.s)=L.map sy
 |[],_=>rfl
 |x::r,h=>by
  rw[List.flatMap_cons,List.map_cons,h x List.mem_cons_self,flat_sy fun z hz=>h z (List.mem_cons_of_mem _ hz)]
  rfl
structure Lv(cs:List Int)(LS:List Pk):Prop where
 one: ∀x∈LS,x.s=[sy x]
 src: ∀x∈LS,∃k:Nat,cs[k]?=some x.c∧x.c>0∧sy x=(k:Int)
 has: ∀(k:Nat) (n:Int),cs[k]?=some n→n>0→ ∃r:Nat,LS[r]?=some ⟨n,[(k:Int)]⟩
 nd:(LS.map sy).Nodup
 srt:SortedC LS
theorem lv_of(cs:List Int):Lv cs (ssort (leavesM cs)):=by
 have hm:=fun x=>(ssort_perm (leavesM cs)).mem_iff (a:=x)
 refine⟨fun x hx=>?_,fun x hx=>?_,fun k n h1 h2=>?_,?_,ssort_sorted _⟩
 ·obtain⟨k,n,_,_,rfl⟩:=leaves_sy ((hm x).1 hx);rfl
 ·obtain⟨k,n,h1,h2,rfl⟩:=leaves_sy ((hm x).1 hx);exact⟨k,h1,h2,rfl⟩
 ·have:=leavesFrom_has h1 h2 0
  rw[Nat.zero_add] at this
  exact List.getElem?_of_mem ((hm _).2 this)
 ·have h1:((leavesM cs).map sy).Nodup:=by
   rw[List.nodup_iff_pairwise_ne,List.pairwise_map]
   exact(leavesFrom_up cs 0).imp fun h=>by omega
  exact(((ssort_perm (leavesM cs)).map sy).nodup_iff).2 h1
theorem foldl_bump_get: ∀(l o:List Int) (i:Nat),i<o.length→(∀s∈l,0≤s)→(l.foldl bump o)[i]?=some (o.getD i 0+(l.count (i:Int):Int))
 |[],o,i,hi,_=>by simp[hi]
 |s::r,o,i,hi,h=>by
  have hs:=h s List.mem_cons_self
  rw[List.foldl_cons,foldl_bump_get r (bump o s) i (by rw[bump_len];exact hi) fun x hx=>h x (List.mem_cons_of_mem _ hx),List.count_cons]
  congr 1
  unfold bump
  rw[List.getD_eq_getElem?_getD,List.getElem?_set]
  by_cases hsi:s.toNat=i
  ·have:s=(i:Int):=by omega
   rw[if_pos hsi,if_pos (by omega)]
   simp[this]
   omega
  ·have: ¬s=(i:Int):=by omega
   rw[if_neg hsi,←List.getD_eq_getElem?_getD]
   simp[this]
def lenAt(X:List Nat)(r:Nat):Nat:=X.countP fun x=>decide (r<x)
theorem lenAt_le(X:List Nat)(r:Nat):lenAt X r≤X.length:=List.countP_le_length
theorem lenAt_anti(X:List Nat){r r':Nat}(h:r≤r'):lenAt X r'≤lenAt X r:=by
 unfold lenAt
 refine List.countP_mono_left fun x _ hx=>?_
 simp only[decide_eq_true_eq] at hx ⊢
 omega
theorem count_take{σ:List Int}(hn:σ.Nodup){r:Nat}{v:Int}(h:σ[r]?=some v)(x:Nat):(σ.take x).count v=if r<x then 1 else 0:=by
 have hnt:(σ.take x).Nodup:=List.Pairwise.sublist (List.take_sublist _ _) hn
 by_cases hr:r<x
 ·rw[if_pos hr]
  have hm:v∈σ.take x:=List.mem_of_getElem? (i:=r) (by rw[List.getElem?_take_of_lt hr];exact h)
  have h1:=List.nodup_iff_count.1 hnt v
  have h2:=List.count_pos_iff.2 hm
  omega
 ·rw[if_neg hr]
  refine List.count_eq_zero.2 fun hm=>?_
  obtain⟨j,hj⟩:=List.getElem?_of_mem hm
  have hjx:=(List.getElem?_eq_some_iff.1 hj).1
  have hjx2:j<x:=by simp at hjx;omega
  rw[List.getElem?_take_of_lt hjx2] at hj
  have:=(List.getElem?_inj (List.getElem?_eq_some_iff.1 hj).1 hn).1 (hj.trans h.symm)
  omega
theorem count_flat{σ:List Int}(hn:σ.Nodup){r:Nat}{v:Int}(h:σ[r]?=some v): ∀X:List Nat,(X.flatMap fun x=>σ.take x).count v=lenAt X r
 |[]=>rfl
 |x::X=>by
  rw[List.flatMap_cons,List.count_append,count_take hn h,count_flat hn h X]
  unfold lenAt
  rw[List.countP_cons]
  by_cases hr:r<x<;>simp[hr]<;>omega
theorem count_flat0{σ:List Int}{v:Int}(h:v∉σ)(X:List Nat):(X.flatMap fun x=>σ.take x).count v=0:=by
 refine List.count_eq_zero.2 fun hm=>?_
 obtain⟨x,_,hx⟩:=List.mem_flatMap.1 hm
 exact h (List.mem_of_mem_take hx)
def kraft(n:Nat)(X:List Nat):Nat:=((List.range n).map fun r=>2^(X.length-lenAt X r)).sum
theorem sum_add{α:Type}(f g:α→Nat): ∀l:List α,(l.map fun x=>f x+g x).sum=(l.map f).sum+(l.map g).sum
 |[]=>rfl
 |x::r=>by simp only[List.map_cons,List.sum_cons,sum_add f g r];omega
theorem sum_above(c x:Nat): ∀n:Nat,x≤n→((List.range n).map fun r=>if r<x then 0 else c).sum=(n-x)*c
 |0,h=>by simp
 |n+1,h=>by
  rw[List.range_succ,List.map_append,List.sum_append]
  by_cases hx:x=n+1
  ·subst hx
   have:((List.range n).map fun r=>if r<n+1 then 0 else c)=(List.range n).map fun _=>0:=List.map_congr_left fun r hr=>by
    have:=List.mem_range.1 hr
    rw[if_pos (by omega)]
   rw[this]
   have z: ∀l:List Nat,(l.map fun _=>0).sum=0:=fun l=>by induction l with
    |nil=>rfl
    |cons a b ih=>simp only[List.map_cons,List.sum_cons,ih]
   rw[z]
   simp
  ·rw[sum_above c x n (by omega)]
   have e:n+1-x=n-x+1:=by omega
   rw[e,Nat.add_mul]
   simp only[List.map_cons,List.map_nil,List.sum_cons,List.sum_nil]
   rw[if_neg (by omega)]
   omega
theorem kraft_eq(n:Nat): ∀X:List Nat,X.Pairwise (· ≥ ·)→(∀x∈X,x≤n)→kraft n X+wsum X=n*2^X.length
 |[],_,_=>by
  simp only[kraft,wsum,lenAt,List.length_nil,List.countP_nil,Nat.sub_zero,Nat.pow_zero]
  have:((List.range n).map fun _=>1).sum=n:=by
   have z: ∀l:List Nat,(l.map fun _=>1).sum=l.length:=fun l=>by induction l with
    |nil=>rfl
    |cons a b ih=>simp only[List.map_cons,List.sum_cons,ih,List.length_cons];omega
   rw[z];simp
  omega
 |x::X,hd,hle=>by
  have hd':=List.pairwise_cons.1 hd
  have ih:=kraft_eq n X hd'.2 fun y hy=>hle y (List.mem_cons_of_mem _ hy)
  have hx:=hle x List.mem_cons_self
  have hk:kraft n (x::X)=kraft n X+(n-x)*2^X.length:=by
   unfold kraft
   rw[←sum_above (2^X.length) x n hx,←sum_add]
   congr 1
   refine List.map_congr_left fun r _=>?_
   have hc:lenAt (x::X) r=lenAt X r+if r<x then 1 else 0:=by
    unfold lenAt;rw[List.countP_cons];by_cases h:r<x<;>simp[h]
   have hl:=lenAt_le X r
   rw[hc,List.length_cons]
   by_cases h:r<x
   ·rw[if_pos h,if_pos h]
    have:X.length+1-(lenAt X r+1)=X.length-lenAt X r:=by omega
    rw[this,Nat.add_zero]
   ·rw[if_neg h,if_neg h]
    have h0:lenAt X r=0:=by
     unfold lenAt
     refine List.countP_eq_zero.2 fun y hy=>?_
     have:=hd'.1 y hy
     simp;omega
    rw[h0,Nat.add_zero,Nat.sub_zero,Nat.sub_zero,Nat.pow_succ]
    omega
  simp only[wsum,List.length_cons]
  rw[hk,Nat.pow_succ]
  generalize 2^X.length=p at*
  have e1:(n-x)*p+x*p=n*p:=by rw[←Nat.add_mul];congr 1;omega
  have e2:n*(p*2)=n*p+n*p:=by rw[←Nat.mul_assoc];omega
  omega
theorem sum_ge_one{v:Nat}: ∀{l:List Nat},(∀x∈l,1≤x)→v∈l→v+l.length≤l.sum+1
 |x::r,h,hm=>by
  have h1:=h x List.mem_cons_self
  have hall:r.length≤r.sum:=by
   have: ∀{l:List Nat},(∀x∈l,1≤x)→l.length≤l.sum:=fun{l}=>by
    induction l with
    |nil=>intro _;simp
    |cons a b ih=>intro hh;have:=hh a List.mem_cons_self;have:=ih fun z hz=>hh z (List.mem_cons_of_mem _ hz);simp;omega
   exact this fun z hz=>h z (List.mem_cons_of_mem _ hz)
  simp only[List.length_cons,List.sum_cons]
  rcases List.mem_cons.1 hm with rfl|hm
  ·omega
  ·have:=sum_ge_one (fun z hz=>h z (List.mem_cons_of_mem _ hz)) hm
   omega
theorem sum_places{N:Nat}{g:Nat→Int}{T:List Nat}(hn:T.Nodup)(hT: ∀t∈T,t<N)(h0: ∀i,i<N→i∉T→g i=0):((List.range N).map g).sum=(T.map g).sum:=by
 have hp:(List.range N).Perm (T++(List.range N).filter fun i=>decide (i∉T)):=by
  refine(List.perm_ext_iff_of_nodup List.nodup_range ?_).2 fun i=>?_
  ·rw[List.nodup_append]
   refine⟨hn,List.Pairwise.filter _ List.nodup_range,fun a ha b hb hab=>?_⟩
   have:=(List.mem_filter.1 hb).2
   simp at this
   exact this (by rw[←hab];exact ha)
  ·rw[List.mem_append,List.mem_filter]
   simp only[List.mem_range,decide_eq_true_eq]
   constructor
   ·intro h
    by_cases hi:i∈T
    ·exact .inl hi
    ·exact .inr ⟨h,hi⟩
   ·rintro(h|h)
    ·exact hT i h
    ·exact h.1
 have sp: ∀{a b:List Int},a.Perm b→a.sum=b.sum:=fun h=>by
  induction h with
  |nil=>rfl
  |cons x _ ih=>simp only[List.sum_cons,ih]
  |swap x y l=>simp only[List.sum_cons];omega
  |trans _ _ ih1 ih2=>rw[ih1,ih2]
 rw[sp (hp.map g),List.map_append,sum_append]
 have:(((List.range N).filter fun i=>decide (i∉T)).map g)=((List.range N).filter fun i=>decide (i∉T)).map fun _=>0:=List.map_congr_left fun i hi=>by
  have:=List.mem_filter.1 hi
  exact h0 i (List.mem_range.1 this.1) (by simpa using this.2)
 rw[this]
 have z: ∀l:List Nat,(l.map fun _=>(0:Int)).sum=0:=fun l=>by induction l with
  |nil=>rfl
  |cons a b ih=>simp only[List.map_cons,List.sum_cons,ih];rfl
 rw[z];omega
structure Two(cs:List Int)(m:Nat)(LS:List Pk)(X:List Nat):Prop where
 sel:Sel LS m (2*LS.length-2) X
 lv:Lv cs LS
 n2:2≤LS.length
 len:(lenM cs m).length=cs.length
 leaf: ∀(r:Nat) x (i:Nat),LS[r]?=some x→sy x=(i:Int)→i<cs.length∧(lenM cs m)[i]?=some (lenAt X r:Int)
 none: ∀i:Nat,i<cs.length→(∀x∈LS,sy x≠(i:Int))→(lenM cs m)[i]?=some 0
 pos: ∀r,r<LS.length→1≤lenAt X r∧lenAt X r≤m
theorem two_of{cs:List Int}{most:Int}(ok:OkL cs most)(h2:2≤(leavesM cs).length): ∃X,Two cs most.toNat (ssort (leavesM cs)) X:=by
 have m1:=ok.m1
 have hlv:=lv_of cs
 have hsl:=ssort_len (leavesM cs)
 have hlenM:lenM cs most.toNat=(((rowM (ssort (leavesM cs)) most.toNat).take (2*(leavesM cs).length-2)).flatMap (·.s)).foldl bump (List.replicate cs.length 0):=by
  unfold lenM;rw[if_neg (by omega)]
 generalize ssort (leavesM cs)=LS at hlv hsl hlenM
 have hpos: ∀x∈LS,0<x.c:=fun x hx=>by obtain⟨k,_,h,_⟩:=hlv.src x hx;exact h
 have hq:=rowM_whole (ls:=LS) (m:=most.toNat) (by omega) (by rw[hsl];exact ok.few)
 obtain⟨X,sel⟩:=sel_ex hlv.srt hpos most.toNat (2*LS.length-2) hq
 rw[hsl.symm] at hlenM
 have hsy: ∀x:Nat,(LS.take x).flatMap (·.s)=(LS.map sy).take x:=fun x=>by
  rw[flat_sy fun z hz=>hlv.one z (List.mem_of_mem_take hz),List.map_take]
 have hfl:(X.flatMap fun x=>(LS.take x).flatMap (·.s))=X.flatMap fun x=>(LS.map sy).take x:=by
  congr 1;funext x;exact hsy x
 have hperm:=sel.sym
 rw[hfl] at hperm
 have hs0: ∀s∈((rowM LS most.toNat).take (2*LS.length-2)).flatMap (·.s),0≤s:=fun s hs=>by
  have:=hperm.mem_iff.1 hs
  obtain⟨x,_,hx⟩:=List.mem_flatMap.1 this
  obtain⟨z,hz,rfl⟩:=List.mem_map.1 (List.mem_of_mem_take hx)
  obtain⟨k,_,_,e⟩:=hlv.src z hz
  omega
 have hget: ∀i:Nat,i<cs.length→(lenM cs most.toNat)[i]?=some (((X.flatMap fun x=>(LS.map sy).take x).count (i:Int):Nat):Int):=fun i hi=>by
  rw[hlenM,foldl_bump_get _ _ i (by simpa using hi) hs0,hperm.count_eq]
  have:(List.replicate cs.length (0:Int)).getD i 0=0:=by rw[List.getD_eq_getElem?_getD,List.getElem?_replicate,if_pos hi];rfl
  rw[this,Int.zero_add]
 have hk:=kraft_eq LS.length X sel.dec sel.le
 have hw:=sel.wid
 rw[sel.len] at hk
 have hkr:kraft LS.length X=2^most.toNat:=by
  generalize 2^most.toNat=p at*
  have e1:wsum X*2=2*(LS.length*p)-2*p:=by rw[hw,Nat.sub_mul,Nat.mul_assoc]
  have e2:2*p≤2*(LS.length*p):=by
   have:1*p≤LS.length*p:=Nat.mul_le_mul_right p (by omega)
   omega
  omega
 refine⟨X,sel,hlv,by omega,?_,fun r x i hr hi=>?_,fun i hi hno=>?_,fun r hr=>⟨?_,?_⟩⟩
 ·rw[hlenM,foldl_bump_len];simp
 ·obtain⟨k,h1,_,h3⟩:=hlv.src x (List.mem_of_getElem? hr)
  have hki:k=i:=by omega
  subst hki
  have hkl:=(List.getElem?_eq_some_iff.1 h1).1
  refine⟨hkl,?_⟩
  rw[hget k hkl,count_flat hlv.nd (r:=r) (by rw[List.getElem?_map,hr,←h3];rfl)]
 ·rw[hget i hi,count_flat0 fun hm=>?_]
  ·rfl
  ·obtain⟨z,hz,he⟩:=List.mem_map.1 hm
   exact hno z hz he
 ·rcases Nat.eq_zero_or_pos (lenAt X r) with h0|h0
  ·have hm:2^(X.length-lenAt X r)∈(List.range LS.length).map fun r=>2^(X.length-lenAt X r):=List.mem_map.2 ⟨r,List.mem_range.2 hr,rfl⟩
   have:=sum_ge_one (fun x hx=>by
    obtain⟨j,_,rfl⟩:=List.mem_map.1 hx
    exact Nat.one_le_two_pow) hm
   rw[h0,Nat.sub_zero,sel.len] at this
   have hkk:((List.range LS.length).map fun r=>2^(X.length-lenAt X r)).sum=2^most.toNat:=hkr
   rw[sel.len] at hkk
   simp only[List.length_map,List.length_range] at this
   omega
  ·exact h0
 ·have:=lenAt_le X r
  rw[sel.len] at this;exact this
theorem wt_nat{t m:Nat}(h1:1≤t)(h2:t≤m)(h3:m≤16):wt (t:Int)=2^(16-m)*((2^(m-t):Nat):Int):=by
 unfold wt
 rw[if_pos (by omega)]
 have e:(16-(t:Int)).toNat=16-m+(m-t):=by omega
 rw[e,Int.pow_add]
 simp
theorem Two.whole{cs:List Int}{m:Nat}{LS:List Pk}{X:List Nat}(t:Two cs m LS X)(hm:m≤16):wtM (lenM cs m)=65536:=by
 have hl:=t.len
 have hmap:(lenM cs m).map wt=(List.range cs.length).map fun i=>wt ((lenM cs m).getD i 0):=by
  apply List.ext_getElem?
  intro i
  by_cases hi:i<cs.length
  ·rw[List.getElem?_map,List.getElem?_map,List.getElem?_range hi]
   simp only[Option.map_some]
   rw[List.getD_eq_getElem?_getD,List.getElem?_eq_getElem (by omega)];rfl
  ·rw[List.getElem?_eq_none_iff.2 (by simp;omega),List.getElem?_eq_none_iff.2 (by simp;omega)]
 unfold wtM
 rw[hmap]
 have hT: ∀x∈LS,∃k:Nat,sy x=(k:Int)∧k<cs.length:=fun x hx=>by
  obtain⟨k,h1,_,h3⟩:=t.lv.src x hx
  exact⟨k,h3,(List.getElem?_eq_some_iff.1 h1).1⟩
 have hnd:(LS.map fun x=>(sy x).toNat).Nodup:=by
  have:=t.lv.nd
  rw[List.nodup_iff_pairwise_ne,List.pairwise_map] at this ⊢
  refine List.Pairwise.imp_of_mem (fun ha hb hab he=>hab ?_) this
  obtain⟨k,h1,_⟩:=hT _ ha
  obtain⟨k',h2,_⟩:=hT _ hb
  omega
 rw[sum_places (T:=LS.map fun x=>(sy x).toNat) hnd (fun i hi=>?_) (fun i hi hni=>?_)]
 ·have hg:((LS.map fun x=>(sy x).toNat).map fun i=>wt ((lenM cs m).getD i 0))=(List.range LS.length).map fun r=>2^(16-m)*((2^(m-lenAt X r):Nat):Int):=by
   apply List.ext_getElem?
   intro r
   by_cases hr:r<LS.length
   ·have hx:LS[r]?=some LS[r]:=List.getElem?_eq_getElem hr
    obtain⟨k,h1,h2⟩:=hT _ (List.mem_of_getElem? hx)
    obtain⟨_,h3⟩:=t.leaf r _ k hx h1
    obtain⟨p1,p2⟩:=t.pos r hr
    rw[List.getElem?_map,List.getElem?_map,hx,List.getElem?_map,List.getElem?_range hr]
    simp only[Option.map_some]
    have e:(sy LS[r]).toNat=k:=by omega
    rw[e,List.getD_eq_getElem?_getD,h3]
    congr 1
    exact wt_nat p1 p2 hm
   ·rw[List.getElem?_eq_none_iff.2 (by simp;omega),List.getElem?_eq_none_iff.2 (by simp;omega)]
  rw[hg]
  have hsum: ∀(c:Int) (f:Nat→Nat) (l:List Nat),(l.map fun r=>c*(f r:Int)).sum=c*(((l.map f).sum:Nat):Int):=fun c f l=>by
   induction l with
   |nil=>simp
   |cons a b ih=>simp only[List.map_cons,List.sum_cons,ih];rw[Int.natCast_add,Int.mul_add]
  rw[hsum]
  have hk:=kraft_eq LS.length X t.sel.dec t.sel.le
  have hw:=t.sel.wid
  rw[t.sel.len] at hk
  have hkr:((List.range LS.length).map fun r=>2^(m-lenAt X r)).sum=2^m:=by
   have hkk:((List.range LS.length).map fun r=>2^(m-lenAt X r)).sum=kraft LS.length X:=by unfold kraft;rw[t.sel.len]
   rw[hkk]
   have n2:=t.n2
   generalize 2^m=p at*
   have e1:wsum X*2=2*(LS.length*p)-2*p:=by rw[hw,Nat.sub_mul,Nat.mul_assoc]
   have e2:2*p≤2*(LS.length*p):=by
    have:1*p≤LS.length*p:=Nat.mul_le_mul_right p (by omega)
    omega
   omega
  rw[hkr]
  have:(2:Int)^(16-m)*((2^m:Nat):Int)=2^(16-m+m):=by rw[Int.pow_add];simp
  rw[this]
  have e:16-m+m=16:=by omega
  rw[e];decide
 ·obtain⟨x,hx,rfl⟩:=List.mem_map.1 hi
  obtain⟨k,h1,h2⟩:=hT x hx
  omega
 ·have:(lenM cs m)[i]?=some 0:=t.none i hi fun x hx he=>hni (List.mem_map.2 ⟨x,hx,by omega⟩)
  show wt ((lenM cs m).getD i 0)=0
  rw[List.getD_eq_getElem?_getD,this]
  rfl
theorem wt_replicate(n:Nat):wtM (List.replicate n 0)=0:=by
 unfold wtM
 induction n with
 |zero=>rfl
 |succ n ih=>rw[List.replicate_succ,List.map_cons,List.sum_cons,ih];rfl
theorem wt_set_le: ∀(n i:Nat),wtM ((List.replicate n 0).set i 1)≤32768
 |0,i=>by simp[wtM]
 |n+1,0=>by
  have:=wt_replicate n
  unfold wtM at*
  rw[List.replicate_succ,List.set_cons_zero,List.map_cons,List.sum_cons,this]
  decide
 |n+1,i+1=>by
  have:=wt_set_le n i
  unfold wtM at*
  rw[List.replicate_succ,List.set_cons_succ,List.map_cons,List.sum_cons]
  have:wt 0=0:=rfl
  omega
theorem lenM_ok{cs:List Int}{most:Int}(ok:OkL cs most):OkC (lenM cs most.toNat)∧(lenM cs most.toNat).length=cs.length:=by
 have m1:=ok.m1
 have m2:=ok.m2
 have l300:=ok.len
 by_cases h2:2≤(leavesM cs).length
 ·obtain⟨X,t⟩:=two_of ok h2
  refine⟨⟨⟨by rw[t.len];omega,fun v hv=>?_⟩,by rw[t.whole (by omega)];omega⟩,t.len⟩
  obtain⟨i,hi⟩:=List.getElem?_of_mem hv
  have hil:=(List.getElem?_eq_some_iff.1 hi).1
  rw[t.len] at hil
  by_cases hx: ∃x∈ssort (leavesM cs),sy x=(i:Int)
  ·obtain⟨x,hx,hs⟩:=hx
   obtain⟨r,hr⟩:=List.getElem?_of_mem hx
   obtain⟨_,h⟩:=t.leaf r x i hr hs
   rw[hi] at h;cases h
   have:=t.pos r (List.getElem?_eq_some_iff.1 hr).1
   omega
  ·have:=t.none i hil fun x hx' hs=>hx ⟨x,hx',hs⟩
   rw[hi] at this;cases this;omega
 ·by_cases h1:(leavesM cs).length=1
  ·have e:lenM cs most.toNat=(List.replicate cs.length 0).set (((leavesM cs).headD default).s.headD 0).toNat 1:=by unfold lenM;rw[if_pos h1]
   rw[e]
   refine⟨⟨⟨by simp;omega,fun v hv=>?_⟩,Int.le_trans (wt_set_le _ _) (by omega)⟩,by simp⟩
   rcases List.mem_or_eq_of_mem_set hv with hv|rfl
   ·have:=(List.mem_replicate.1 hv).2;omega
   ·omega
  ·have h0:(leavesM cs).length=0:=by omega
   have e:lenM cs most.toNat=List.replicate cs.length 0:=by
    unfold lenM
    rw[if_neg h1,h0]
    simp
   rw[e]
   refine⟨⟨⟨by simp;omega,fun v hv=>?_⟩,by rw[wt_replicate];omega⟩,by simp⟩
   have:=(List.mem_replicate.1 hv).2;omega
theorem lenM_order{cs:List Int}{most:Int}(ok:OkL cs most){i j:Nat}{a b u v:Int}(hi:cs[i]?=some a)(hj:cs[j]?=some b)(hab:a>b)(hb:b>0)(hu:(lenM cs most.toNat)[i]?=some u)(hv:(lenM cs most.toNat)[j]?=some v):u≤v:=by
 have hlv:=lv_of cs
 obtain⟨r,hr⟩:=hlv.has i a hi (by omega)
 obtain⟨r',hr'⟩:=hlv.has j b hj hb
 have hne:r≠r':=fun hh=>by rw[hh,hr'] at hr;cases hr;omega
 have h2:2≤(leavesM cs).length:=by
  rw[←ssort_len]
  have:=(List.getElem?_eq_some_iff.1 hr).1
  have:=(List.getElem?_eq_some_iff.1 hr').1
  omega
 obtain⟨X,t⟩:=two_of ok h2
 obtain⟨_,h3⟩:=t.leaf r _ i hr rfl
 obtain⟨_,h4⟩:=t.leaf r' _ j hr' rfl
 rw[hu] at h3
 rw[hv] at h4
 have hlt:r'<r:=by
  rcases Nat.lt_or_ge r' r with h|h
  ·exact h
  ·have hs:=List.pairwise_iff_getElem.1 hlv.srt r r' (List.getElem?_eq_some_iff.1 hr).1 (List.getElem?_eq_some_iff.1 hr').1 (by omega)
   rw[(List.getElem?_eq_some_iff.1 hr).2,(List.getElem?_eq_some_iff.1 hr').2] at hs
   have hs:a≤b:=hs
   omega
 have:=lenAt_anti X (show r'≤r by omega)
 have e3:=Option.some.inj h3
 have e4:=Option.some.inj h4
 omega
end Go.Proofs
namespace Go.Proofs
open Go.Sh
def mn:Option Int→Option Int→Option Int
 |none,b=>b
 |some a,none=>some a
 |some a,some b=>some (if b<a then b else a)
def val(n:Nat)(S:Nat→Int):Nat→Nat→Nat→Option Int
 |_,0,_=>some 0
 |_,_+1,0=>none
 |0,f+1,p+1=>val n S 0 f p
 |e+1,f+1,p+1=>mn (val n S (e+1) f p) ((val n S e (f+1) (min (2*(p+1)) n)).map (· +S (f+1)))
 termination_by e f _=>(e,f)
end Go.Proofs
namespace Go.Proofs
open Go.Sh
def ahead(n:Int):List Int→Nat
 |[]=>0
 |x::r=>if x≥n then ahead n r+1 else 0
end Go.Proofs
namespace Go.Proofs
open Go.Sh
def enc:Option Int→Int
 |none=> -1
 |some v=>v
structure Rows(H:Heap)(blk n:Nat)(D:Nat→Prop)(g:Nat→Nat→Int)(N:Nat):Prop where
 ex: ∃cs,H[blk]?=some (.cells cs 55)∧cs.size=n+1∧ ∀i,i≤n→D i→ ∃rb row,cs[i]?=some (.slice (some ⟨rb,0,none⟩) (n+1) (n+1))∧rb<N∧H[rb]?=some (.cells row 3)∧ ∀p,p≤n→row[p]?=some (.int .i64 (g i p))
theorem Rows.keep{H H':Heap}{blk n N:Nat}{D:Nat→Prop}{g:Nat→Nat→Int}(h:Rows H blk n D g N)(hk: ∀(b:Nat) (o:Obj),H[b]?=some o→(b<N∨b=blk)→H'[b]?=some o):Rows H' blk n D g N:=by
 obtain⟨cs,h1,h2,h3⟩:=h.ex
 refine⟨cs,hk _ _ h1 (.inr rfl),h2,fun i hi hd=>?_⟩
 obtain⟨rb,row,a,b,c,d⟩:=h3 i hi hd
 exact⟨rb,row,a,b,hk _ _ c (.inl b),d⟩
theorem Rows.ext{H H':Heap}{blk n N:Nat}{D:Nat→Prop}{g:Nat→Nat→Int}(h:Rows H blk n D g N)(he:Ext H H'):Rows H' blk n D g N:=h.keep fun b o hb _=>he b o hb
theorem Rows.get{H:Heap}{blk n N:Nat}{D:Nat→Prop}{g:Nat→Nat→Int}(h:Rows H blk n D g N){i:Nat}(hi:i≤n)(hd:D i): ∃rb,cell H ⟨blk,i,none⟩=some (.slice (some ⟨rb,0,none⟩) (n+1) (n+1))∧ ∀p,p≤n→cell H ⟨rb,p,none⟩=some (.int .i64 (g i p)):=by
 obtain⟨cs,h1,h2,h3⟩:=h.ex
 obtain⟨rb,row,a,b,c,d⟩:=h3 i hi hd
 exact⟨rb,cell_get h1 a,fun p hp=>cell_get c (d p hp)⟩
theorem Rows.mono{H:Heap}{blk n N N':Nat}{D D':Nat→Prop}{g:Nat→Nat→Int}(h:Rows H blk n D g N)(hN:N≤N')(hD: ∀i,i≤n→D' i→D i):Rows H blk n D' g N':=by
 obtain⟨cs,h1,h2,h3⟩:=h.ex
 refine⟨cs,h1,h2,fun i hi hd=>?_⟩
 obtain⟨rb,row,a,b,c,d⟩:=h3 i hi (hD i hi hd)
 exact⟨rb,row,a,by omega,c,d⟩
theorem Rows.add{H:Heap}{blk n N nb i:Nat}{D:Nat→Prop}{g:Nat→Nat→Int}{vs:List Int}(h:Rows H blk n D g N)(hc:cell H ⟨blk,i,none⟩=some (.slice (some ⟨nb,0,none⟩) (n+1) (n+1)))(hf:FS 0 H (some ⟨nb,0,none⟩) (n+1) (n+1) 3 1 (ints vs))
 (hv: ∀p,p≤n→vs[p]?=some (g i p)):Rows H blk n (fun j=>D j∨j=i) g (max N (nb+1)):=by
 obtain⟨cs,h1,h2,h3⟩:=h.ex
 refine⟨cs,h1,h2,fun j hj hd=>?_⟩
 by_cases hji:j=i
 ·subst hji
  rcases hf.at_ with ⟨h0,_⟩|⟨blk',row,hq,_,hg,hsz,hgt⟩
  ·cases h0
  ·cases hq
   refine⟨nb,row,?_,by omega,hg,fun p hp=>hgt p _ (ints_get (hv p hp))⟩
   rw[cell_block h1] at hc
   exact hc
 ·have hd':D j:=hd.resolve_right hji
  obtain⟨rb,row,a,b,c,d⟩:=h3 j hj hd'
  exact⟨rb,row,a,by omega,c,d⟩
end Go.Proofs
namespace Go.Proofs
open Go.Sh
theorem Rows.ptr{H:Heap}{blk n N i nb:Nat}{D:Nat→Prop}{g:Nat→Nat→Int}{f:Heap→Prop}(h:Rows H blk n D g N)(hi:i≤n)(hD: ¬D i)(hN:N≤blk)
 (hf: ∀H',Rows H' blk n D g N→cell H' ⟨blk,i,none⟩=some (.slice (some ⟨nb,0,none⟩) (n+1) (n+1))→(∀(b:Nat) (o:Obj),H[b]?=some o→b≠blk→H'[b]?=some o)→H'.size=H.size→f H'):
 stAt H ⟨blk,i,none⟩ [Value.slice (some ⟨nb,0,none⟩) (n+1) (n+1)] f:=by
 obtain⟨cs,h1,h2,h3⟩:=h.ex
 refine stAt_one h1 (by omega) rfl ?_
 refine hf _ ⟨_,get_set_self h1,by simpa using h2,fun j hj hd=>?_⟩ ?_ (fun b o hb hn=>get_set_ne (Ne.symm hn) hb) (by simp)
 ·obtain⟨rb,row,a,b,c,d⟩:=h3 j hj hd
  refine⟨rb,row,?_,b,get_set_ne (by omega) c,d⟩
  rw[Array.getElem?_setIfInBounds,if_neg (fun hh=>hD (by rw[hh];exact hd))]
  exact a
 ·refine cell_get (get_set_self h1) ?_
  rw[Array.getElem?_setIfInBounds,if_pos rfl,if_pos (by omega)]
end Go.Proofs
namespace Go.Proofs
open Go.Sh
end Go.Proofs
namespace Go.Proofs
open Go.Sh
end Go.Proofs
namespace Go.Proofs
open Go.Sh
end Go.Proofs
namespace Go.Proofs
open Go.Sh
theorem lv_place{cs:List Int}{LS:List Pk}(lv:Lv cs LS){x:Pk}(hx:x∈LS): ∃k:Nat,sy x=(k:Int)∧cs[k]?=some x.c∧x.c>0∧k<cs.length:=by
 obtain⟨k,h1,h2,h3⟩:=lv.src x hx
 exact⟨k,h3,h1,h2,(List.getElem?_eq_some_iff.1 h1).1⟩
theorem one_of{cs:List Int}{most:Nat}(h1:(leavesM cs).length=1): ∃x k,ssort (leavesM cs)=[x]∧sy x=((k:Nat):Int)∧cs[k]?=some x.c∧x.c>0∧lenM cs most=(List.replicate cs.length 0).set k 1:=by
 obtain⟨x,hx⟩:=List.length_eq_one_iff.1 h1
 have hs:ssort (leavesM cs)=[x]:=by
  have:=ssort_perm (leavesM cs)
  rw[hx] at this ⊢
  exact List.perm_singleton.1 this
 have lv:=lv_of cs
 rw[hs] at lv
 obtain⟨k,e1,e2,e3,e4⟩:=lv_place lv List.mem_cons_self
 refine⟨x,k,hs,e1,e2,e3,?_⟩
 unfold lenM
 rw[if_pos h1,hx]
 have:=lv.one x List.mem_cons_self
 simp only[List.headD_cons,this,e1,Int.toNat_natCast]
theorem lenM_zero{cs:List Int}{most:Int}(ok:OkL cs most){i:Nat}{a u:Int}(ha:cs[i]?=some a)(hu:(lenM cs most.toNat)[i]?=some u):(u=0↔a=0)∧u≤most:=by
 have m1:=ok.m1
 have hil:=(List.getElem?_eq_some_iff.1 ha).1
 have ha0:=(ok.rng a (List.mem_of_getElem? ha)).1
 by_cases h2:2≤(leavesM cs).length
 ·obtain⟨X,t⟩:=two_of ok h2
  by_cases hp:a>0
  ·obtain⟨r,hr⟩:=t.lv.has i a ha hp
   obtain⟨_,h3⟩:=t.leaf r _ i hr rfl
   rw[hu] at h3;cases h3
   have:=t.pos r (List.getElem?_eq_some_iff.1 hr).1
   omega
  ·have:=t.none i hil fun x hx hs=>by
    obtain⟨k,e1,e2,e3,_⟩:=lv_place t.lv hx
    have e:k=i:=by omega
    rw[e,ha] at e2;cases e2;omega
   rw[hu] at this;cases this;omega
 ·by_cases h1:(leavesM cs).length=1
  ·obtain⟨x,k,hs,e1,e2,e3,e4⟩:=one_of (most:=most.toNat) h1
   rw[e4,List.getElem?_set] at hu
   by_cases hk:k=i
   ·subst hk
    rw[if_pos rfl,if_pos (by simpa using hil)] at hu
    rw[ha] at e2;cases e2;cases hu;omega
   ·rw[if_neg hk,List.getElem?_replicate,if_pos hil] at hu
    cases hu
    by_cases hp:a>0
    ·obtain⟨r,hr⟩:=(lv_of cs).has i a ha hp
     rw[hs] at hr
     have:r=0:=by have:=(List.getElem?_eq_some_iff.1 hr).1;simp at this;omega
     subst this
     simp at hr
     rw[hr] at e1
     simp[sy] at e1
     omega
    ·omega
  ·have h0:(leavesM cs).length=0:=by omega
   have e:lenM cs most.toNat=List.replicate cs.length 0:=by
    unfold lenM;rw[if_neg h1,h0];simp
   rw[e,List.getElem?_replicate,if_pos hil] at hu
   cases hu
   by_cases hp:a>0
   ·obtain⟨r,hr⟩:=(lv_of cs).has i a ha hp
    have:=(List.getElem?_eq_some_iff.1 hr).1
    rw[ssort_len] at this;omega
   ·omega
end Go.Proofs
namespace Go.Proofs
open Go.Sh
variable {H0 H:Heap} {σ:List Rs} {R:Value→Heap→Prop}
def dblL(cs:List Int):List Int:=cs.map (fun x=>x*2)++[1]
def lenC(cs:List Int):List Int:=lenM (dblL cs) 16
def lsC(cs:List Int):List Int:=(lenC cs).take 256
def mC(cs:List Int):Int:=(lenC cs).getD 256 0
structure CntOk(cs:List Int):Prop where
 len:cs.length=256
 rng: ∀x∈cs,0≤x∧x≤1000000000
theorem dbl_ok{cs:List Int}(h:CntOk cs):OkL (dblL cs) 16 where
 m1:=by decide
 m2:=by decide
 len:=by unfold dblL;rw[List.length_append,List.length_map,h.len];decide
 rng n hn:=by
  unfold dblL at hn
  rcases List.mem_append.1 hn with hn|hn
  ·obtain⟨x,hx,rfl⟩:=List.mem_map.1 hn
   have:=h.rng x hx;omega
  ·rw[List.mem_singleton.1 hn];decide
 few:=by
  have h1:=leavesFrom_len 0 (dblL cs)
  have h2:(dblL cs).length=257:=by unfold dblL;rw[List.length_append,List.length_map,h.len];rfl
  unfold leavesM
  rw[h2] at h1
  exact Nat.le_trans h1 (by decide)
theorem dbl_get{cs:List Int}(h:CntOk cs){i:Nat}(hi:i<256):(dblL cs)[i]?=some (cs.getD i 0*2):=by
 unfold dblL
 rw[List.getElem?_append_left (by rw[List.length_map,h.len];exact hi),List.getElem?_map,get_gD cs 0 (by rw[h.len];exact hi)];rfl
theorem dbl_last{cs:List Int}(h:CntOk cs):(dblL cs)[256]?=some 1:=by
 unfold dblL
 rw[List.getElem?_append_right (by rw[List.length_map,h.len];exact Nat.le_refl _),List.length_map,h.len];rfl
theorem lenC_len{cs:List Int}(h:CntOk cs):(lenC cs).length=257:=by
 have:=(lenM_ok (dbl_ok h)).2
 unfold lenC
 rw[show(16:Nat)=(16:Int).toNat from rfl,this]
 unfold dblL;rw[List.length_append,List.length_map,h.len];rfl
theorem lenC_okC{cs:List Int}(h:CntOk cs):OkC (lenC cs):=(lenM_ok (dbl_ok h)).1
theorem lenC_split{cs:List Int}(h:CntOk cs):lenC cs=lsC cs++[mC cs]:=by
 unfold lsC mC
 conv=>lhs;rw[←List.take_append_drop 256 (lenC cs)]
 congr 1
 rw[List.drop_eq_getElem_cons (by rw[lenC_len h];decide),List.drop_eq_nil_of_le (by rw[lenC_len h];decide)]
 congr 1
 exact(gD_get (List.getElem?_eq_getElem _)).symm
theorem lsC_get{cs:List Int}{i:Nat}(hi:i<256):(lsC cs).getD i 0=(lenC cs).getD i 0:=by
 unfold lsC
 rw[List.getD_eq_getElem?_getD,List.getElem?_take,if_pos hi,←List.getD_eq_getElem?_getD]
theorem lsC_zero{cs:List Int}(h:CntOk cs){i:Nat}(hi:i<256):(lsC cs).getD i 0=0↔cs.getD i 0=0:=by
 rw[lsC_get hi]
 have h1:=(lenM_zero (dbl_ok h) (dbl_get h hi) (get_gD (lenC cs) 0 (by rw[lenC_len h];omega))).1
 rw[h1];omega
theorem mC_le{cs:List Int}(h:CntOk cs){i:Nat}(hi:i<256):(lenC cs).getD i 0≤mC cs:=by
 have hg:=get_gD (lenC cs) 0 (i:=i) (by rw[lenC_len h];omega)
 have hm:=get_gD (lenC cs) 0 (i:=256) (by rw[lenC_len h];omega)
 have hr:=(lenC_okC h).w.rng _ (List.mem_of_getElem? hm)
 have hc:=h.rng _ (List.mem_of_getElem? (get_gD cs 0 (i:=i) (by rw[h.len];exact hi)))
 by_cases h0:cs.getD i 0=0
 ·have:=(lsC_zero h hi).2 h0
  rw[lsC_get hi] at this
  rw[this];exact hr.1
 ·exact lenM_order (dbl_ok h) (dbl_get h hi) (dbl_last h) (by omega) (by decide) hg hm
theorem lsC_len{cs:List Int}(h:CntOk cs):(lsC cs).length=256:=by unfold lsC;rw[List.length_take,lenC_len h];decide
theorem codeC_ok{cs:List Int}(h:CntOk cs):CodeOk (lsC cs) (mC cs):=by
 refine⟨lsC_len h,by rw[←lenC_split h];exact lenC_okC h,fun x hx=>?_⟩
 obtain⟨i,hi⟩:=List.getElem?_of_mem hx
 have hil:=(List.getElem?_eq_some_iff.1 hi).1
 rw[lsC_len h] at hil
 rw[←gD_get (d:=0) hi,lsC_get hil]
 exact mC_le h hil
def cntP(ls:List Int)(n s:Nat):List Int:=(List.range 16).map fun j=>if j+1<n then(rank ls ls.length (j+1):Int) else if j+1=n then(rank ls s n:Int) else 0
theorem cntP_len(ls:List Int)(n s:Nat):(cntP ls n s).length=16:=tab_len _ _
theorem cntP_get{ls:List Int}{n s j:Nat}(hj:j<16):(cntP ls n s)[j]?=some (if j+1<n then(rank ls ls.length (j+1):Int) else if j+1=n then(rank ls s n:Int) else 0):=tab_get hj
theorem cntP_first(ls:List Int):cntP ls 1 0=List.replicate 16 0:=by
 refine list_ext_getD (n:=16) (cntP_len _ _ _) (by simp) fun j hj=>?_
 rw[gD_get (cntP_get hj),if_neg (by omega)]
 have:(List.replicate 16 (0:Int)).getD j 0=0:=by rw[List.getD_eq_getElem?_getD,List.getElem?_replicate];split<;>rfl
 rw[this]
 split<;>simp[rank]
theorem cntP_next(ls:List Int)(n:Nat):cntP ls n ls.length=cntP ls (n+1) 0:=by
 refine list_ext_getD (n:=16) (cntP_len _ _ _) (cntP_len _ _ _) fun j hj=>?_
 rw[gD_get (cntP_get hj),gD_get (cntP_get hj)]
 by_cases h1:j+1<n
 ·rw[if_pos h1,if_pos (by omega)]
 ·rw[if_neg h1]
  by_cases h2:j+1=n
  ·rw[if_pos h2,if_pos (by omega),h2]
  ·rw[if_neg h2,if_neg (by omega)]
   split<;>simp[rank]
theorem cntP_last(ls:List Int):cntP ls 17 0=cntsL ls:=by
 refine list_ext_getD (n:=16) (cntP_len _ _ _) (cntsL_len _) fun j hj=>?_
 rw[gD_get (cntP_get hj),if_pos (by omega)]
 exact(tab_getD (f:=fun n=>(rank ls ls.length (n+1):Int)) hj).symm
theorem cntP_set{ls:List Int}{n s:Nat}(hn:1≤n∧n≤16)(hs:ls[s]?=some (n:Int)):(cntP ls n s).set (n-1) ((rank ls s n:Int)+1)=cntP ls n (s+1):=by
 refine list_ext_getD (n:=16) (by rw[List.length_set,cntP_len]) (cntP_len _ _ _) fun j hj=>?_
 rw[getD_set_ite _ _ _ _ _ (by rw[cntP_len];omega),gD_get (cntP_get hj),gD_get (cntP_get hj)]
 by_cases h1:n-1=j
 ·rw[if_pos h1,if_neg (by omega),if_pos (by omega),rank_snoc hs,if_pos rfl];omega
 ·rw[if_neg h1]
  by_cases h2:j+1<n
  ·rw[if_pos h2,if_pos h2]
  ·rw[if_neg h2,if_neg h2,if_neg (by omega),if_neg (by omega)]
theorem cntP_skip{ls:List Int}{n s:Nat}{v:Int}(hs:ls[s]?=some v)(hv:v≠(n:Int)):cntP ls n s=cntP ls n (s+1):=by
 refine list_ext_getD (n:=16) (cntP_len _ _ _) (cntP_len _ _ _) fun j hj=>?_
 rw[gD_get (cntP_get hj),gD_get (cntP_get hj),rank_snoc hs,if_neg hv]
 simp only[Nat.add_zero]
theorem rank_all(ls:List Int)(s n:Nat):rank ls s n≤rank ls ls.length n:=by
 unfold rank
 rw[List.take_of_length_le (Nat.le_refl _)]
 exact(List.take_sublist s ls).countP_le
def dataP(ls:List Int)(n s:Nat):List Int:=cntP ls n s++(srtS ls (n-1)++fltK ls n s)
set_option maxHeartbeats 4000000 in
theorem c19{cb c:Nat}{cs:List Int}(hs:St H0 H (.sl (some ⟨cb,0,none⟩) 256 c 3 1 (ints cs)::σ))(hc:CntOk cs)(hfew: ∀n,1≤n→rank (lsC cs) 256 n≤255)
 (hR: ∀H' q m b1 c1 b2 c2,257≤c1→257≤c2→St H0 H' (.sl q (dataM (lsC cs)).length m 5 1 (kints .u8 (dataM (lsC cs))):: .sl (some ⟨b1,0,none⟩) 257 c1 3 1 (ints (lenC cs)):: .sl (some ⟨b2,0,none⟩) 257 c2 3 1 (ints (codesM (lenC cs)))::σ)→
  R (.tuple #[.slice q (dataM (lsC cs)).length m,.slice (some ⟨b1,0,none⟩) 256 c1,.slice (some ⟨b2,0,none⟩) 256 c2]) H'):
 CallsH Tryz.prog 19 #[.slice (some ⟨cb,0,none⟩) 256 c] H R:=by
 have hcl:=hc.len
 have hLl:=lenC_len hc
 have hok:=codeC_ok hc
 have hll:=lsC_len hc
 refine Tryz.s19 ?_
 unfold Tryz.S19
 intro X hX
 have dbl: ∀i,i≤256→ ∀H1,St H0 H1 (.sl (some ⟨cb,0,none⟩) 256 c 3 1 (ints ((cs.take i).map (fun x=>x*2)++cs.drop i))::σ)→X [.int .i64 (i:Nat)] H1:=upto fun i hi ih H1 hs1=>by
  refine hX _ H1 (br_dec (fun hlt=>?_) (fun hge=>?_))
  ·have hlt:i<256:=by omega
   have hg:=get_gD cs 0 (i:=i) (by omega)
   have hr:=hc.rng _ (List.mem_of_getElem? hg)
   have hml:((cs.take i).map (fun x=>x*2)).length=i:=by rw[List.length_map,List.length_take];omega
   have hgi:((cs.take i).map (fun x=>x*2)++cs.drop i)[i]?=some (cs.getD i 0):=by
    rw[List.getElem?_append_right (by omega),hml,Nat.sub_self,List.getElem?_drop,Nat.add_zero];exact hg
   refine(hs1.is 0 rfl).rd (ls:=(cs.take i).map (fun x=>x*2)++cs.drop i) (by omega) (by omega) (by rw[Int.toNat_natCast];exact hgi) ⟨_,rfl,by omega,by omega,?_⟩
   rw[add_none,Nat.zero_add,Int.toNat_natCast,Nat.mul_one,wrap_id (n:=cs.getD i 0*2) (by omega) (by omega),w1 (by omega)]
   refine hs1.slPut 0 rfl (by rw[ints_len,List.length_append,hml,List.length_drop];omega) rfl fun H2 hs2=>ih hlt H2 ?_
   have e:((cs.take i).map (fun x=>x*2)++cs.drop i).set i (cs.getD i 0*2)=(cs.take (i+1)).map (fun x=>x*2)++cs.drop (i+1):=by
    rw[List.set_append_right _ _ (by omega),hml,Nat.sub_self,List.drop_eq_getElem_cons (by omega),List.set_cons_zero,List.take_add_one,hg,List.map_append,List.append_assoc];rfl
   rw[ints_set,e] at hs2
   exact hs2
  ·have:i=256:=by omega
   subst this
   rw[List.take_of_length_le (by omega),List.drop_eq_nil_of_le (by omega),List.append_nil] at hs1
   have hdl:(cs.map (fun x=>x*2)).length=256:=by rw[List.length_map];exact hcl
   refine c51 (xs:=cs.map (fun x=>x*2)) (hs1.is 0 rfl) (by omega) fun q1 m1 H2 hs2=>⟨_,_,_,rfl,?_⟩
   have hs2:=hs1.call hs2
   refine hs2.alc fun b12 H3 hs3=>hs3.appC 1 0 rfl rfl rfl (fun v hv=>by rw[List.mem_singleton.1 hv];rfl) (by decide) rfl (by omega) (by omega) fun p' c' H4 hs4=>?_
   have hs4:=hs4.tail
   have e:kints .i64 (cs.map (fun x=>x*2))++[Value.int .i64 1]=ints (dblL cs):=by
    unfold dblL;rw[ints_append];rfl
   simp only[List.set_cons_zero,List.set_cons_succ] at hs4
   have hs4:St H0 H4 (.sl p' (256+1) c' 3 1 (ints (dblL cs)):: .sl (some ⟨cb,0,none⟩) 256 c 3 1 (ints (cs.map (fun x=>x*2)))::σ):=by rw[←e];exact hs4
   refine c50 (hs4.is 0 rfl) (by omega) (fun H5 e5 hno=>absurd (dbl_ok hc) hno) (fun _ H5 b5 f5 e5=>⟨_,_,_,_,rfl,by decide,by decide,?_⟩)
   have hs5:=hs4.newSl e5 f5
   have hs5:St H0 H5 (.sl (some ⟨b5,0,none⟩) 257 257 3 1 (ints (lenC cs)):: .sl (some ⟨cb,0,none⟩) 256 c 3 1 (ints (cs.map (fun x=>x*2)))::σ):=hs5.del 1
   clear hs1 hs2 hs3 hs4
   intro Y hY
   have eif:(if 256+1=0 then(some ⟨b5,0,none⟩:Option Addr) else Option.map (fun x=>Addr.add x (0*1)) (some ⟨b5,0,none⟩))=some ⟨b5,0,none⟩:=rfl
   have hm:=get_gD (lenC cs) 0 (i:=256) (by omega)
   have hmr:=(lenC_okC hc).w.rng _ (List.mem_of_getElem? hm)
   have look: ∀i,i≤256→ ∀lo:Int,0≤lo∧lo≤mC cs→Y [.int .i64 lo,.int .i64 (i:Nat)] H5:=upto fun i hi ih lo hlo=>by
    refine hY _ _ H5 (br_dec (fun hlt=>?_) (fun hge=>?_))
    ·have hlt:i<256:=by
      have:(i:Int)<((256-0:Nat):Int):=hlt
      omega
     intro J hJ
     have nx: ∀lo':Int,0≤lo'∧lo'≤mC cs→J [.int .i64 lo'] H5:=fun lo' h'=>hJ _ H5 (by rw[w1 (by omega)];exact ih hlt lo' h')
     have hgl:=get_gD (lenC cs) 0 (i:=i) (by omega)
     have hlr:=(lenC_okC hc).w.rng _ (List.mem_of_getElem? hgl)
     have hle:=mC_le hc hlt
     have hg2:(cs.map (fun x=>x*2))[i]?=some (cs.getD i 0*2):=by rw[List.getElem?_map,get_gD cs 0 (by omega)];rfl
     rw[eif]
     refine⟨_,rfl,by omega,by show(i:Int)<((256-0:Nat):Int);omega,(lenC cs).getD i 0,?_,?_⟩
     ·obtain⟨a,ha,hcell⟩:=(hs5.is 0 rfl).cell (ints_get hgl)
      cases ha;rw[Int.toNat_natCast,Nat.mul_one];exact hcell
     refine(hs5.is 1 rfl).rd (ls:=cs.map (fun x=>x*2)) (by omega) (by omega) (by rw[Int.toNat_natCast];exact hg2) ?_
     refine br_dec (fun hp=>(hs5.is 0 rfl).rd (ls:=lenC cs) (i:=256) (by decide) (by decide) hm (br_dec (fun hge=>?_) (fun hlt2=>nx lo hlo))) (fun hp=>nx lo hlo)
     exact nx _ (by omega)
    ·have:i=256:=by
      have: ¬(i:Int)<((256-0:Nat):Int):=hge
      omega
     subst this
     refine(hs5.is 0 rfl).rd (ls:=lenC cs) (i:=256) (by decide) (by decide) hm ⟨_,rfl,by decide,by decide,?_⟩
     have hmax:max ((lenC cs).getD 256 0) lo=(lenC cs).getD 256 0:=by
      have:mC cs=(lenC cs).getD 256 0:=rfl
      omega
     rw[hmax]
     refine hs5.slPut 0 (j:=256) rfl (by rw[ints_len];omega) rfl fun H6 hs6=>?_
     have eset:(lenC cs).set 256 ((lenC cs).getD 256 0)=lenC cs:=by
      refine list_ext_getD (n:=257) (by rw[List.length_set];exact hLl) hLl fun j hj=>?_
      rw[getD_set_ite _ _ _ _ _ (by omega)];split
      ·rename_i h;rw[h]
      ·rfl
     rw[ints_set,eset] at hs6
     have hs6:St H0 H6 (.sl (some ⟨b5,0,none⟩) 257 257 3 1 (ints (lenC cs)):: .sl (some ⟨cb,0,none⟩) 256 c 3 1 (ints (cs.map (fun x=>x*2)))::σ):=hs6
     refine c52 (ls:=lenC cs) (hs6.is 0 rfl) (fun hno=>absurd (lenC_okC hc) hno) (fun _ H7 b7 f7 e7=>⟨_,_,_,_,rfl,by decide,by decide,by decide,by decide,by decide,by decide,by decide,by decide,?_⟩)
     have hs7:=(hs6.newSl e7 f7).del 2
     refine hs7.alc fun b41 H8 hs8=>?_
     have er:(reps (Int.toNat 16) (Array.toList #[Value.int .u8 0])).toArray=(kints .u8 (List.replicate 16 0)).toArray:=rfl
     rw[er] at hs8
     have hs8:=hs8.toSl 0 (l:=16) (k:=1) rfl (by rw[List.size_toArray,kints_len,List.length_replicate]) rfl (fun v hv=>kints_one _ _ v hv)
     have hs8:St H0 H8 (.sl (some ⟨b41,0,none⟩) 16 16 5 1 (kints .u8 (List.replicate 16 0)):: .sl (some ⟨b5,0,none⟩) 257 257 3 1 (ints (lenC cs)):: .sl (some ⟨b7,0,none⟩) 257 257 3 1 (ints (codesM (lenC cs)))::σ):=hs8.perm (List.Perm.cons _ (List.Perm.swap _ _ _))
     generalize hlsv:lsC cs=ls at*
     have hlc: ∀i,i<256→(lenC cs)[i]?=some (ls.getD i 0):=fun i hi=>by
      rw[←hlsv,lsC_get hi];exact get_gD (lenC cs) 0 (by omega)
     have hrng:=hok.rng
     intro V hV
     have outer: ∀d n,d+n=17→1≤n→ ∀dp dc H9,St H0 H9 (.sl dp (dataP ls n 0).length dc 5 1 (kints .u8 (dataP ls n 0)):: .sl (some ⟨b5,0,none⟩) 257 257 3 1 (ints (lenC cs)):: .sl (some ⟨b7,0,none⟩) 257 257 3 1 (ints (codesM (lenC cs)))::σ)→V [.slice dp (dataP ls n 0).length dc,.int .i64 (n:Nat)] H9:=by
      intro d
      induction d with
      |zero=>
       intro n hn h1 dp dc H9 hs9
       have:n=17:=by omega
       subst this
       have e:dataP ls 17 0=dataM ls:=by
        unfold dataP dataM
        rw[cntP_last,show fltK ls 17 0=[] from rfl,List.append_nil]
       rw[e] at hs9 ⊢
       exact hV _ _ _ _ H9 (br_n (by omega) (hR H9 dp dc b5 257 b7 257 (by omega) (by omega) hs9))
      |succ d ihd=>
       intro n hn h1 dp dc H9 hs9
       refine hV _ _ _ _ H9 (br_y (by omega) ?_)
       have wn:IntKind.wrap .i64 ((n:Int)-1)=((n-1:Nat):Int):=by rw[wrap_id (by omega) (by omega)];omega
       rw[wn,w1 (by omega)]
       intro U hU
       have inner: ∀s,s≤256→ ∀dp dc H10,St H0 H10 (.sl dp (dataP ls n s).length dc 5 1 (kints .u8 (dataP ls n s)):: .sl (some ⟨b5,0,none⟩) 257 257 3 1 (ints (lenC cs)):: .sl (some ⟨b7,0,none⟩) 257 257 3 1 (ints (codesM (lenC cs)))::σ)→U [.slice dp (dataP ls n s).length dc,.int .i64 (s:Nat)] H10:=upto fun s hsl ihs dp dc H10 hs10=>by
        refine hU _ _ _ _ H10 (br_dec (fun hlt=>?_) (fun hge=>?_))
        ·have hlt:s<256:=by
          have:(s:Int)<((256-0:Nat):Int):=hlt
          omega
         have hgs:=get_gD ls 0 (i:=s) (by omega)
         rw[eif]
         refine⟨_,rfl,by omega,by show(s:Int)<((256-0:Nat):Int);omega,ls.getD s 0,?_,?_⟩
         ·obtain⟨a,ha,hcell⟩:=(hs10.is 1 rfl).cell (ints_get (hlc s hlt))
          cases ha;rw[Int.toNat_natCast,Nat.mul_one];exact hcell
         rw[w1 (by omega)]
         refine br_eq (fun heq=>?_) (fun hne=>?_)
         ·have hdl:16≤(dataP ls n s).length∧(dataP ls n s).length≤1000:=by
           have a1:=srtL_len ls (n-1)
           have a2:=lsum_le (ls:=ls) (n-1) ls.length (Nat.le_refl _)
           have a3:=srt_len ls (n-1)
           have a4:=rank_le ls s n
           unfold dataP
           rw[List.length_append,List.length_append,cntP_len,fltK_len (by omega)];omega
          have hc0:(dataP ls n s)[n-1]?=some (rank ls s n:Int):=by
           unfold dataP
           rw[List.getElem?_append_left (by rw[cntP_len];omega),cntP_get (by omega),if_neg (by omega),if_pos (by omega)]
          have hrk:rank ls s n+1≤255:=by
           have h1:=rank_snoc hgs n
           rw[if_pos heq] at h1
           have h2:=rank_all ls (s+1) n
           have h3:=hfew n (by omega)
           rw[←hll] at h3;omega
          obtain⟨bd,rfl⟩:=hs10.slSome 0 rfl (j:=n-1) (by rw[kints_len];omega)
          refine(hs10.is 0 rfl).rd (ls:=dataP ls n s) (by omega) (by omega) (by rw[Int.toNat_natCast];exact hc0) ⟨_,rfl,by omega,by omega,?_⟩
          rw[add_none,Nat.zero_add,Int.toNat_natCast,Nat.mul_one,wr8 (x:=(rank ls s n:Int)+1) (by omega),wr8 (x:=(s:Int)) (by omega)]
          refine hs10.slPut 0 rfl (by rw[kints_len];omega) rfl fun H11 hs11=>?_
          rw[kints_set] at hs11
          refine hs11.alc fun b57 H12 hs12=>hs12.appC 1 0 rfl rfl rfl (fun v hv=>by rw[List.mem_singleton.1 hv];rfl) (by decide) rfl (by omega) (by omega) fun p' c' H13 hs13=>?_
          have hs13:=hs13.tail
          have e:(dataP ls n s).set (n-1) ((rank ls s n:Int)+1)++[(s:Int)]=dataP ls n (s+1):=by
           unfold dataP
           rw[List.set_append_left _ _ (by rw[cntP_len];omega),cntP_set (by omega) (by rw[hgs,heq]),fltK_succ,if_pos heq]
           simp only[List.append_assoc]
          have e':(dataP ls n s).length+1=(dataP ls n (s+1)).length:=by rw[←e];simp
          simp only[List.set_cons_zero,List.set_cons_succ] at hs13
          have hs13:St H0 H13 (.sl p' ((dataP ls n s).length+1) c' 5 1 (kints .u8 (dataP ls n (s+1))):: .sl (some ⟨b5,0,none⟩) 257 257 3 1 (ints (lenC cs)):: .sl (some ⟨b7,0,none⟩) 257 257 3 1 (ints (codesM (lenC cs)))::σ):=by
           rw[←e,kints_append];exact hs13
          rw[e'] at hs13 ⊢
          exact ihs hlt p' c' H13 hs13
         ·have e:dataP ls n s=dataP ls n (s+1):=by
           unfold dataP
           rw[cntP_skip hgs hne,fltK_succ,if_neg hne,List.append_nil]
          rw[e] at hs10 ⊢
          exact ihs hlt dp dc H10 hs10
        ·have:s=256:=by
          have: ¬(s:Int)<((256-0:Nat):Int):=hge
          omega
         subst this
         have e:dataP ls n 256=dataP ls (n+1) 0:=by
          unfold dataP
          rw[←hll,cntP_next,show fltK ls (n+1) 0=[] from rfl,List.append_nil,Nat.add_sub_cancel]
          have:=srtS_succ ls (n-1)
          rw[show n-1+1=n by omega] at this
          rw[this]
         rw[e] at hs10 ⊢
         exact ihd (n+1) (by omega) (by omega) dp dc H10 hs10
       exact inner 0 (by omega) dp dc H9 hs9
     have e1:dataP ls 1 0=List.replicate 16 0:=by
      unfold dataP
      rw[cntP_first];rfl
     refine outer 16 1 (by omega) (by omega) (some ⟨b41,0,none⟩) 16 H8 ?_
     rw[e1,List.length_replicate]
     exact hs8
   exact look 0 (by omega) 0 (by have:mC cs=(lenC cs).getD 256 0:=rfl;omega)
 exact dbl 0 (by omega) H (by rw[List.take_zero,List.drop_zero];exact hs)
end Go.Proofs
namespace Go.Proofs
open Go.Sh
def cntS(l:List Itm)(t:Nat):List Int:=(List.range 256).map fun(s:Nat)=>((l.countP fun x=>x.t==t&&x.s==(s:Int):Nat):Int)
theorem cntS_len(l:List Itm)(t:Nat):(cntS l t).length=256:=tab_len _ _
theorem cntS_get{l:List Itm}{t s:Nat}(hs:s<256):(cntS l t)[s]?=some ((l.countP fun x=>x.t==t&&x.s==(s:Int):Nat):Int):=tab_get hs
theorem cntS_snoc(l:List Itm)(x:Itm)(t:Nat)(hx:0≤x.s∧x.s<256):cntS (l++[x]) t=if t=x.t then(cntS l t).set x.s.toNat ((cntS l t).getD x.s.toNat 0+1) else cntS l t:=by
 have step: ∀s,s<256→(cntS (l++[x]) t).getD s 0=(cntS l t).getD s 0+if t=x.t∧s=x.s.toNat then 1 else 0:=fun s hs=>by
  rw[gD_get (cntS_get hs),gD_get (cntS_get hs),List.countP_append]
  have:(List.countP (fun x=>x.t==t&&x.s==(s:Int)) [x])=if t=x.t∧s=x.s.toNat then 1 else 0:=by
   rw[List.countP_cons,List.countP_nil,Nat.zero_add]
   by_cases h:t=x.t∧s=x.s.toNat
   ·rw[if_pos h,if_pos]
    rw[Bool.and_eq_true,beq_iff_eq,beq_iff_eq];omega
   ·rw[if_neg h,if_neg]
    rw[Bool.and_eq_true,beq_iff_eq,beq_iff_eq];omega
  rw[this]
  split<;>omega
 split
 ·rename_i ht
  refine list_ext_getD (n:=256) (cntS_len _ _) (by rw[List.length_set,cntS_len]) fun j hj=>?_
  rw[step j hj,getD_set_ite _ _ _ _ _ (by rw[cntS_len];omega)]
  by_cases h:x.s.toNat=j
  ·subst h;rw[if_pos ⟨ht,rfl⟩,if_pos rfl]
  ·rw[if_neg (fun hh=>h hh.2.symm),if_neg h];omega
 ·rename_i ht
  refine list_ext_getD (n:=256) (cntS_len _ _) (cntS_len _ _) fun j hj=>?_
  rw[step j hj,if_neg (fun hh=>ht hh.1)];omega
theorem cntS_ok{l:List Itm}(h:l.length≤1000000000)(t:Nat):CntOk (cntS l t):=by
 refine⟨cntS_len _ _,fun x hx=>?_⟩
 obtain⟨s,hs,rfl⟩:=List.mem_map.1 hx
 have:l.countP (fun x=>x.t==t&&x.s==(s:Int))≤l.length:=List.countP_le_length
 omega
theorem cntS_pos{l:List Itm}{x:Itm}(hx:x∈l)(hs:0≤x.s∧x.s<256):0<(cntS l x.t).getD x.s.toNat 0:=by
 rw[gD_get (cntS_get (by omega))]
 have:0<l.countP (fun y=>y.t==x.t&&y.s==((x.s.toNat:Nat):Int)):=List.countP_pos_iff.2 ⟨x,hx,by rw[Bool.and_eq_true,beq_iff_eq,beq_iff_eq];omega⟩
 omega
theorem cntS_has{l:List Itm}{t s:Nat}(hs:s<256)(h:(cntS l t).getD s 0≠0): ∃x∈l,x.t=t∧x.s=(s:Int):=by
 rw[gD_get (cntS_get hs)] at h
 obtain⟨x,hx,hp⟩:=List.countP_pos_iff.1 (show 0<l.countP (fun y=>y.t==t&&y.s==(s:Int)) by omega)
 rw[Bool.and_eq_true,beq_iff_eq,beq_iff_eq] at hp
 exact⟨x,hx,hp⟩
def SymOk(x:Itm):Prop:=x.t<4∧0≤x.s∧x.s<256∧x.s%16≤11∧0≤x.v∧x.v<2^x.n∧x.n≤11
theorem acI_sym{t:Nat}{b:List Int}(ht:t≤1)(hb: ∀k,1≤k→k<64→((b.getD (zig k) 0).natAbs:Int)<1024): ∀(m k z:Nat),64-k≤m→1≤k→ ∀x∈acI t b k z,SymOk x:=by
 intro m
 have h0:SymOk ⟨t+2,0,0,0⟩:=⟨show t+2<4 by omega,show(0:Int)≤0 by decide,show(0:Int)<256 by decide,show(0:Int)%16≤11 by decide,show(0:Int)≤0 by decide,show(0:Int)<2^0 by decide,show 0≤11 by decide⟩
 have h240:SymOk ⟨t+2,240,0,0⟩:=⟨show t+2<4 by omega,show(0:Int)≤240 by decide,show(240:Int)<256 by decide,show(240:Int)%16≤11 by decide,show(0:Int)≤0 by decide,show(0:Int)<2^0 by decide,show 0≤11 by decide⟩
 induction m with
 |zero=>
  intro k z hm hk x hx
  rw[acI,if_neg (by omega)] at hx
  split at hx
  ·rw[List.mem_singleton.1 hx];exact h0
  ·cases hx
 |succ m ih=>
  intro k z hm hk x hx
  rw[acI] at hx
  split at hx
  ·rename_i hk64
   split at hx
   ·exact ih _ _ (by omega) (by omega) x hx
   ·rename_i hv0
    rcases List.mem_append.1 hx with h|h
    ·rw[(List.mem_replicate.1 h).2];exact h240
    ·rcases List.mem_cons.1 h with h|h
     ·subst h
      have hs:sizeM (b.getD (zig k) 0)≤10:=size_le (by have:=hb k hk hk64;simpa using this)
      obtain⟨s1,_,_⟩:=size_pow hv0
      obtain⟨_,b1,b2⟩:=sign_bits (b.getD (zig k) 0)
      refine⟨by show t+2<4;omega,?_,?_,?_,b1,b2,by show sizeM _≤11;omega⟩
      ·show(0:Int)≤((16*(z%16)+sizeM (b.getD (zig k) 0):Nat):Int);omega
      ·show((16*(z%16)+sizeM (b.getD (zig k) 0):Nat):Int)<256;omega
      ·show((16*(z%16)+sizeM (b.getD (zig k) 0):Nat):Int)%16≤11;omega
     ·exact ih _ _ (by omega) (by omega) x h
  ·split at hx
   ·rw[List.mem_singleton.1 hx];exact h0
   ·cases hx
theorem items_sym: ∀(O:List (Nat×Nat×Nat)) (bl:List (List Int)) (la:List Int),(∀b∈bl,WBlk b)→la.length=3→(∀j,j<3→ -1024≤la.getD j 0∧la.getD j 0<1024)→(∀u∈O,u.1<3)→ ∀x∈itemsM O bl la,SymOk x
 |[],bl,la,_,_,_,_,x,hx=>by simp[itemsM] at hx
 |u::O,[],la,_,_,_,_,x,hx=>by simp[itemsM] at hx
 |u::O,b::bl,la,hw,hl,hlr,hu,x,hx=>by
  rw[itemsM] at hx
  have hwb:=hw b (List.mem_cons_self ..)
  have hu3:=hu u (List.mem_cons_self ..)
  have hlu:=hlr u.1 hu3
  rcases List.mem_append.1 hx with h|h
  ·unfold blkI at h
   rcases List.mem_cons.1 h with h|h
   ·subst h
    have hdc:=hwb.dc
    have hs:sizeM (b.getD 0 0-la.getD u.1 0)≤11:=size_le (by rw[show(2:Int)^11=2048 by decide];omega)
    obtain⟨_,b1,b2⟩:=sign_bits (b.getD 0 0-la.getD u.1 0)
    refine⟨by show min u.1 1<4;omega,?_,?_,?_,b1,b2,hs⟩
    ·show(0:Int)≤((sizeM (b.getD 0 0-la.getD u.1 0):Nat):Int);omega
    ·show((sizeM (b.getD 0 0-la.getD u.1 0):Nat):Int)<256;omega
    ·show((sizeM (b.getD 0 0-la.getD u.1 0):Nat):Int)%16≤11;omega
   ·exact acI_sym (by omega) hwb.ac 64 1 0 (by omega) (by omega) x h
  ·refine items_sym O bl (la.set u.1 (b.getD 0 0)) (fun y hy=>hw y (List.mem_cons_of_mem _ hy)) (by rw[List.length_set];exact hl) (fun j hj=>?_) (fun y hy=>hu y (List.mem_cons_of_mem _ hy)) x h
   rw[getD_set_ite _ _ _ _ _ (by omega)];split
   ·exact hwb.dc
   ·exact hlr j hj
def gCnt:Nat→Nat
 |0=>0
 |k+1=>gCnt k+if k%16≤11 then 1 else 0
theorem few_sym{l:List Itm}(hl:l.length≤1000000000)(h: ∀x∈l,SymOk x)(t n:Nat)(hn:1≤n):rank (lsC (cntS l t)) 256 n≤255:=by
 have hc:=cntS_ok hl t
 have hll:=lsC_len hc
 have: ∀k,k≤256→rank (lsC (cntS l t)) k n≤gCnt k:=by
  intro k
  induction k with
  |zero=>intro _;simp[rank,gCnt]
  |succ k ih=>
   intro hk
   have ih:=ih (by omega)
   have hg:=get_gD (lsC (cntS l t)) 0 (i:=k) (by omega)
   rw[rank_snoc hg,gCnt]
   split
   ·rename_i hv
    have h0:(cntS l t).getD k 0≠0:=fun h0=>by
     have:=(lsC_zero hc (i:=k) (by omega)).2 h0
     omega
    obtain⟨x,hx,_,hxs⟩:=cntS_has (by omega) h0
    have:=(h x hx).2.2.2.1
    rw[if_pos (by omega)];omega
   ·split<;>omega
 exact Nat.le_trans (this 256 (by omega)) (by decide+kernel)
def zzB(st:List Int):List Int:=(List.range 64).map fun i=>st.getD (zig i) 0
def frameB(W Ht:Nat)(half:Bool):List Int:=[8,((Ht/256:Nat):Int),((Ht%256:Nat):Int),((W/256:Nat):Int),((W%256:Nat):Int),3,1,if half then 34 else 17,0,2,17,1,3,17,1]
def tabB(A:List Itm)(t:Nat):List Int:=((t%2+t/2*16:Nat):Int)::dataM (lsC (cntS A t))
def scanB:List Int:=[3,1,0,2,17,3,17,0,63,0]
def stuffB(B:List Int):List Int:=B.flatMap fun c=>if c=255 then[255,0] else[c]
def headB(W Ht:Nat)(half:Bool)(st0 st1:List Int)(A:List Itm):List Int:=
 segB 219 (0::zzB st0)++(segB 219 (1::zzB st1)++(segB 192 (frameB W Ht half)++(segB 196 (tabB A 0)++(segB 196 (tabB A 1)++(segB 196 (tabB A 2)++(segB 196 (tabB A 3)++segB 218 scanB))))))
def encB(W Ht:Nat)(half:Bool)(st0 st1:List Int)(A:List Itm)(B:List Int):List Int:=[255,216]++(headB W Ht half st0 st1 A++(stuffB B++[255,217]))
theorem headM_segB{mark:Int}{d rest:List Int}{s:Jst}(hl:d.length≤60000):headM (segB mark d++rest) s=markM mark d rest s:=by
 have hb:segB mark d++rest=255::mark::(((d.length+2)/256:Nat):Int)::(((d.length+2)%256:Nat):Int)::(d++rest):=by unfold segB;simp
 have hseg:segM ((segB mark d++rest).drop 2)=some (d,rest):=by
  rw[hb]
  simp only[List.drop_succ_cons,List.drop_zero]
  unfold segM
  simp only[List.getD_cons_zero,List.getD_cons_succ,List.length_cons,List.length_append]
  have hn:(((d.length+2)/256:Nat):Int)*256+(((d.length+2)%256:Nat):Int)=((d.length+2:Nat):Int):=by omega
  rw[hn,if_neg (by omega),if_neg (by omega),Int.toNat_natCast]
  rw[show d.length+2=d.length+1+1 from rfl]
  simp only[List.take_succ_cons,List.drop_succ_cons,List.drop_zero,List.take_left',List.drop_left']
 have h1: ¬((segB mark d++rest).length<2∨(segB mark d++rest).getD 0 0≠255):=by
  rw[hb]
  simp only[List.length_cons,List.getD_cons_zero]
  omega
 rw[headM_seg h1 hseg,hb]
 rfl
theorem stuff_body: ∀(B:List Int),bodyM (stuffB B++[255,217])=some B
 |[]=>by simp[stuffB,bodyM]
 |c::B=>by
  have ih:=stuff_body B
  by_cases hc:c=255
  ·subst hc
   have:stuffB (255::B)++[255,217]=255::0::(stuffB B++[255,217]):=by simp[stuffB]
   rw[this,bodyM,if_neg (by decide),if_neg (by decide),ih];rfl
  ·have:stuffB (c::B)++[255,217]=c::(stuffB B++[255,217]):=by simp[stuffB,hc]
   rw[this]
   cases hs:stuffB B++[255,217] with
   |nil=>simp at hs
   |cons x r=>
    rw[hs] at ih
    rw[bodyM,if_pos hc,ih];rfl
end Go.Proofs
namespace Go.Proofs
open Go.Sh
theorem mark_db{d r:List Int}{s:Jst}:markM 219 d r s=(match stepsD d s.st with
 |none=>none
 |some S=>headM r {s with st:=S}):=by unfold markM;rw[if_neg (by decide),if_pos rfl];rfl
theorem mark_c0{d r:List Int}{s:Jst}:markM 192 d r s=(match sizesM d s with
 |none=>none
 |some s'=>headM r s'):=by unfold markM;rw[if_neg (by decide),if_neg (by decide),if_pos rfl];rfl
theorem mark_c4{d r:List Int}{s:Jst}:markM 196 d r s=(match codesD d s.cd with
 |none=>none
 |some C=>headM r {s with cd:=C}):=by unfold markM;rw[if_neg (by decide),if_neg (by decide),if_neg (by decide),if_pos rfl];rfl
theorem mark_da{d r:List Int}{s:Jst}:markM 218 d r s=(match scanM d s with
 |none=>none
 |some t=>some (s,t,r)):=by unfold markM;rw[if_neg (by decide),if_neg (by decide),if_neg (by decide),if_neg (by decide),if_pos rfl];rfl
structure StOk(st:List Int):Prop where
 len:st.length=64
 rng: ∀i,i<64→1≤st.getD i 0∧st.getD i 0≤255
theorem zzB_len(st:List Int):(zzB st).length=64:=tab_len _ _
theorem zzB_get{st:List Int}{i:Nat}(hi:i<64):(zzB st).getD i 0=st.getD (zig i) 0:=tab_getD hi
theorem stepsD_zz{st:List Int}(h:StOk st){k:Nat}(hk:k≤3)(S:StepsT):stepsD ((k:Int)::zzB st) S=some (S.set k (some st)):=by
 have hok:okT ((k:Int)::zzB st):=by
  refine⟨by rw[List.length_cons,zzB_len];omega,by rw[List.getD_cons_zero];omega,fun i hi=>?_⟩
  rw[Nat.add_comm,List.getD_cons_succ,zzB_get hi]
  have:=h.rng _ (zig_lt hi);omega
 rw[stepsD,if_neg (by simp),dif_pos hok,List.drop_succ_cons,List.drop_succ_cons,List.drop_zero,List.drop_eq_nil_of_le (by rw[zzB_len];omega),List.getD_cons_zero,Int.toNat_natCast,spread_zig h.len zeros64 (zzB st) zeros64_len (fun i hi=>zzB_get hi),stepsD,if_pos rfl]
theorem sizesM_frame{W Ht:Nat}{half:Bool}{s:Jst}(hs:s.seen=false)(hz:SizedM W Ht):sizesM (frameB W Ht half) s=some {s with W:=W,Ht:=Ht,seen:=true,half:=half,wh:=[0,1,1]}:=by
 obtain⟨h1,h2,h3,h4,h5⟩:=hz
 have e1:(((W/256:Nat):Int))*256+((W%256:Nat):Int)=W:=by omega
 have e2:(((Ht/256:Nat):Int))*256+((Ht%256:Nat):Int)=Ht:=by omega
 unfold sizesM frameB
 simp only[List.getD_cons_zero,List.getD_cons_succ,List.length_cons,List.length_nil]
 rw[e1,e2,if_pos]
 ·congr 1
  cases half<;>rfl
 ·refine⟨hs,rfl,rfl,rfl,fun k hk=>?_,?_⟩
  rotate_left
  ·show SizedM (((W/256:Nat):Int)*256+((W%256:Nat):Int)) (((Ht/256:Nat):Int)*256+((Ht%256:Nat):Int))
   rw[e1,e2];exact⟨h1,h2,h3,h4,h5⟩
  obtain rfl|rfl|rfl:k=0∨k=1∨k=2:=by omega
  ·cases half
   ·exact⟨rfl,.inl rfl,show(0:Int)≤3 by decide⟩
   ·exact⟨rfl,.inr ⟨rfl,rfl⟩,show(0:Int)≤3 by decide⟩
  ·exact⟨rfl,.inl rfl,show(1:Int)≤3 by decide⟩
  ·exact⟨rfl,.inl rfl,show(1:Int)≤3 by decide⟩
def TTb(A:List Itm)(t:Nat):TabJ:=(srtL (lsC (cntS A t)) 16,srtS (lsC (cntS A t)) 16)
def cdA(A:List Itm)(C:List (Option (List Int×List Int))):List (Option (List Int×List Int)):=(((C.set 0 (some (TTb A 0))).set 1 (some (TTb A 1))).set 4 (some (TTb A 2))).set 5 (some (TTb A 3))
def stA(st0 st1:List Int)(S:StepsT):StepsT:=(S.set 0 (some st0)).set 1 (some st1)
theorem tabB_len{A:List Itm}(hA:A.length≤1000000000)(t:Nat):(tabB A t).length≤273:=by
 unfold tabB dataM
 rw[List.length_cons,List.length_append,cntsL_len,srt_len,srtL_len]
 have:=lsum_le (ls:=lsC (cntS A t)) 16 _ (Nat.le_refl _)
 rw[lsC_len (cntS_ok hA t)] at this
 rw[lsC_len (cntS_ok hA t)]
 omega
theorem codesD_tab{A:List Itm}(hA:A.length≤1000000000)(t:Nat)(ht:t<4)(C:List (Option (List Int×List Int))):codesD (tabB A t) C=some (C.set (t%2+4*(t/2)) (some (TTb A t))):=by
 unfold tabB
 rw[codesD_data (codeC_ok (cntS_ok hA t)) (by omega) (by omega) (by omega)]
 unfold TTb
 congr 2
 omega
theorem head_read{W Ht:Nat}{half:Bool}{st0 st1:List Int}{A:List Itm}(hz:SizedM W Ht)(h0:StOk st0)(h1:StOk st1)(hA:A.length≤1000000000){s:Jst}(hs:s.seen=false)(hst:s.st.length=4)(hcd:s.cd.length=8)(r:List Int):
 headM (headB W Ht half st0 st1 A++r) s=some ({s with W:=W,Ht:=Ht,seen:=true,half:=half,wh:=[0,1,1],st:=stA st0 st1 s.st,cd:=cdA A s.cd},[(0,4),(1,5),(1,5)],r):=by
 unfold headB
 simp only[List.append_assoc]
 rw[headM_segB (by rw[List.length_cons,zzB_len];omega),mark_db,show(0:Int)=((0:Nat):Int) from rfl,stepsD_zz h0 (by omega)]
 simp only
 rw[headM_segB (by rw[List.length_cons,zzB_len];omega),mark_db,show(1:Int)=((1:Nat):Int) from rfl,stepsD_zz h1 (by omega)]
 simp only
 rw[headM_segB (by unfold frameB;simp),mark_c0,sizesM_frame (by exact hs) hz]
 simp only
 rw[headM_segB (by have:=tabB_len hA 0;omega),mark_c4,codesD_tab hA 0 (by omega)]
 simp only
 rw[headM_segB (by have:=tabB_len hA 1;omega),mark_c4,codesD_tab hA 1 (by omega)]
 simp only
 rw[headM_segB (by have:=tabB_len hA 2;omega),mark_c4,codesD_tab hA 2 (by omega)]
 simp only
 rw[headM_segB (by have:=tabB_len hA 3;omega),mark_c4,codesD_tab hA 3 (by omega)]
 simp only
 rw[headM_segB (by decide),mark_da]
 have hsc:scanM scanB {s with W:=(W:Int),Ht:=(Ht:Int),seen:=true,half:=half,wh:=[0,1,1],st:=stA st0 st1 s.st,cd:=cdA A s.cd}=some [(0,4),(1,5),(1,5)]:=by
  unfold scanM
  rw[if_pos]
  ·rfl
  ·refine⟨rfl,rfl,rfl,rfl,rfl,rfl,fun k hk=>?_⟩
   match hS:s.st,hst with
   |[a0,a1,a2,a3],_=>
    match hC:s.cd,hcd with
    |[c0,c1,c2,c3,c4,c5,c6,c7],_=>
     obtain rfl|rfl|rfl:k=0∨k=1∨k=2:=by omega
     all_goals exact⟨rfl,by decide,by decide,rfl,rfl,rfl⟩
 have e:((((s.cd.set (0%2+4*(0/2)) (some (TTb A 0))).set (1%2+4*(1/2)) (some (TTb A 1))).set (2%2+4*(2/2)) (some (TTb A 2))).set (3%2+4*(3/2)) (some (TTb A 3)))=cdA A s.cd:=rfl
 rw[e]
 have e2:(s.st.set 0 (some st0)).set 1 (some st1)=stA st0 st1 s.st:=rfl
 rw[e2,hsc]
def eA(A:List Itm)(t:Nat)(c:Int):List Int:=eBits (lsC (cntS A t)) (mC (cntS A t)) c
theorem bits_of{ws B:List Int}(h:WOk true ws B)(h8:ws.length%8=0):bitsH B=ws:=by
 have hl:=h.len
 refine list_ext_getD (n:=ws.length) (by rw[bitsH_len];omega) rfl fun j hj=>?_
 rw[gD_get (bitsH_get (by omega)),h.bit]
theorem fill_len(ws:List Int)(v:Int):(fillM ws v).length%8=0:=by unfold fillM;rw[List.length_append,List.length_replicate];omega
theorem lsC_pos{A:List Itm}(hA:A.length≤1000000000){x:Itm}(hx:x∈A)(hs:0≤x.s∧x.s<256):0<(lsC (cntS A x.t)).getD x.s.toNat 0:=by
 have hc:=cntS_ok hA x.t
 have h1:=cntS_pos hx hs
 have h2:=lsC_zero hc (i:=x.s.toNat) (by omega)
 have h3:=(codeC_ok hc).rng _ (List.mem_of_getElem? (get_gD (lsC (cntS A x.t)) 0 (i:=x.s.toNat) (by rw[lsC_len hc];omega)))
 rcases Int.lt_or_eq_of_le h3.1 with h|h
 ·exact h
 ·exact absurd (h2.1 h.symm) (by omega)
theorem its_ge{A:List Itm}(hA:A.length≤1000000000): ∀(l:List Itm),(∀x∈l,x∈A∧0≤x.s∧x.s<256)→l.length≤(itsBits (eA A) l).length
 |[],_=>by simp[itsBits]
 |x::l,h=>by
  rw[itsBits_cons,List.length_append,List.length_cons]
  have:=its_ge hA l fun y hy=>h y (List.mem_cons_of_mem _ hy)
  obtain⟨h1,h2⟩:=h x (List.mem_cons_self ..)
  have h3:=lsC_pos hA h1 h2
  have:0<(itBits (eA A) x).length:=by
   unfold itBits eA eBits
   rw[List.length_append,bitsOf_len];omega
  omega
theorem its_cnt: ∀(O:List (Nat×Nat×Nat)) (bl:List (List Int)) (la:List Int),O.length=bl.length→O.length≤(itemsM O bl la).length
 |[],bl,la,_=>by simp
 |u::O,[],la,h=>by simp at h
 |u::O,b::bl,la,h=>by
  rw[itemsM,List.length_append,List.length_cons]
  have:=its_cnt O bl (la.set u.1 (b.getD 0 0)) (by simpa using h)
  have:0<(blkI (min u.1 1) (la.getD u.1 0) b).length:=by unfold blkI;simp
  omega
structure EncOk(W Ht:Nat)(half:Bool)(bl:List (List Int))(st0 st1:List Int)(B:List Int):Prop where
 sz:SizedM W Ht
 W1000:W≤1000
 H1000:Ht≤1000
 bln:bl.length=(orderM W Ht half).length
 wb: ∀b∈bl,WBlk b
 s0:StOk st0
 s1:StOk st1
 bits:WOk true (fillM (itsBits (eA (itemsM (orderM W Ht half) bl [0,0,0])) (itemsM (orderM W Ht half) bl [0,0,0])) 1) B
theorem EncOk.few{W Ht:Nat}{half:Bool}{bl:List (List Int)}{st0 st1 B:List Int}(h:EncOk W Ht half bl st0 st1 B):(itemsM (orderM W Ht half) bl [0,0,0]).length≤1000000000:=by
 have h1:=itemsM_len (orderM W Ht half) bl [0,0,0]
 have h2:=order_cnt W Ht half h.W1000 h.H1000
 omega
theorem la0: ∀j,j<3→ -1024≤([0,0,0]:List Int).getD j 0∧([0,0,0]:List Int).getD j 0<1024:=fun j hj=>by
 obtain rfl|rfl|rfl:j=0∨j=1∨j=2:=by omega
 all_goals exact⟨by decide,by decide⟩
theorem body_read{W Ht:Nat}{half:Bool}{bl:List (List Int)}{st0 st1 B:List Int}(h:EncOk W Ht half bl st0 st1 B){s:Jst}(hs:s.seen=false)(hst:s.st.length=4)(hcd:s.cd.length=8):
 bodyJ {s with W:=W,Ht:=Ht,seen:=true,half:=half,wh:=[0,1,1],st:=stA st0 st1 s.st,cd:=cdA (itemsM (orderM W Ht half) bl [0,0,0]) s.cd} [(0,4),(1,5),(1,5)] B=some ⟨W,Ht,half,bl,[st0,st1,st1]⟩:=by
 have hA:=h.few
 have hsym:=items_sym (orderM W Ht half) bl [0,0,0] h.wb rfl la0 (fun u hu=>(order_in u hu).1)
 have hcnt:=its_cnt (orderM W Ht half) bl [0,0,0] h.bln.symm
 have hB:=bits_of h.bits (fill_len _ _)
 have hBl:=bitsH_len B
 have hin:=order_in (W:=W) (Ht:=Ht) (half:=half)
 have hbits:=h.bits
 generalize hO:orderM W Ht half=O at*
 generalize hAA:itemsM O bl [0,0,0]=A at*
 have hge:=its_ge hA A fun x hx=>⟨hx,(hsym x hx).2.1,(hsym x hx).2.2.1⟩
 have hpad:(fillM (itsBits (eA A) A) 1)=itsBits (eA A) A++List.replicate ((8-(itsBits (eA A) A).length%8)%8) (1%2):=rfl
 rw[hB] at hBl
 have hfl:(fillM (itsBits (eA A) A) 1).length=(itsBits (eA A) A).length+(8-(itsBits (eA A) A).length%8)%8:=by rw[hpad,List.length_append,List.length_replicate]
 unfold bodyJ
 simp only[Int.toNat_natCast]
 rw[hO,if_neg (by omega),hB,hpad]
 have hT: ∀u∈O,u.1<3∧tabsJ {s with W:=(W:Int),Ht:=(Ht:Int),seen:=true,half:=half,wh:=[0,1,1],st:=stA st0 st1 s.st,cd:=cdA A s.cd} [(0,4),(1,5),(1,5)] u.1=(TTb A (min u.1 1),TTb A (min u.1 1+2)):=fun u hu=>by
  have h3:=(hin u hu).1
  refine⟨h3,?_⟩
  match hC:s.cd,hcd with
  |[c0,c1,c2,c3,c4,c5,c6,c7],_=>
   generalize u.1=k at*
   obtain rfl|rfl|rfl:k=0∨k=1∨k=2:=by omega
   all_goals rfl
 have hr: ∀x∈itemsM O bl [0,0,0],Reads (TTb A x.t) (eA A x.t) x.s:=fun x hx=>by
  rw[hAA] at hx
  obtain⟨ht,s1,s2,_⟩:=hsym x hx
  have:=codes_read (codeC_ok (cntS_ok hA x.t)) (s:=x.s.toNat) (by omega) (lsC_pos hA hx ⟨s1,s2⟩)
  rwa [show((x.s.toNat:Nat):Int)=x.s by omega] at this
 have:=items_read (T:=tabsJ {s with W:=(W:Int),Ht:=(Ht:Int),seen:=true,half:=half,wh:=[0,1,1],st:=stA st0 st1 s.st,cd:=cdA A s.cd} [(0,4),(1,5),(1,5)]) (TT:=TTb A) (E:=eA A) (rest:=List.replicate ((8-(itsBits (eA A) A).length%8)%8) (1%2)) O bl [0,0,0] (by rw[h.bln,hO]) h.wb hT rfl la0 hr
 rw[hAA] at this
 rw[this]
 simp only
 rw[if_neg (by rw[List.length_replicate];omega)]
 congr 2
 match hS:s.st,hst with
 |[a0,a1,a2,a3],_=>rfl
theorem dec_enc{W Ht:Nat}{half:Bool}{bl:List (List Int)}{st0 st1 B:List Int}(h:EncOk W Ht half bl st0 st1 B):decJ (encB W Ht half st0 st1 (itemsM (orderM W Ht half) bl [0,0,0]) B)=some ⟨W,Ht,half,bl,[st0,st1,st1]⟩:=by
 unfold decJ encB
 rw[if_neg (by simp)]
 have hd:List.drop 2 (([255,216]:List Int)++(headB W Ht half st0 st1 (itemsM (orderM W Ht half) bl [0,0,0])++(stuffB B++[255,217])))=headB W Ht half st0 st1 (itemsM (orderM W Ht half) bl [0,0,0])++(stuffB B++[255,217]):=rfl
 rw[hd]
 rw[head_read h.sz h.s0 h.s1 h.few rfl rfl rfl]
 simp only
 rw[stuff_body]
 simp only
 exact body_read h (s:=jst0) rfl rfl rfl
end Go.Proofs
